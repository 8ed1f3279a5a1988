/- maps.Merge: the map of the methods by their words. -/
import Derived.Test.YtahidclhplmkiaaGreatDoorM12
import Derived.Test.YtahidclhplmkiaaGreatDoorM5
import Derived.Deep.AppendLies
import Derived.Deep.RegionLaw
import Derived.Maps.AppendAt
namespace Go.Proofs.YtahidclhplmkiaaGreatDoor
open Go.RowKit Go.WideMaps
set_option linter.unusedVariables false
set_option linter.unusedSimpArgs false

/-- How a function reads: by its number. -/
def fElem (v : Value) : Option (DataW Unit × List MemPlace) :=
  match v with
  | .func (.func f) first caps => if first.size = 0 ∧ caps.size = 0 then some (.lit (.int .i64 (f : Int)), []) else none
  | .nilFunc => some (.lit (.int .i64 (-1)), [])
  | _ => none
theorem fElem_func {v : Value} {f : Nat} {ps : List MemPlace} (h : fElem v = some (.lit (.int .i64 (f : Int)), ps)) : v = .func (.func f) #[] #[] := by
  unfold fElem at h
  split at h
  · rename_i f' first caps
    split at h
    · rename_i hs
      simp only [Option.some.injEq, Prod.mk.injEq, DataW.lit.injEq, Lit.int.injEq, true_and] at h
      obtain rfl : f' = f := Int.ofNat_inj.1 h.1
      obtain ⟨h1, h2⟩ := hs
      rw [Array.eq_empty_of_size_eq_zero h1, Array.eq_empty_of_size_eq_zero h2]
    · cases h
  · simp only [Option.some.injEq, Prod.mk.injEq, DataW.lit.injEq, Lit.int.injEq, true_and] at h
    have e := h.1
    have h0 : (0 : Int) ≤ (f : Int) := Int.natCast_nonneg f
    rw [← e] at h0
    exact absurd h0 (by decide)
  · cases h
theorem fElem_nil {v : Value} {ps : List MemPlace} (h : fElem v = some (.lit (.int .i64 (-1)), ps)) : v = .nilFunc := by
  unfold fElem at h
  split at h
  · split at h
    · simp only [Option.some.injEq, Prod.mk.injEq, DataW.lit.injEq, Lit.int.injEq, true_and] at h
      omega
    · cases h
  · rfl
  · cases h
theorem wpList_insert_own {H : Type} {P : Program} (w : World) {ops : Array Oper} {rest : List Oper} {o : Oper} {a : Act} {Q : Exit → Act → World → Prop}
    (hg : o.guard = none) (m x v : Operand) (t : TypeId) (hop : o.op = Op.insert t m x v)
    (k e : TypeId) (K : Maps.Keyed P k) (ht : P.underlying t = some (.map k e)) (R : Value → Option (DataW H × List MemPlace)) (b n : Nat) (D : DataW H)
    (hm : a.eval m = .map (some b)) (hown : w.ownsMap P k R b n D) (hn : n < maxLen) (key val : Value) (kl : Lit) (hx : a.eval x = key) (hv : a.eval v = val) (hkey : keyOf P k key = some kl)
    (d : DataW H) (ps : List MemPlace) (hval : R val = some (d, ps))
    (hK : ∀ w', w'.ownsMap P k R b (n + 1) (D.put kl d) → w.grownBy w' (some b) → wpList P ops Q rest (a.put o.dst undef) w') :
    wpList P ops Q (o :: rest) a w := by
  refine wpList_plain hg fun K' hK' => ?_
  obtain ⟨w', hrun, r1, r2⟩ := hown.update K ht hn hkey hval
  unfold Oper.wp
  simp [execOp, hop, hm, hx, hv, hrun, Result.andThen]
  exact hK' _ _ (hK w' r1 r2)
theorem wpList_lookup_own {H : Type} {P : Program} (w : World) {ops : Array Oper} {rest : List Oper} {o : Oper} {a : Act} {Q : Exit → Act → World → Prop}
    (hg : o.guard = none) (m x : Operand) (t : TypeId) (hop : o.op = Op.lookup t m x false)
    (k e : TypeId) (K : Maps.Keyed P k) (ht : P.underlying t = some (.map k e)) (z : Value) (hz : (zeroValue e).run P w = .ok z w) (R : Value → Option (DataW H × List MemPlace)) (zd : DataW H) (zp : List MemPlace) (hzd : R z = some (zd, zp)) (b n : Nat) (D : DataW H)
    (hm : a.eval m = .map (some b)) (hown : w.ownsMap P k R b n D) (key : Value) (kl : Lit) (hx : a.eval x = key) (hkey : keyOf P k key = some kl)
    (hK : ∀ v ps, R v = some (D.atKey kl zd, ps) → wpList P ops Q rest (a.put o.dst v) w) :
    wpList P ops Q (o :: rest) a w := by
  refine wpList_plain hg fun K' hK' => ?_
  obtain ⟨v, ps, hrun, hv⟩ := hown.lookup K ht hz hzd hkey
  unfold Oper.wp
  simp [execOp, hop, hm, hx, hrun, Result.andThen]
  exact hK' _ _ (hK v ps hv)
theorem law_str : Maps.Keyed Tryz.prog 9 := Maps.string_keyed Tryz.underlying9
theorem slit_is (s : ByteArray) (hs : s.size ≤ 100000) : keyOf Tryz.prog 9 (.string s) = some (.string s.data.toList) := by
  have h : s.size ≤ maxLen := by simp only [maxLen]; omega
  simp [keyOf, mapKey, Tryz.underlying9, h]
def sFirst : ByteArray := { data := #[102, 105, 114, 115, 116] }
def sLast : ByteArray := { data := #[108, 97, 115, 116] }
def sCombine : ByteArray := { data := #[99, 111, 109, 98, 105, 110, 101] }
def sReject : ByteArray := { data := #[114, 101, 106, 101, 99, 116] }
/-- The map of the methods. -/
def modeD : DataW Unit := ((((DataW.map []).put (.string sFirst.data.toList) (.lit (.int .i64 (25 : Nat)))).put (.string sLast.data.toList) (.lit (.int .i64 (26 : Nat)))).put (.string sCombine.data.toList) (.lit (.int .i64 (27 : Nat)))).put (.string sReject.data.toList) (.lit (.int .i64 (28 : Nat)))
theorem mode_first : modeD.atKey (.string sFirst.data.toList) (.lit (.int .i64 (-1))) = .lit (.int .i64 (25 : Nat)) := by kernel_rfl
theorem mode_last : modeD.atKey (.string sLast.data.toList) (.lit (.int .i64 (-1))) = .lit (.int .i64 (26 : Nat)) := by kernel_rfl
theorem mode_combine : modeD.atKey (.string sCombine.data.toList) (.lit (.int .i64 (-1))) = .lit (.int .i64 (27 : Nat)) := by kernel_rfl
theorem mode_reject : modeD.atKey (.string sReject.data.toList) (.lit (.int .i64 (-1))) = .lit (.int .i64 (28 : Nat)) := by kernel_rfl
theorem mode_none : modeD.atKey (.string []) (.lit (.int .i64 (-1))) = .lit (.int .i64 (-1)) := by kernel_rfl
theorem zero_func (w : World) : (zeroValue 59).run Tryz.prog w = .ok .nilFunc w := by kernel_rfl
end Go.Proofs.YtahidclhplmkiaaGreatDoor
/- maps.Merge: a word that is none of the four; a list with an item that is no map. -/
namespace Go.Proofs.YtahidclhplmkiaaGreatDoor
open Go.RowKit Go.WideMaps
set_option linter.unusedVariables false
set_option linter.unusedSimpArgs false

/-- The head's state: the map of the methods has so many words. -/
structure HdS (w W : World) (n : Nat) (D : DataW Unit) : Prop where
  b : Below w.heap.size w W
  m : W.ownsMap Tryz.prog 9 fElem (w.heap.size + 1) n D
  z : W.heap[w.heap.size]? = some zblk
  s : w.heap.size + 2 ≤ W.heap.size
theorem HdS.start (w : World) : HdS w ((w.alloc zblk).alloc (.map #[] 0)) 0 (.map []) :=
  ⟨(box1 w _ _).alloc (by simp) _, by simpa using World.ownsMap_made (H := Unit) (w.alloc zblk) Tryz.prog 9 fElem, hp_past (hp_new rfl), by simp⟩
theorem HdS.next {w W W' : World} {n n' : Nat} {D D' : DataW Unit} (h : HdS w W n D) (hi : W'.ownsMap Tryz.prog 9 fElem (w.heap.size + 1) n' D') (hg : W.grownBy W' (some (w.heap.size + 1))) : HdS w W' n' D' :=
  ⟨h.b.grown hg h.b.size (fun k hk => by cases hk; omega), hi, (hg.block _ (by have := h.s; omega) (by simp)).trans h.z, by have := hg.size; have := h.s; omega⟩
theorem eql_nil (w : World) : (binOp .eql 59 .nilFunc .nilFunc).run Tryz.prog w = .ok (.bool true) w := by kernel_rfl
theorem eql_func (f : Nat) (w : World) : (binOp .eql 59 (.func (.func f) #[] #[]) .nilFunc).run Tryz.prog w = .ok (.bool false) w := by kernel_rfl
set_option maxRecDepth 100000 in
set_option maxHeartbeats 4000000 in
theorem mergeWord_any (v : Value) (w : World) :
    Calls Tryz.prog 7 #[v, .string { data := #[] }] w fun e w' => e = .returned (.tuple #[itV z0, .int .i64 1]) ∧ Below w.heap.size w w' := by
  have hmm := @run_makeMap Tryz.prog
  have en := eql_nil
  have HS := Lib.hid (HdS.start w)
  have SL := Lib.hid (fun (s : ByteArray) (h : s.size ≤ 100000) => slit_is s h)
  go_enter Tryz.func7, Tryz.ntmps7
  go_wp2_with (first
    | (refine wpList_insert_own _ rfl (.tmp 15) _ _ 62 rfl 9 59 law_str Tryz.underlying62 fElem (w.heap.size + 1) _ _ rfl HS.out.m (by simp [maxLen]) _ _ _ rfl rfl (SL.out _ (by decide)) _ [] rfl ?_; intro wi hi gi; replace HS := Lib.hid (HS.out.next hi gi); clear hi gi)
    | (at_lookup; refine wpList_lookup_own _ rfl _ _ 62 rfl 9 59 law_str Tryz.underlying62 .nilFunc (zero_func _) fElem (.lit (.int .i64 (-1))) [] rfl (w.heap.size + 1) _ _ rfl HS.out.m _ _ rfl (SL.out _ (by decide)) ?_; intro v' ps hv'; obtain rfl : v' = .nilFunc := fElem_nil (hv'.trans (congrArg (fun x => some (x, ps)) mode_none)); clear hv'; obtain ⟨d0, d1, d2, d3, d4, d5, d6, d7⟩ := blk8c HS.out.z; obtain ⟨e0, e1, e2, e3, e4, e5, e6, e7⟩ := blk8f HS.out.z)
    | fail)
  obtain ⟨f0, f1, f2, f3, f4, f5, f6, f7⟩ := blk8c (st8 HS.out.z (.int .i64 0) (.int .i64 0) (.string { data := #[] }) (.int .i64 0) (.int .i64 0) (.slice none 0 0) (.slice none 0 0) (.pointer none))
  refine bodyPost_ret (v := .tuple #[itV z0, .int .i64 1]) (w := set8 _ w.heap.size (.int .i64 0) (.int .i64 0) (.string { data := #[] }) (.int .i64 0) (.int .i64 0) (.slice none 0 0) (.slice none 0 0) (.pointer none)) ?_ rfl ⟨rfl, below_set8 HS.out.b (Nat.le_refl _) ..⟩
  generalize set8 _ w.heap.size (.int .i64 0) (.int .i64 0) (.string { data := #[] }) (.int .i64 0) (.int .i64 0) (.slice none 0 0) (.slice none 0 0) (.pointer none) = W at *
  simp [results, Tryz.results7, go_sem, f0, f1, f2, f3, f4, f5, f6, f7, itV, z0]
end Go.Proofs.YtahidclhplmkiaaGreatDoor
/- maps.Merge: a list with an item that is no map is refused. -/
namespace Go.Proofs.YtahidclhplmkiaaGreatDoor
open Go.RowKit Go.WideMaps
set_option linter.unusedVariables false
set_option linter.unusedSimpArgs false

set_option maxRecDepth 100000 in
set_option maxHeartbeats 4000000 in
theorem mergeBad_any (l : List IRow) (v : Value) (w : World) (q : IRow → Bool) (h : RdI w l v) (hok : ∀ r, r ∈ l → ROk r) (hn : l.length ≤ 1000000) (hq : ∀ r, r ∈ l → ∀ W, Below w.heap.size w W → Calls Tryz.prog 30 #[itV r] W (FitP (q r) W)) (h0 : 0 ≤ whr q l 0) :
    Calls Tryz.prog 7 #[v, .string { data := #[114, 101, 106, 101, 99, 116] }] w fun e w' => e = .returned (.tuple #[itV z0, .int .i64 1]) ∧ Below w.heap.size w w' := by
  obtain ⟨A, c, rfl, hm⟩ := h.form
  have HR := Lib.hid h
  have HOK := Lib.hid hok
  have HQ := Lib.hid hq
  have H0 := Lib.hid h0
  have HN := Lib.hid hn
  have hgen : ∃ x, x = whr q l 0 := ⟨_, rfl⟩
  clear h hok hq h0 hm hn
  have hmm := @run_makeMap Tryz.prog
  have en := eql_func 28
  have HS := Lib.hid (HdS.start w)
  have SL := Lib.hid (fun (s : ByteArray) (h : s.size ≤ 100000) => slit_is s h)
  go_enter Tryz.func7, Tryz.ntmps7
  go_wp2_with (first
    | (refine wpList_insert_own _ rfl (.tmp 15) _ _ 62 rfl 9 59 law_str Tryz.underlying62 fElem (w.heap.size + 1) _ _ rfl HS.out.m (by simp [maxLen]) _ _ _ rfl rfl (SL.out _ (by decide)) _ [] rfl ?_; intro wi hi gi; replace HS := Lib.hid (HS.out.next hi gi); clear hi gi)
    | (at_lookup; refine wpList_lookup_own _ rfl _ _ 62 rfl 9 59 law_str Tryz.underlying62 .nilFunc (zero_func _) fElem (.lit (.int .i64 (-1))) [] rfl (w.heap.size + 1) _ _ rfl HS.out.m _ _ rfl (SL.out _ (by decide)) ?_; intro v' ps hv'; obtain rfl : v' = .func (.func 28) #[] #[] := fElem_func (hv'.trans (congrArg (fun x => some (x, ps)) mode_reject)); clear hv')
    | fail)
  refine (whereMI_any l _ _ q (RdRows.below HR.out HS.out.b) HOK.out HN.out (fun r hr W hW => HQ.out r hr W (HS.out.b.trans (hW.mono HS.out.b.size)))).mono ?_
  rintro e w1 ⟨rfl, hb1⟩
  have HB1 := Lib.hid (HS.out.b.trans (hb1.mono HS.out.b.size))
  have x1 := (hb1.block _ (by have := HS.out.s; omega)).trans HS.out.z
  obtain ⟨d0, d1, d2, d3, d4, d5, d6, d7⟩ := blk8c x1
  obtain ⟨e0, e1, e2, e3, e4, e5, e6, e7⟩ := blk8f x1
  have HX1 := Lib.hid x1
  have t1 : decide ((0 : Int) ≤ whr q l 0) = true := by simpa using H0.out
  clear hb1 HS x1
  generalize whr q l 0 = y at *
  go_wp2
  obtain ⟨f0, f1, f2, f3, f4, f5, f6, f7⟩ := blk8c (st8 HX1.out (.int .i64 0) (.int .i64 0) (.string { data := #[] }) (.int .i64 0) (.int .i64 0) (.slice none 0 0) (.slice none 0 0) (.pointer none))
  refine bodyPost_ret (v := .tuple #[itV z0, .int .i64 1]) (w := set8 w1 w.heap.size (.int .i64 0) (.int .i64 0) (.string { data := #[] }) (.int .i64 0) (.int .i64 0) (.slice none 0 0) (.slice none 0 0) (.pointer none)) ?_ rfl ⟨rfl, below_set8 HB1.out (Nat.le_refl _) ..⟩
  generalize set8 w1 w.heap.size (.int .i64 0) (.int .i64 0) (.string { data := #[] }) (.int .i64 0) (.int .i64 0) (.slice none 0 0) (.slice none 0 0) (.pointer none) = W at *
  simp [results, Tryz.results7, go_sem, f0, f1, f2, f3, f4, f5, f6, f7, itV, z0]
theorem merge1_any (r : IRow) (b : Bool) (W : World) (hr : ROk r) (him : ∀ W', Below W.heap.size W W' → Calls Tryz.prog 20 #[itV r] W' fun e w' => e = .returned (.bool b) ∧ Below W'.heap.size W' w') :
    Calls Tryz.prog 30 #[itV r] W (FitP (!b) W) := by
  have HIM := Lib.hid him
  clear him
  obtain ⟨k, ak, tx, tr, nd, ps, ms, fn⟩ := r
  have sps := fun w a m => run_store Tryz.prog w a ps m hr.ps
  have sms := fun w a m => run_store Tryz.prog w a ms m hr.ms
  have sfn := fun w a m => run_store Tryz.prog w a fn m hr.fn
  have ops := hr.ps
  have oms := hr.ms
  have ofn := hr.fn
  dsimp only at ops oms ofn
  clear hr
  simp only [itV] at HIM ⊢
  have HBX := Lib.hid (box1 W 30 #[.int .i64 k, .int .i64 ak, .string tx, .int .i64 tr, .int .i64 nd, ps, ms, fn])
  go_enter Tryz.func30, Tryz.ntmps30
  go_wp2_with fail
  refine (HIM.out _ HBX.out).mono ?_
  rintro e w1 ⟨rfl, hb1⟩
  have HB1 := Lib.hid (HBX.out.trans (hb1.mono HBX.out.size))
  clear hb1
  go_wp2
  go_ret
  exact ⟨rfl, HB1.out⟩
end Go.Proofs.YtahidclhplmkiaaGreatDoor
/- maps.Merge: no maps at all. -/
namespace Go.Proofs.YtahidclhplmkiaaGreatDoor
open Go.RowKit Go.WideMaps
set_option linter.unusedVariables false
set_option linter.unusedSimpArgs false

theorem slit_sReject : sReject.size ≤ 100000 := by decide
set_option maxRecDepth 100000 in
set_option maxHeartbeats 4000000 in
theorem mergeNil_any (w : World) :
    Calls Tryz.prog 7 #[.slice none 0 0, .string { data := #[114, 101, 106, 101, 99, 116] }] w fun e w' => e = .returned (.tuple #[itV (mapR (.slice none 0 0)), .int .i64 0]) ∧ Below w.heap.size w w' := by
  have hmm := @run_makeMap Tryz.prog
  have en := eql_func 28
  have HS := Lib.hid (HdS.start w)
  have SL := Lib.hid (fun (s : ByteArray) (h : s.size ≤ 100000) => slit_is s h)
  go_enter Tryz.func7, Tryz.ntmps7
  go_wp2_with (first
    | (refine wpList_insert_own _ rfl (.tmp 15) _ _ 62 rfl 9 59 law_str Tryz.underlying62 fElem (w.heap.size + 1) _ _ rfl HS.out.m (by simp [maxLen]) _ _ _ rfl rfl (SL.out _ (by decide)) _ [] rfl ?_; intro wi hi gi; replace HS := Lib.hid (HS.out.next hi gi); clear hi gi)
    | (at_lookup; refine wpList_lookup_own _ rfl _ _ 62 rfl 9 59 law_str Tryz.underlying62 .nilFunc (zero_func _) fElem (.lit (.int .i64 (-1))) [] rfl (w.heap.size + 1) _ _ rfl HS.out.m _ _ rfl (SL.out _ (by decide)) ?_; intro v' ps hv'; obtain rfl : v' = .func (.func 28) #[] #[] := fElem_func (hv'.trans (congrArg (fun x => some (x, ps)) mode_reject)); clear hv')
    | fail)
  refine (whereMI_any [] (.slice none 0 0) _ (fun _ => true) (RdRows.nil _ 8 none 0 ⟨fun _ => rfl, Nat.le_refl _, by simp [maxLen]⟩) (fun r hr => nomatch hr) (by simp) (fun r hr => nomatch hr)).mono ?_
  rintro e w1 ⟨rfl, hb1⟩
  have HB1 := Lib.hid (HS.out.b.trans (hb1.mono HS.out.b.size))
  have HZ1 := Lib.hid ((hb1.block _ (by have := HS.out.s; omega)).trans HS.out.z)
  have hw1 : w.heap.size < w1.heap.size := by have := HS.out.s; have := hb1.size; omega
  clear hb1 HS
  simp only [whr]
  go_wp2_with fail
  refine wp_loop_rounds 1 ?_
  rw [rounds_succ]
  go_wp2_with fail
  obtain ⟨W3, hW3⟩ : ∃ W3, ((w1.alloc (.map #[] 0)).alloc (.cells #[.slice none 0 0, .int .i64 0, .map (some w1.heap.size)] 66)).alloc (.map #[] 0) = W3 := ⟨_, rfl⟩
  have hb3 : Below w1.heap.size w1 W3 := hW3 ▸ (((Below.refl w1.heap.size w1).alloc (Nat.le_refl _) _).alloc (by simp) _).alloc (by simp; omega) _
  have xM3 : W3.heap[w1.heap.size + 1]? = some (.cells #[.slice none 0 0, .int .i64 0, .map (some w1.heap.size)] 66) := hW3 ▸ hp_past (hp_new (by simp))
  rw [hW3]
  have HB3 := Lib.hid (HB1.out.trans (hb3.mono HB1.out.size))
  have HZ3 := Lib.hid ((hb3.block _ hw1).trans HZ1.out)
  have hM3 : w1.heap.size + 1 < W3.heap.size := lt_of_block xM3
  have hw3 : w.heap.size < W3.heap.size := by have := hb3.size; omega
  clear hb3 hW3 HB1 HZ1
  generalize w1.heap.size + 1 = M at *
  refine (whereMP_any [] (.slice none 0 0) W3 (fun _ => true) (RdRows.nil _ 3 none 0 ⟨fun _ => rfl, Nat.le_refl _, by simp [maxLen]⟩) (fun r hr => nomatch hr) (by simp) (fun r hr => nomatch hr)).mono ?_
  rintro e w4 ⟨rfl, hb4⟩
  have HB4 := Lib.hid (HB3.out.trans (hb4.mono HB3.out.size))
  have HZ4 := Lib.hid ((hb4.block _ hw3).trans HZ3.out)
  obtain ⟨c0, c1, c2⟩ := blk3c ((hb4.block M hM3).trans xM3)
  have hw4 : w.heap.size < w4.heap.size := by have := hb4.size; omega
  clear hb4 HB3 HZ3 xM3
  simp only [whr]
  go_wp2_with fail
  refine (within_any (r := mapR (.slice none 0 0)) (d := 0) (mapR_it (l := []) (n := 0) (b := 0) (RdRows.nil _ 3 none 0 ⟨fun _ => rfl, Nat.le_refl _, by simp [maxLen]⟩) ⟨[], .nil⟩) (by decide +kernel) (by omega) (by omega)).mono ?_
  rintro e w6 ⟨rfl, hb6⟩
  have x6 := (hb6.block _ hw4).trans HZ4.out
  obtain ⟨d0, d1, d2, d3, d4, d5, d6, d7⟩ := blk8c x6
  obtain ⟨e0, e1, e2, e3, e4, e5, e6, e7⟩ := blk8f x6
  have HX6 := Lib.hid x6
  have HB6 := Lib.hid (HB4.out.trans (hb6.mono HB4.out.size))
  have hlt6 : w.heap.size < w6.heap.size := lt_of_block x6
  clear hb6 x6
  simp only [itV, mapR]
  go_wp2
  obtain ⟨f0, f1, f2, f3, f4, f5, f6, f7⟩ := blk8c (st8 HX6.out (.int .i64 2) (.int .i64 0) (.string { data := #[] }) (.int .i64 0) (.int .i64 0) (.slice none 0 0) (.slice none 0 0) (.pointer none))
  refine bodyPost_ret (v := .tuple #[itV (mapR (.slice none 0 0)), .int .i64 0]) (w := set8 w6 w.heap.size (.int .i64 2) (.int .i64 0) (.string { data := #[] }) (.int .i64 0) (.int .i64 0) (.slice none 0 0) (.slice none 0 0) (.pointer none)) ?_ rfl ⟨rfl, below_set8 HB6.out (Nat.le_refl _) ..⟩
  generalize set8 w6 w.heap.size (.int .i64 2) (.int .i64 0) (.string { data := #[] }) (.int .i64 0) (.int .i64 0) (.slice none 0 0) (.slice none 0 0) (.pointer none) = W at *
  simp [results, Tryz.results7, go_sem, f0, f1, f2, f3, f4, f5, f6, f7, itV, mapR]
end Go.Proofs.YtahidclhplmkiaaGreatDoor
/- maps.Merge: the merger's state, and what merging is: entry by entry. -/
namespace Go.Proofs.YtahidclhplmkiaaGreatDoor
open Go.RowKit Go.WideMaps
set_option linter.unusedVariables false
set_option linter.unusedSimpArgs false

theorem whr_snoc {α : Type} (q : α → Bool) (x : α) : ∀ (l : List α) (i : Int), 0 ≤ i → (whr q l i = -1 → whr q (l ++ [x]) i = if q x = true then i + l.length else -1) ∧ (whr q l i ≠ -1 → whr q (l ++ [x]) i = whr q l i)
  | [], i, hi => by simp [whr]
  | y :: l, i, hi => by
    obtain ⟨h1, h2⟩ := whr_snoc q x l (i + 1) (by omega)
    cases hy : q y with
    | true =>
      have e1 : whr q (y :: l) i = i := by simp [whr, hy]
      have e2 : whr q (y :: l ++ [x]) i = i := by simp [whr, hy]
      rw [e1, e2]
      exact ⟨fun h => by omega, fun _ => rfl⟩
    | false =>
      have e1 : whr q (y :: l) i = whr q l (i + 1) := by simp [whr, hy]
      have e2 : whr q (y :: l ++ [x]) i = whr q (l ++ [x]) (i + 1) := by simp [whr, hy]
      rw [e1, e2]
      refine ⟨fun h => ?_, h2⟩
      rw [h1 h]
      split
      · simp only [List.length_cons]; push_cast; omega
      · rfl
/-- The merger at work. -/
structure MgS (w W : World) (M O Pl base : Nat) (L : List PRow) (lv : Value) (no np : Nat) (Do Dp : DataW Unit) : Prop where
  b : Below w.heap.size w W
  z : W.heap[w.heap.size]? = some zblk
  m : MgB W M lv 0 O
  l : OwnP W base lv L
  o : W.ownsMap Tryz.prog 3 (plainElem Tryz.prog 3) O no Do
  p : W.ownsMap Tryz.prog 69 (plainElem Tryz.prog 3) Pl np Dp
  i : Maps.IsMap Dp
  d : ∀ t, DS t → Dp.atKey (klit t) (.lit (.int .i64 0)) = .lit (.int .i64 (whr (keyAt t) L 0 + 1))
  s : base ≤ W.heap.size
theorem MgS.below {w W W' : World} {M O Pl base : Nat} {L : List PRow} {lv : Value} {no np : Nat} {Do Dp : DataW Unit} (h : MgS w W M O Pl base L lv no np Do Dp) (hb : Below W.heap.size W W') : MgS w W' M O Pl base L lv no np Do Dp :=
  ⟨h.b.trans (hb.mono h.b.size), (hb.block _ (lt_of_block h.z)).trans h.z, (hb.block _ (lt_of_block h.m)).trans h.m, h.l.below hb, map_below h.o hb h.o.lt, map_below h.p hb h.p.lt, h.i, h.d, Nat.le_trans h.s hb.size⟩
theorem keyAt_ne {t : ByteArray} {p : PRow} (ht : DS t) (hp : DS p.tx) (e : t ≠ p.tx) : keyAt t p = false := by
  unfold keyAt
  cases hb : (p.tx.toList == t.toList) with
  | false => rfl
  | true =>
    exfalso
    generalize p.tx = s at *
    rcases ht with rfl | rfl | rfl <;> rcases hp with rfl | rfl | rfl
    all_goals first | exact e rfl | exact absurd hb (by decide +kernel)
set_option maxRecDepth 100000 in
theorem dp_new {Dp : DataW Unit} {L : List PRow} {p : PRow} (hi : Maps.IsMap Dp) (hd : ∀ t, DS t → Dp.atKey (klit t) (.lit (.int .i64 0)) = .lit (.int .i64 (whr (keyAt t) L 0 + 1))) (hp : DS p.tx) (hn : whr (keyAt p.tx) L 0 = -1) :
    Maps.IsMap (Dp.put (klit p.tx) (.lit (.int .i64 ((L.length : Int) + 1)))) ∧ ∀ t, DS t → (Dp.put (klit p.tx) (.lit (.int .i64 ((L.length : Int) + 1)))).atKey (klit t) (.lit (.int .i64 0)) = .lit (.int .i64 (whr (keyAt t) (L ++ [p]) 0 + 1)) := by
  refine ⟨?_, fun t ht => ?_⟩
  · obtain ⟨es, rfl⟩ := hi
    exact ⟨_, rfl⟩
  · obtain ⟨s1, s2⟩ := whr_snoc (keyAt t) p L 0 (by omega)
    by_cases e : t = p.tx
    · have hkk : klit t = klit p.tx := by rw [e]
      rw [hkk, Maps.atKey_put_same hi (klit_lit hp), s1 (by rw [e]; exact hn), if_pos (by rw [e]; simp [keyAt])]
      simp
    · rw [Maps.atKey_put_other (klit_ne ht hp e), hd t ht]
      by_cases h1 : whr (keyAt t) L 0 = -1
      · rw [s1 h1, h1, keyAt_ne ht hp e]; simp
      · rw [s2 h1]
theorem MgS.start {w w1 : World} (hb : Below w.heap.size w w1) (hz : w1.heap[w.heap.size]? = some zblk) (hw : w.heap.size < w1.heap.size) :
    MgS w (((w1.alloc (.map #[] 0)).alloc (.cells #[.slice none 0 0, .int .i64 0, .map (some w1.heap.size)] 66)).alloc (.map #[] 0)) (w1.heap.size + 1) w1.heap.size (w1.heap.size + 1 + 1) (w1.heap.size + 3) [] (.slice none 0 0) 0 0 (.map []) (.map []) where
  b := ((hb.alloc (by omega) _).alloc (by simp; omega) _).alloc (by simp; omega) _
  z := hp_past (hp_past (hp_past hz))
  m := hp_past (hp_new (by simp))
  l := World.ownsRow_nil _ _ _ _
  o := ((World.ownsMap_made w1 _ _ _).alloc _).alloc _
  p := by simpa using World.ownsMap_made (H := Unit) ((w1.alloc (.map #[] 0)).alloc (.cells #[.slice none 0 0, .int .i64 0, .map (some w1.heap.size)] 66)) Tryz.prog 69 (plainElem Tryz.prog 3)
  i := ⟨[], rfl⟩
  d := fun t _ => rfl
  s := by simp
/-- An entry of a merged map: its key, and the items of its value. -/
structure SRow where
  ak : Int
  tx : ByteArray
  rows : List IRow
def kP (p : PRow) : Int × ByteArray := (p.ak, p.tx)
def kS (s : SRow) : Int × ByteArray := (s.ak, s.tx)
theorem GrB.join {a b c : World} {S S' : Nat → Prop} (h : GrB a b S) (k : GrB b c S') (hs : ∀ x, x < a.heap.size → S' x → S x) : GrB a c S :=
  ⟨k.os.trans h.os, k.tape.trans h.tape, k.output.trans h.output, Nat.le_trans h.size k.size, fun i hi hn => (k.block i (Nat.lt_of_lt_of_le hi h.size) (fun e => hn (hs i hi e))).trans (h.block i hi hn)⟩
/-- The blocks that the merger may change. -/
def MgX (w : World) (base : Nat) (lv : Value) (x : Nat) : Prop := (w.heap.size ≤ x ∧ x < base) ∨ lv.ownBlock = some x
def VR (w W : World) (base : Nat) (lv : Value) (p : PRow) (s : SRow) : Prop :=
  ∃ A n c, p.v = .slice A n c ∧ s.rows.length = n ∧ (∀ r, r ∈ s.rows → ROk r) ∧ ∀ W', GrB W W' (MgX w base lv) → RdI W' s.rows p.v
theorem VR.next {w W W1 : World} {base : Nat} {lv lv1 : Value} {p : PRow} {s : SRow} (h : VR w W base lv p s) (hg : GrB W W1 (MgX w base lv)) (hl : ∀ x, x < W.heap.size → lv1.ownBlock = some x → lv.ownBlock = some x) : VR w W1 base lv1 p s := by
  obtain ⟨A, n, c, h1, h2, h3, h4⟩ := h
  refine ⟨A, n, c, h1, h2, h3, fun W' hW' => h4 W' (hg.join hW' fun x hx hs => ?_)⟩
  rcases hs with hs | hs
  · exact .inl hs
  · exact .inr (hl x hx hs)
theorem VR.below {w W W1 : World} {base : Nat} {lv : Value} {p : PRow} {s : SRow} (h : VR w W base lv p s) (hb : Below W.heap.size W W1) : VR w W1 base lv p s := h.next (GrB.of_below hb) fun _ _ e => e
theorem VR.old {w W : World} {base : Nat} {lv : Value} {p : PRow} {s : SRow} {A : Option Addr} {n c : Nat} (hb : Below w.heap.size w W) (hl : ∀ x, lv.ownBlock = some x → w.heap.size ≤ x) (hv : p.v = .slice A n c) (hn : s.rows.length = n) (hok : ∀ r, r ∈ s.rows → ROk r) (hr : RdI w s.rows p.v) : VR w W base lv p s := by
  refine ⟨A, n, c, hv, hn, hok, fun W' hW' => RdRows.below hr (GrB.below hb (fun k hk => ?_) hW')⟩
  rcases hk with hk | hk
  · exact hk.1
  · exact hl k hk
structure VRs (w W : World) (base : Nat) (lv : Value) (L : List PRow) (S : List SRow) : Prop where
  e : L.map kP = S.map kS
  v : ∀ (i : Nat) (p : PRow) (s : SRow), L[i]? = some p → S[i]? = some s → VR w W base lv p s
theorem VRs.len {w W : World} {base : Nat} {lv : Value} {L : List PRow} {S : List SRow} (h : VRs w W base lv L S) : L.length = S.length := by
  have := congrArg List.length h.e
  simpa using this
theorem VRs.nil (w W : World) (base : Nat) (lv : Value) : VRs w W base lv [] [] := ⟨rfl, fun i p s h => by simp at h⟩
theorem VRs.next {w W W1 : World} {base : Nat} {lv lv1 : Value} {L : List PRow} {S : List SRow} (h : VRs w W base lv L S) (hg : GrB W W1 (MgX w base lv)) (hl : ∀ x, x < W.heap.size → lv1.ownBlock = some x → lv.ownBlock = some x) : VRs w W1 base lv1 L S :=
  ⟨h.e, fun i p s hp hs => (h.v i p s hp hs).next hg hl⟩
theorem VRs.below {w W W1 : World} {base : Nat} {lv : Value} {L : List PRow} {S : List SRow} (h : VRs w W base lv L S) (hb : Below W.heap.size W W1) : VRs w W1 base lv L S := h.next (GrB.of_below hb) fun _ _ e => e
theorem VRs.snoc {w W : World} {base : Nat} {lv : Value} {L : List PRow} {S : List SRow} {p : PRow} {s : SRow} (h : VRs w W base lv L S) (hv : VR w W base lv p s) (hk : kP p = kS s) : VRs w W base lv (L ++ [p]) (S ++ [s]) := by
  refine ⟨by simp [h.e, hk], fun i p' s' hp hs => ?_⟩
  have hlen := h.len
  by_cases hi : i < L.length
  · rw [List.getElem?_append_left hi] at hp
    rw [List.getElem?_append_left (by omega)] at hs
    exact h.v i p' s' hp hs
  · rw [List.getElem?_append_right (by omega)] at hp
    rw [List.getElem?_append_right (by omega)] at hs
    have h0 : i - L.length = 0 := by
      obtain ⟨hlt, _⟩ := List.getElem?_eq_some_iff.1 hp
      simp at hlt
      omega
    rw [h0] at hp
    rw [show i - S.length = 0 by omega] at hs
    simp only [List.getElem?_cons_zero, Option.some.injEq] at hp hs
    subst hp
    subst hs
    exact hv
theorem VRs.set {w W : World} {base : Nat} {lv : Value} {L : List PRow} {S : List SRow} {p : PRow} {s : SRow} (h : VRs w W base lv L S) (i : Nat) (hv : VR w W base lv p s) (hk : kP p = kS s) : VRs w W base lv (L.set i p) (S.set i s) := by
  refine ⟨by rw [List.map_set, List.map_set, h.e, hk], fun j p' s' hp hs => ?_⟩
  rw [List.getElem?_set] at hp hs
  by_cases e : i = j
  · subst e
    simp only [if_true] at hp hs
    split at hp
    · split at hs
      · cases hp
        cases hs
        exact hv
      · cases hs
    · cases hp
  · simp only [e, if_false] at hp hs
    exact h.v j p' s' hp hs
/-- Merging on lists: T says what is done to an entry whose key is there. -/
abbrev MgT := List SRow → Nat → SRow → Except Int (List SRow)
def keyS (t : ByteArray) (s : SRow) : Bool := s.tx.toList == t.toList
def stepS (T : MgT) (a : Except Int (List SRow)) (s : SRow) : Except Int (List SRow) :=
  match a with
  | .error e => .error e
  | .ok S => if whr (keyS s.tx) S 0 = -1 then .ok (S ++ [s]) else T S (whr (keyS s.tx) S 0).toNat s
def sp (rw : PRow → List IRow) (p : PRow) : SRow := ⟨p.ak, p.tx, rw p⟩
def foldS (T : MgT) (rw : PRow → List IRow) (cs : List PRow) : Except Int (List SRow) := (cs.map (sp rw)).foldl (stepS T) (.ok [])
theorem foldS_snoc (T : MgT) (rw : PRow → List IRow) (cs : List PRow) (p : PRow) : foldS T rw (cs ++ [p]) = stepS T (foldS T rw cs) (sp rw p) := by
  simp [foldS, List.foldl_append]
theorem foldS_err {T : MgT} {rw : PRow → List IRow} {e : Int} : ∀ (r : List PRow) {cs : List PRow}, foldS T rw cs = .error e → foldS T rw (cs ++ r) = .error e
  | [], cs, h => by simpa using h
  | p :: r, cs, h => by
    rw [show cs ++ p :: r = (cs ++ [p]) ++ r by simp]
    exact foldS_err r (by rw [foldS_snoc, h]; rfl)
theorem whr_map {α β : Type} (f : α → β) (q : β → Bool) : ∀ (l : List α) (i : Int), whr q (l.map f) i = whr (fun x => q (f x)) l i
  | [], i => rfl
  | x :: l, i => by simp only [List.map_cons, whr, whr_map f q l]
theorem VRs.whrE {w W : World} {base : Nat} {lv : Value} {L : List PRow} {S : List SRow} (h : VRs w W base lv L S) (t : ByteArray) : whr (keyAt t) L 0 = whr (keyS t) S 0 := by
  have h1 := whr_map kP (fun x => x.2.toList == t.toList) L 0
  have h2 := whr_map kS (fun x => x.2.toList == t.toList) S 0
  rw [h.e, h2] at h1
  exact h1.symm
theorem whr_rng {α : Type} (q : α → Bool) : ∀ (l : List α) (i : Int), 0 ≤ i → whr q l i = -1 ∨ (i ≤ whr q l i ∧ whr q l i < i + l.length)
  | [], i, hi => .inl rfl
  | x :: l, i, hi => by
    by_cases hx : q x = true
    · right; simp only [whr, hx, if_true, List.length_cons]; omega
    · simp only [whr, hx, if_false, List.length_cons, Bool.false_eq_true]
      rcases whr_rng q l (i + 1) (by omega) with h | h
      · exact .inl h
      · right; push_cast; omega
/-- The merger after so many entries. -/
def MgI (T : MgT) (rw : PRow → List IRow) (C : List PRow → DataW Unit → Prop) (w : World) (O : Nat) (cs : List PRow) (W : World) : Prop :=
  ∃ lv L S no np Do Dp, MgS w W (O + 1) O (O + 1 + 1) (O + 3) L lv no np Do Dp ∧ foldS T rw cs = .ok S ∧ VRs w W (O + 3) lv L S ∧ C cs Do ∧ np ≤ cs.length ∧ no ≤ cs.length ∧ L.length ≤ cs.length
/-- What is asked of the mode: at an entry whose key is there. -/
def AgP (f : Nat) (T : MgT) (rw : PRow → List IRow) (C : List PRow → DataW Unit → Prop) (w : World) (P : List PRow) : Prop :=
  ∀ (O : Nat) (cs r : List PRow) (p : PRow) (W : World) (lv : Value) (L : List PRow) (S : List SRow) (no np : Nat) (Do Dp : DataW Unit) (i : Nat), w.heap.size < O → P = cs ++ p :: r → MgS w W (O + 1) O (O + 1 + 1) (O + 3) L lv no np Do Dp → foldS T rw cs = .ok S → VRs w W (O + 3) lv L S → C cs Do → no ≤ 1000 →
    whr (keyS p.tx) S 0 = (i : Int) → i < L.length → L.length ≤ 1000 → VR w W (O + 3) lv p (sp rw p) →
    Calls Tryz.prog f #[.pointer (some ⟨O + 1, 0, none⟩), .int .i64 (i : Int), pV p] W fun e W' => e = .returned (.tuple #[]) ∧
      ((∃ S', T S i (sp rw p) = .ok S' ∧ ∃ lv' L' no' Do', MgS w W' (O + 1) O (O + 1 + 1) (O + 3) L' lv' no' np Do' Dp ∧ VRs w W' (O + 3) lv' L' S' ∧ C (cs ++ [p]) Do' ∧ no' ≤ no + 1 ∧ L'.length = L.length) ∨
       (∃ er, T S i (sp rw p) = .error er ∧ ∃ lv', MgB W' (O + 1) lv' er O ∧ Below w.heap.size w W' ∧ W'.heap[w.heap.size]? = some zblk ∧ 0 < er ∧ er < 100))
end Go.Proofs.YtahidclhplmkiaaGreatDoor
/- maps.Merge: an entry that is new: append to the merger's list, the places' map. -/
namespace Go.Proofs.YtahidclhplmkiaaGreatDoor
open Go.RowKit Go.WideMaps
set_option linter.unusedVariables false
set_option linter.unusedSimpArgs false

structure MgN (w W W1 : World) (O : Nat) (L : List PRow) (S : List SRow) (lv lv' : Value) (p : PRow) (no np : Nat) (Do Dp : DataW Unit) : Prop where
  old : ∀ x, x < W.heap.size → lv.ownBlock ≠ some x → W1.heap[x]? = W.heap[x]?
  size : W.heap.size < W1.heap.size
  old2 : ∀ x, x < W.heap.size → x ≠ O + 1 → lv.ownBlock ≠ some x → (W1.setCell ⟨O + 1, 0, none⟩ lv').heap[x]? = W.heap[x]?
  m2 : MgB (W1.setCell ⟨O + 1, 0, none⟩ lv') (O + 1) lv' 0 O
  pl : (W1.setCell ⟨O + 1, 0, none⟩ lv').ownsMap Tryz.prog 69 (plainElem Tryz.prog 3) (O + 1 + 1) np Dp
  fin : ∀ (w3 : World) (n' : Nat) (D' : DataW Unit), w3.ownsMap Tryz.prog 69 (plainElem Tryz.prog 3) (O + 1 + 1) n' D' → (W1.setCell ⟨O + 1, 0, none⟩ lv').drew.grownBy w3 (some (O + 1 + 1)) → Maps.IsMap D' →
    (∀ t, DS t → D'.atKey (klit t) (.lit (.int .i64 0)) = .lit (.int .i64 (whr (keyAt t) (L ++ [p]) 0 + 1))) →
    MgS w w3 (O + 1) O (O + 1 + 1) (O + 3) (L ++ [p]) lv' no n' Do D' ∧ ∀ s, VR w W (O + 3) lv p s → kP p = kS s → VRs w w3 (O + 3) lv' (L ++ [p]) (S ++ [s])
set_option maxHeartbeats 1000000 in
theorem mg_run {w W : World} {O : Nat} {L : List PRow} {S : List SRow} {lv : Value} {no np : Nat} {Do Dp : DataW Unit} (hst : MgS w W (O + 1) O (O + 1 + 1) (O + 3) L lv no np Do Dp) (hvr : VRs w W (O + 3) lv L S) (hw : w.heap.size < O) (hl : L.length ≤ 1000) (p : PRow) (hp : p.v.oneCell' = true) :
    ∃ A c W1, (Builtin.append_ #[27, 27] 27 #[lv, .slice (some ⟨W.heap.size, 0, none⟩) 1 1]).run Tryz.prog (W.drew.alloc (.cells #[.int .i64 p.ak, .string p.tx, p.v] 33)) = .ok (.slice A (L.length + 1) c) W1 ∧
      MgN w W W1 O L S lv (.slice A (L.length + 1) c) p no np Do Dp := by
  obtain ⟨i0, hi, hz0, hz1, hz2⟩ := info_parts info_pair
  have hs := hst.s
  obtain ⟨lv', W1, hrun, ho1, hg1, _, hbl⟩ := run_append_own_at (P := Tryz.prog) (W.drew.alloc (.cells #[.int .i64 p.ak, .string p.tx, p.v] 33)) (O + 3) 27 27 33 i0 _ 3 48 Tryz.underlying27 hi hz0 hz1 hz2 rfl (by decide) lv L.length (pflat L) (World.ownsRow.alloc (World.ownsRow.drew hst.l) _) ⟨W.heap.size, 0, none⟩ 1 1 p.cells rfl
    (World.news_of_block (cs := #[.int .i64 p.ak, .string p.tx, p.v]) (t := 33) (fr := (0, 0)) (heap_alloc_new W.drew _)) (by
      intro u hu
      simp only [PRow.cells, List.mem_cons, List.not_mem_nil, or_false] at hu
      rcases hu with rfl | rfl | rfl
      · rfl
      · rfl
      · exact hp) (by simp only [maxLen]; omega) (by omega) (by show O + 3 ≤ (W.heap.push _).size; simp; omega)
  have e : pflat (L ++ [p]) = pflat L ++ p.cells := by rw [pflat_append]; simp [pflat]
  have ho1' : OwnP W1 (O + 3) lv' (L ++ [p]) := by
    unfold OwnP
    rw [e]; simpa using ho1
  obtain ⟨A, c, rfl⟩ := ho1'.form
  rw [List.length_append, show [p].length = 1 from rfl] at hrun ho1' hbl
  refine ⟨A, c, W1, by simpa using hrun, ?_⟩
  have hg0 : W.grownBy W1 lv.ownBlock := ⟨hg1.os, hg1.tape, hg1.output, by have := hg1.size; simp at this; omega, fun k hk hn => (hg1.block k (by simp; omega) hn).trans ((World.grownBy_alloc W.drew _ none).block k hk (by simp))⟩
  have hsz : W.heap.size < W1.heap.size := by have := hg1.size; simp at this; omega
  have hlvlt := World.ownsRow.lt hst.l
  have hne : ∀ k, k < O + 3 → some k ≠ lv.ownBlock := fun k hk ek => by have := (hlvlt k ek.symm).1; omega
  have hbl' : ∀ g, (Value.slice A (L.length + 1) c).ownBlock = some g → lv.ownBlock = some g ∨ W.heap.size ≤ g := fun g hg => by
    rcases hbl with hb | hb
    · left
      rw [← hb]
      exact hg
    · right
      rw [hb] at hg
      cases hg
      simp
  have hM1 : W1.heap[O + 1]? = some (.cells #[lv, .int .i64 0, .map (some O)] 66) := (hg0.block (O + 1) (by omega) (hne _ (by omega))).trans hst.m
  have hgs := @grow_set W1 (O + 1) 0 (.slice A (L.length + 1) c)
  generalize hW2 : W1.setCell ⟨O + 1, 0, none⟩ (.slice A (L.length + 1) c) = W2 at *
  have hG2 : GrB W W2 (MgX w (O + 3) lv) := by
    refine (GrB.of_grown hg0 fun k hk => .inr hk).join (S' := fun x => x = O + 1) (GrB.of_grown hgs fun k hk => by cases hk; rfl) fun x _ hx => .inl ⟨by omega, by omega⟩
  refine ⟨fun x hx hn => hg0.block x hx (fun e => hn e.symm), hsz, fun x hx h1 hn => ?_, ?_, ?_, fun w3 n' D' hp3 hg3 hi3 hd3 => ?_⟩
  · rw [hW2]
    exact (hgs.block x (by omega) (by simp; omega)).trans (hg0.block x hx (fun e => hn e.symm))
  · rw [hW2, ← hW2]
    unfold MgB
    rw [blk_set hM1]
    rfl
  · rw [hW2]
    exact (hst.p.kept hg0 (hne _ (by omega))).kept hgs (by simp)
  · rw [hW2] at hg3
    have hg3' : W2.grownBy w3 (some (O + 1 + 1)) := ⟨hg3.os, hg3.tape, hg3.output, hg3.size, hg3.block⟩
    have hs2 : W1.heap.size ≤ W2.heap.size := hgs.size
    have hO2 : OwnP W2 (O + 3) (.slice A (L.length + 1) c) (L ++ [p]) := ho1'.grown hgs (by
      cases hA : (Value.slice A (L.length + 1) c).ownBlock with
      | none => exact .inl rfl
      | some g => exact .inr (by have h3 := (World.ownsRow.lt ho1' g hA).1; simp; omega))
    have hlt' := World.ownsRow.lt hO2
    have hM2 : MgB W2 (O + 1) (.slice A (L.length + 1) c) 0 O := by
      rw [← hW2]; unfold MgB; rw [blk_set hM1]; rfl
    have hG3 : GrB W w3 (MgX w (O + 3) lv) := hG2.join (S' := fun x => x = O + 1 + 1) (GrB.of_grown hg3' fun k hk => by cases hk; rfl) fun x _ hx => .inl ⟨by omega, by omega⟩
    have hb3 : Below w.heap.size w w3 := GrB.below hst.b (fun k hk => by
      rcases hk with hk | hk
      · exact hk.1
      · have := (hlvlt k hk).1; omega) hG3
    have hz3 : w3.heap[w.heap.size]? = some zblk := by
      have hzl := lt_of_block hst.z
      exact (hg3'.block _ (by omega) (by simp; omega)).trans ((hgs.block _ (by omega) (by simp; omega)).trans ((hg0.block _ hzl (hne _ (by omega))).trans hst.z))
    refine ⟨⟨hb3, hz3, (hg3'.block _ (by omega) (by simp)).trans hM2, hO2.grown hg3' ?_, ((hst.o.kept hg0 (hne _ (by omega))).kept hgs (by simp)).kept hg3' (by simp; omega), hp3, hi3, hd3, by have := hg3'.size; omega⟩, fun s hv hk => ?_⟩
    · cases hA : (Value.slice A (L.length + 1) c).ownBlock with
      | none => exact .inl rfl
      | some g => exact .inr (by have := (hlt' g hA).1; simp; omega)
    · have hl' : ∀ x, x < W.heap.size → (Value.slice A (L.length + 1) c).ownBlock = some x → lv.ownBlock = some x := fun x hx hs => by
        rcases hbl' x hs with h | h
        · exact h
        · omega
      exact (hvr.next hG3 hl').snoc (hv.next hG3 hl') hk
end Go.Proofs.YtahidclhplmkiaaGreatDoor
/- maps.Merge: the walk through maps whose entries' keys are known. -/
namespace Go.Proofs.YtahidclhplmkiaaGreatDoor
open Go.RowKit Go.WideMaps
set_option linter.unusedVariables false
set_option linter.unusedSimpArgs false

/-- What Merge answers. -/
def MgP (w : World) (R : Except Int (List SRow)) (e : Ending) (w' : World) : Prop :=
  match R with
  | .ok S => ∃ L u, e = .returned (.tuple #[itV (mapR u), .int .i64 0]) ∧ RdP w' L u ∧ L.map kP = S.map kS ∧ (∀ (i : Nat) (p : PRow) (s : SRow), L[i]? = some p → S[i]? = some s → ∃ A n c, p.v = .slice A n c ∧ s.rows.length = n ∧ RdI w' s.rows p.v) ∧ Below w.heap.size w w'
  | .error er => e = .returned (.tuple #[itV z0, .int .i64 er]) ∧ Below w.heap.size w w'
theorem blk2m {W : World} {X : Nat} {t : TypeId} {a0 a1 : Value} (h : W.heap[X]? = some (.cells #[a0, a1] t (0, 0))) : W.cell? ⟨X, 0, none⟩ = some a0 ∧ W.cell? ⟨X, 1, none⟩ = some a1 := by
  simp [World.cell?, h]
theorem merge2_any (p : PRow) (A : Option Addr) (n c : Nat) (hv : p.v = .slice A n c) (hn : n ≤ 65536) (W : World) : Calls Tryz.prog 33 #[pV p] W (FitP false W) := by
  obtain ⟨pak, ptx, pv⟩ := p
  dsimp only at hv
  subst hv
  have t1 : decide ((65536 : Int) < (n : Int)) = false := by simp; omega
  have HB := Lib.hid (box1 W 33 #[.int .i64 pak, .string ptx, .slice A n c])
  simp only [pV]
  go_enter Tryz.func33, Tryz.ntmps33
  go_wp2
  go_ret
  exact ⟨by simp, HB.out⟩
theorem take_flat {Es : List (List PRow)} {k : Nat} {E : List PRow} (h : Es[k]? = some E) : (Es.take (k + 1)).flatten = (Es.take k).flatten ++ E := by
  rw [List.take_add_one, h]; simp
theorem mem_flat {Es : List (List PRow)} {k : Nat} {E : List PRow} (h : Es[k]? = some E) {p : PRow} (hp : p ∈ E) : p ∈ Es.flatten := List.mem_flatten.2 ⟨E, List.mem_of_getElem? h, hp⟩
theorem split_two {α : Type} {Es X Y : List (List α)} {E a b : List α} {p : α} (h : Es = X ++ E :: Y) (h' : E = a ++ p :: b) : Es.flatten = (X.flatten ++ a) ++ p :: (b ++ Y.flatten) := by
  subst h' h
  simp
theorem split_flat {Es : List (List PRow)} {k j : Nat} {E : List PRow} {p : PRow} (h : Es[k]? = some E) (hp : E[j]? = some p) : Es.flatten = ((Es.take k).flatten ++ E.take j) ++ p :: (E.drop (j + 1) ++ (Es.drop (k + 1)).flatten) := by
  obtain ⟨hk, h⟩ := List.getElem?_eq_some_iff.1 h
  obtain ⟨hj, hp⟩ := List.getElem?_eq_some_iff.1 hp
  refine split_two (E := E) ?_ ?_
  · rw [← h, ← List.drop_eq_getElem_cons hk, List.take_append_drop]
  · rw [← hp, ← List.drop_eq_getElem_cons hj, List.take_append_drop]
theorem len_split {P cs r : List PRow} {p : PRow} (h : P = cs ++ p :: r) : cs.length + 1 ≤ P.length := by
  subst h; simp
set_option maxRecDepth 100000 in
set_option maxHeartbeats 8000000 in
theorem mergeAll_any (f : Nat) (how : ByteArray) (hh : how.size ≤ 1000) (eg : ∀ args w, (callFunc f args).run Tryz.prog w = .ok (.enter f args) w) (hmode : ∀ v' ps, fElem v' = some (modeD.atKey (.string how.data.toList) (.lit (.int .i64 (-1))), ps) → v' = .func (.func f) #[] #[])
    (T : MgT) (rw' : PRow → List IRow) (C : List PRow → DataW Unit → Prop) (Rs : List IRow) (Es : List (List PRow)) (v : Value) (w : World) (hv : RdI w Rs v) (hle : Es.length = Rs.length)
    (hmap : ∀ (k : Nat) (r : IRow) (E : List PRow), Rs[k]? = some r → Es[k]? = some E → MapE w r E)
    (hval : ∀ p, p ∈ Es.flatten → ∃ A n c, p.v = .slice A n c ∧ (rw' p).length = n ∧ n ≤ 100000 ∧ (∀ r, r ∈ rw' p → ROk r) ∧ RdI w (rw' p) p.v)
    (hC0 : C [] (.map [])) (hCn : ∀ cs p Do, C cs Do → C (cs ++ [p]) Do) (hag : AgP f T rw' C w Es.flatten) (hn : Es.flatten.length ≤ 1000) (hRs : Rs.length ≤ 1000)
    (hend : ∀ S, foldS T rw' Es.flatten = .ok S → (∀ s, s ∈ S → s.rows.length ≤ 65536 ∧ (s.ak = 3 ∨ s.ak = 4)) ∧ ∀ W base lv L, Below w.heap.size w W → VRs w W base lv L S → ∃ d n b, EntS W d L n b ∧ ovB (1 + n) b = false) :
    Calls Tryz.prog 7 #[v, .string how] w (MgP w (foldS T rw' Es.flatten)) := by
  obtain ⟨A, c, rfl, hm⟩ := hv.form
  have HV := Lib.hid hv
  have HMAP := Lib.hid hmap
  have HVAL := Lib.hid hval
  have HC0 := Lib.hid hC0
  have HCN := Lib.hid hCn
  have HAG := Lib.hid hag
  have HN := Lib.hid hn
  have HEND := Lib.hid hend
  have HMODE := Lib.hid hmode
  have HH := Lib.hid hh
  have HLE := Lib.hid hle
  have HROK := Lib.hid (show ∀ r, r ∈ Rs → ROk r from fun r hr => by
    obtain ⟨k, hk, rfl⟩ := List.getElem_of_mem hr
    exact (hmap k _ (Es[k]'(by omega)) (by simp [hk]) (by simp)).ok)
  have HIS := Lib.hid (show ∀ r, r ∈ Rs → ∃ E, MapE w r E from fun r hr => by
    obtain ⟨k, hk, rfl⟩ := List.getElem_of_mem hr
    exact ⟨Es[k]'(by omega), hmap k _ (Es[k]'(by omega)) (by simp [hk]) (by simp)⟩)
  clear hv hmap hval hC0 hCn hag hn hend hmode hh hm hle
  generalize hNR : Rs.length = N at *
  have HNR := Lib.hid hNR
  clear hNR
  have hmm := @run_makeMap Tryz.prog
  have en := eql_func f
  have HS := Lib.hid (HdS.start w)
  have SL := Lib.hid (fun (s : ByteArray) (h : s.size ≤ 100000) => slit_is s h)
  go_enter Tryz.func7, Tryz.ntmps7
  go_wp2_with (first
    | (refine wpList_insert_own _ rfl (.tmp 15) _ _ 62 rfl 9 59 law_str Tryz.underlying62 fElem (w.heap.size + 1) _ _ rfl HS.out.m (by simp [maxLen]) _ _ _ rfl rfl (SL.out _ (by decide)) _ [] rfl ?_; intro wi hi gi; replace HS := Lib.hid (HS.out.next hi gi); clear hi gi)
    | (at_lookup; refine wpList_lookup_own _ rfl _ _ 62 rfl 9 59 law_str Tryz.underlying62 .nilFunc (zero_func _) fElem (.lit (.int .i64 (-1))) [] rfl (w.heap.size + 1) _ _ rfl HS.out.m _ _ rfl (SL.out how (by have := HH.out; omega)) ?_; intro v' ps hv'; obtain rfl : v' = .func (.func f) #[] #[] := HMODE.out v' ps hv'; clear hv')
    | fail)
  refine (whereMI_any Rs _ _ (fun _ => false) (RdRows.below HV.out HS.out.b) HROK.out (by rw [HNR.out]; omega) (fun r hr W hW => by
    obtain ⟨E, hE⟩ := HIS.out r hr
    exact merge1_any r true W hE.ok (fun W' hW' => (hE.below ((HS.out.b.trans (hW.mono HS.out.b.size)).trans (hW'.mono (HS.out.b.trans (hW.mono HS.out.b.size)).size))).is))).mono ?_
  rintro e w1 ⟨rfl, hb1⟩
  have HB1 := Lib.hid (HS.out.b.trans (hb1.mono HS.out.b.size))
  have HZ1 := Lib.hid ((hb1.block _ (by have := HS.out.s; omega)).trans HS.out.z)
  have hw1 : w.heap.size < w1.heap.size := by have := HS.out.s; have := hb1.size; omega
  clear hb1 HS
  rw [show whr (fun _ : IRow => false) Rs 0 = -1 from whr_no fun _ _ => rfl]
  go_wp2_with fail
  have HS3 := Lib.hid (MgS.start HB1.out HZ1.out hw1)
  clear HB1 HZ1
  generalize w1.heap.size = O at *
  go_loopw [33] (fun idx wr => ∃ k : Nat, k ≤ N ∧ idx = .int .i64 k ∧ Hid (MgI T rw' C w O (Es.take k).flatten wr)) (fun idx _ => N - (intOf idx).toNat)
  case atStart => exact ⟨0, Nat.zero_le _, rfl, Lib.hid ⟨_, _, _, _, _, _, _, HS3.out, rfl, VRs.nil _ _ _ _, HC0.out, by simp, by simp, by simp⟩⟩
  case round =>
    clear HS3
    obtain ⟨k, hk, rfl, HST⟩ := hrel
    by_cases hkN : k < N
    · obtain ⟨hstb, hsts⟩ : Below w.heap.size w wr ∧ O + 3 ≤ wr.heap.size := by
        obtain ⟨lv, L, S, no, np, Do, Dp, hst, _⟩ := HST.out
        exact ⟨hst.b, hst.s⟩
      obtain ⟨bI, off, r, rfl, hbI, hget, hdrop, g0, g1, g2, g3, g4, g5, g6, g7⟩ := RdI.row HV.out hstb (k := k) hkN
      obtain ⟨E, hE⟩ : ∃ E, Es[k]? = some E := ⟨Es[k]'(by rw [HLE.out]; exact hkN), by simp [HLE.out, hkN]⟩
      have H1 := Lib.hid (HMAP.out k r E hget hE)
      obtain ⟨A1, c1, hps, _⟩ := H1.out.rd.form
      have HEK := Lib.hid hE
      have hok1 := H1.out.ok
      have hk1 := H1.out.k
      have hlen := H1.out.len
      obtain ⟨k', ak, tx, tr, nd, ps, ms, fn⟩ := r
      dsimp only at hps hk1
      subst hps
      subst hk1
      have sms := fun w a m => run_store Tryz.prog w a ms m hok1.ms
      have sfn := fun w a m => run_store Tryz.prog w a fn m hok1.fn
      have oms := hok1.ms
      have ofn := hok1.fn
      dsimp only at oms ofn
      clear hok1 hE hget
      generalize hml : E.length = m1 at *
      have HML := Lib.hid hml
      clear hml
      dsimp only at g0 g1 g2 g3 g4 g5 g6 g7
      clear hdrop
      have hbn : bI < wr.heap.size := by have := hstb.size; omega
      have hw1s : O + 2 < wr.heap.size := by omega
      go_wp2_with fail
      have hbx := box1 wr 30 #[.int .i64 2, .int .i64 ak, .string tx, .int .i64 tr, .int .i64 nd, .slice A1 m1 c1, ms, fn]
      obtain ⟨W5, hW5⟩ : ∃ W5, wr.alloc (.cells #[.int .i64 2, .int .i64 ak, .string tx, .int .i64 tr, .int .i64 nd, .slice A1 m1 c1, ms, fn] 30) = W5 := ⟨_, rfl⟩
      have HX5 := Lib.hid (show ∃ lv L S no np Do Dp, MgS w W5 (O + 1) O (O + 1 + 1) (O + 3) L lv no np Do Dp ∧ foldS T rw' (Es.take k).flatten = .ok S ∧ VRs w W5 (O + 3) lv L S ∧ C (Es.take k).flatten Do ∧ np ≤ (Es.take k).flatten.length ∧ no ≤ (Es.take k).flatten.length ∧ L.length ≤ (Es.take k).flatten.length from by
        obtain ⟨lv, L, S, no, np, Do, Dp, h1, h2, h3, h4⟩ := HST.out
        have hb5 : Below wr.heap.size wr W5 := hW5 ▸ hbx
        exact ⟨lv, L, S, no, np, Do, Dp, h1.below hb5, h2, h3.below hb5, h4⟩)
      rw [hW5] at hbx ⊢
      clear hbx hW5 g0 g1 g2 g3 g4 g5 g6 g7 hstb hsts hw1s hbn HST
      generalize wr.heap.size = BX at *
      obtain ⟨wo, rfl⟩ : ∃ wo : World, wo = W5 := ⟨_, rfl⟩
      go_loopw [40] (fun jx wr2 => ∃ j : Nat, j ≤ m1 ∧ jx = .int .i64 j ∧ Hid (MgI T rw' C w O ((Es.take k).flatten ++ E.take j) wr2)) (fun jx _ => m1 - (intOf jx).toNat)
      case atStart => exact ⟨0, Nat.zero_le _, rfl, Lib.hid (by rw [List.take_zero, List.append_nil]; exact HX5.out)⟩
      case round =>
        clear HX5
        obtain ⟨j, hj, rfl, HST⟩ := hrel
        by_cases hlt : j < m1
        · obtain ⟨lv, L, S, no, np, Do, Dp, hst, hf, hvr, hcd, hnp, hno, hLl⟩ := HST.out
          clear HST
          obtain ⟨bP, oP, p, rfl, hbP, hget, hdrop, g0, g1, g2⟩ := RdP.row H1.out.rd hst.b (k := j) hlt
          have hmem := List.mem_of_getElem? hget
          have HKE := Lib.hid (H1.out.ke p hmem)
          have hval := HVAL.out p (mem_flat HEK.out hmem)
          have HSP := Lib.hid (split_flat HEK.out hget)
          have hcs := len_split HSP.out
          have hN := HN.out
          have HTK := Lib.hid (show (Es.take k).flatten ++ E.take (j + 1) = ((Es.take k).flatten ++ E.take j) ++ [p] by rw [List.take_add_one, hget]; simp)
          obtain ⟨Av, nv, cv, hpv, hrl, hnv, hrok, hrd⟩ := hval
          have HVP := Lib.hid (fun (W : World) (hb : Below w.heap.size w W) (lv : Value) (hl : ∀ x, lv.ownBlock = some x → w.heap.size ≤ x) => VR.old (w := w) (W := W) (base := O + 3) (lv := lv) (p := p) (s := sp rw' p) hb hl hpv hrl hrok hrd)
          obtain ⟨pak, ptx, pv⟩ := p
          dsimp only at hpv g0 g1 g2
          subst hpv
          have hbPn : bP < wr.heap.size := by have := hst.b.size; omega
          clear hget hdrop hmem hrd hrok
          have hsr := hst.s
          have hgB := World.ownsRow.lt hst.l
          generalize hcsE : (Es.take k).flatten ++ E.take j = cs at *
          have HCSE := Lib.hid hcsE
          clear hcsE
          go_wp2_with fail
          have hbp := box1 wr 33 #[.int .i64 pak, .string ptx, .slice Av nv cv]
          obtain ⟨W6, hW6⟩ : ∃ W6, wr.alloc (.cells #[.int .i64 pak, .string ptx, .slice Av nv cv] 33) = W6 := ⟨_, rfl⟩
          have xP6 : W6.heap[wr.heap.size]? = some (.cells #[.int .i64 pak, .string ptx, .slice Av nv cv] 33) := hW6 ▸ hp_new rfl
          rw [hW6] at hbp ⊢
          have HS6 := Lib.hid (hst.below hbp)
          have HV6 := Lib.hid (hvr.below hbp)
          clear hbp hW6 g0 g1 g2 hst hbPn hvr
          generalize wr.heap.size = BP at *
          refine (classOf_any pak ptx W6 HKE.out.1.1).mono ?_
          rintro e w7 ⟨rfl, hb7⟩
          have xP7 := (hb7.block BP (lt_of_block xP6)).trans xP6
          have hBC : BP < w7.heap.size := lt_of_block xP7
          have hbc := box1 w7 69 #[.int .i64 4, .string ptx]
          obtain ⟨W8, hW8⟩ : ∃ W8, w7.alloc (.cells #[.int .i64 4, .string ptx] 69) = W8 := ⟨_, rfl⟩
          have HS8 := Lib.hid ((HS6.out.below hb7).below (hW8 ▸ hbc))
          have HV8 := Lib.hid ((HV6.out.below hb7).below (hW8 ▸ hbc))
          have xP8 : W8.heap[BP]? = some (.cells #[.int .i64 pak, .string ptx, .slice Av nv cv] 33) := hW8 ▸ hp_past xP7
          have xC8 : W8.heap[w7.heap.size]? = some (.cells #[.int .i64 4, .string ptx] 69) := hW8 ▸ hp_new rfl
          have HKY := Lib.hid (klit_is HKE.out.ds)
          have HWE := Lib.hid (HV8.out.whrE ptx)
          clear xP6 xP7 hb7 hbc HS6 HV6
          simp only [clsV]
          obtain ⟨e0, e1⟩ := blk2m xC8
          obtain ⟨k0, k1, k2⟩ := blk3c xP8
          have hCB : w7.heap.size < W8.heap.size := lt_of_block xC8
          have hPB : BP < W8.heap.size := lt_of_block xP8
          have HD8 := Lib.hid (HS8.out.d ptx HKE.out.ds)
          have hrng := whr_rng (keyAt ptx) L 0 (by omega)
          have HI := Lib.hid (show whr (keyAt ptx) L 0 = whr (keyAt ptx) L 0 from rfl)
          rcases hrng with hz | ⟨hz1, hz2⟩
          · rw [hz] at HD8 HWE
            obtain ⟨Aw, cw, W9, hrun, HNW⟩ := mg_run HS8.out HV8.out hw1 (by omega) ⟨pak, ptx, .slice Av nv cv⟩ rfl
            go_wp2_with (first
              | (at_lookup; refine wpList_lookup_own_int _ rfl _ _ 67 rfl 69 3 .i64 law_cls Tryz.underlying67 Tryz.underlying3 (zero_int _) (O + 1 + 1) np _ rfl HS8.out.p _ (klit ptx) rfl HKY.out ?_; intro x hat hwc; obtain rfl : x = 0 := (by rw [HD8.out] at hat; simpa using hat.symm); clear hat hwc)
              | fail)
            have HNW' := Lib.hid HNW
            have hO1 : O + 1 < W8.heap.size := by omega
            obtain ⟨q0, q1, q2⟩ := blk3c HS8.out.m
            obtain ⟨k0', k1', k2'⟩ := blk3c ((HNW.old BP hPB (fun e => by have := (hgB _ e).2; omega)).trans xP8)
            obtain ⟨q0', q1', q2'⟩ := blk3c ((HNW.old (O + 1) (by omega) (fun e => by have := (hgB _ e).1; omega)).trans HS8.out.m)
            have fq := blk3f ((HNW.old (O + 1) (by omega) (fun e => by have := (hgB _ e).1; omega)).trans HS8.out.m) 0
            go_region_law (refine step_append_runI rfl (.tmp 72) (.tmp 74) 27 rfl lv (.slice (some ⟨W8.heap.size, 0, none⟩) 1 1) (by simp [Act.eval, Act.put]) (by simp [Act.eval, Act.put]) hrun ?_)
            all_goals
              obtain ⟨W10, hW10⟩ : ∃ W10, W9.setCell ⟨O + 1, 0, none⟩ (.slice Aw (L.length + 1) cw) = W10 := ⟨_, rfl⟩
              have xM := HNW'.out.m2
              have xC := (HNW'.out.old2 w7.heap.size hCB (by omega) (fun e => by have := (hgB _ e).2; omega)).trans xC8
              have hpl := HNW'.out.pl
              rw [hW10] at xM xC hpl ⊢
              have HPL := Lib.hid (World.ownsMap.drew hpl)
              have HPE := Lib.hid (plainElem_int (H := Unit) (P := Tryz.prog) (e := 3) (q := .i64) Tryz.underlying3 (a := (L.length : Int) + 1) (by simp only [Lit.wf, Bool.and_eq_true, decide_eq_true_eq]; exact ⟨(show (-9223372036854775808 : Int) ≤ (L.length : Int) + 1 by omega), (show (L.length : Int) + 1 ≤ 9223372036854775807 by omega)⟩))
              obtain ⟨x0, x1⟩ := blk2m xC
              obtain ⟨z0', z1', z2'⟩ := blk3c xM
              clear q0 q1 q2 q0' q1' q2' k0' k1' k2' e0 e1 k0 k1 k2 fq xM xC hpl hrun HNW hW8
              go_wp2
              refine still_tail_d 7 (by kernel_rfl) (by kernel_rfl) ?_
              simp only [List.take_succ_cons, List.take_zero, List.drop_succ_cons, List.drop_zero]
              repeat still_step
              refine wpStill_nil ?_
              go_wp2_with (first
                | (at_mapUpdate; refine wpList_mapUpdate_own _ rfl _ _ _ 67 rfl 69 3 law_cls Tryz.underlying67 _ (O + 1 + 1) np _ rfl HPL.out (by simp only [maxLen]; omega) _ _ (klit ptx) rfl rfl HKY.out (.lit (.int .i64 ((L.length : Int) + 1))) [] HPE.out ?_; intro w11 hown11 hgrow11)
                | fail)
              go_roundw
              case rel =>
                obtain ⟨y1, y2⟩ := dp_new (p := ⟨pak, ptx, .slice Av nv cv⟩) HS8.out.i HS8.out.d HKE.out.ds hz
                obtain ⟨n1, n2⟩ := HNW'.out.fin w11 _ _ hown11 (by rw [hW10]; exact hgrow11) y1 y2
                have n3 := n2 (sp rw' ⟨pak, ptx, .slice Av nv cv⟩) (HVP.out _ HS8.out.b _ (fun x e => by have := (hgB x e).1; omega)) rfl
                have hwi : whr (keyS (sp rw' ⟨pak, ptx, .slice Av nv cv⟩).tx) S 0 = -1 := HWE.out.symm
                have hst : foldS T rw' (cs ++ [⟨pak, ptx, .slice Av nv cv⟩]) = .ok (S ++ [sp rw' ⟨pak, ptx, .slice Av nv cv⟩]) := by
                  rw [foldS_snoc, hf]
                  simp only [stepS]
                  rw [if_pos hwi]
                refine ⟨j + 1, by omega, by go_num, Lib.hid ?_⟩
                rw [HTK.out]
                exact ⟨_, _, _, no, _, Do, _, n1, hst, n3, HCN.out _ _ _ hcd, by simp; omega, by simp; omega, by simp; omega⟩
              case measure => simp [intOf]; omega
          · obtain ⟨i, hi⟩ : ∃ i : Nat, whr (keyAt ptx) L 0 = (i : Int) := ⟨(whr (keyAt ptx) L 0).toNat, by omega⟩
            rw [hi] at HD8 HWE hz1 hz2
            have hsub : IntKind.i64.wrap ((i : Int) + 1 - 1) = (i : Int) := by rw [IntKind.wrap_i64]; omega
            have hpos : decide ((0 : Int) < (i : Int) + 1) = true := by simp <;> omega
            go_wp2_with (first
              | (at_lookup; refine wpList_lookup_own_int _ rfl _ _ 67 rfl 69 3 .i64 law_cls Tryz.underlying67 Tryz.underlying3 (zero_int _) (O + 1 + 1) np _ rfl HS8.out.p _ (klit ptx) rfl HKY.out ?_; intro x hat hwc; obtain rfl : x = (i : Int) + 1 := (by rw [HD8.out] at hat; simpa using hat.symm); clear hat hwc)
              | fail)
            refine (HAG.out O cs _ ⟨pak, ptx, .slice Av nv cv⟩ W8 lv L S no np Do Dp i hw1 HSP.out HS8.out hf HV8.out hcd (by omega) HWE.out.symm (by omega) (by omega) (HVP.out _ HS8.out.b _ (fun x e => by have := (hgB x e).1; omega))).mono ?_
            rintro e W' ⟨rfl, hcase⟩
            have hstep : foldS T rw' (cs ++ [⟨pak, ptx, .slice Av nv cv⟩]) = T S i (sp rw' ⟨pak, ptx, .slice Av nv cv⟩) := by
              have hwi : whr (keyS (sp rw' ⟨pak, ptx, .slice Av nv cv⟩).tx) S 0 = (i : Int) := HWE.out.symm
              rw [foldS_snoc, hf]
              simp only [stepS]
              rw [hwi, if_neg (by omega), Int.toNat_natCast]
            rcases hcase with ⟨S', hT, lv', L', no', Do', hst', hvr', hC', hno', hL'⟩ | ⟨er, hT, lv', hM', hb', hz', her0, her1⟩
            · have HNEW := Lib.hid (show MgI T rw' C w O ((Es.take k).flatten ++ E.take (j + 1)) W' from by
                rw [HTK.out]
                exact ⟨lv', L', S', no', np, Do', Dp, hst', hstep.trans hT, hvr', hC', by simp; omega, by simp; omega, by simp; omega⟩)
              obtain ⟨m0, m1', m2⟩ := blk3c hst'.m
              clear hst' hvr' hC' e0 e1 k0 k1 k2
              go_wp2
              go_roundw
              case rel => exact ⟨j + 1, by omega, by go_num, HNEW⟩
              case measure => simp [intOf]; omega
            · have HERR := Lib.hid (show foldS T rw' Es.flatten = .error er from by
                have h := foldS_err (E.drop (j + 1) ++ (Es.drop (k + 1)).flatten) (hstep.trans hT)
                rw [List.append_assoc] at h
                rw [HSP.out]
                exact h)
              obtain ⟨m0, m1', m2⟩ := blk3c hM'
              have hne0 : (er != 0) = true := by simp; omega
              have HZ' := Lib.hid hz'
              have HB' := Lib.hid hb'
              clear e0 e1 k0 k1 k2 hM' hz' hb'
              go_wp2
              obtain ⟨d0, d1, d2, d3, d4, d5, d6, d7⟩ := blk8c HZ'.out
              obtain ⟨b0, b1, b2, b3, b4, b5, b6, b7⟩ := blk8f HZ'.out
              have hwl : w.heap.size < W'.heap.size := lt_of_block HZ'.out
              have hne1 : O + 1 ≠ w.heap.size := by omega
              have hne2 : w.heap.size ≠ O + 1 := by omega
              go_region
              all_goals
                go_wp2
                obtain ⟨f0, f1, f2, f3, f4, f5, f6, f7⟩ := blk8c (st8 HZ'.out (.int .i64 0) (.int .i64 0) (.string { data := #[] }) (.int .i64 0) (.int .i64 0) (.slice none 0 0) (.slice none 0 0) (.pointer none))
                refine bodyPost_ret (v := .tuple #[itV z0, .int .i64 er]) (w := (set8 W' w.heap.size (.int .i64 0) (.int .i64 0) (.string { data := #[] }) (.int .i64 0) (.int .i64 0) (.slice none 0 0) (.slice none 0 0) (.pointer none)).drew) ?_ rfl ?_
                · generalize set8 W' w.heap.size (.int .i64 0) (.int .i64 0) (.string { data := #[] }) (.int .i64 0) (.int .i64 0) (.slice none 0 0) (.slice none 0 0) (.pointer none) = W at *
                  simp [results, Tryz.results7, go_sem, f0, f1, f2, f3, f4, f5, f6, f7, itV, z0]
                · rw [HERR.out]
                  exact ⟨rfl, GrB.below (below_set8 HB'.out (Nat.le_refl _) ..) (S := fun _ => False) (fun _ h => nomatch h) (GrB.drew _)⟩
        · obtain rfl : j = m1 := by omega
          have HNEW := Lib.hid (show MgI T rw' C w O (Es.take (k + 1)).flatten wr from by
            have := HST.out
            rw [List.take_of_length_le (l := E) (by rw [HML.out]; exact Nat.le_refl _)] at this
            rw [take_flat HEK.out]
            exact this)
          go_wp2
          go_roundw
          case rel => exact ⟨k + 1, by omega, by go_num, HNEW⟩
          case measure => simp [intOf]; omega
    · obtain rfl : k = N := by omega
      have hfin := HST.out
      rw [List.take_of_length_le (by rw [HLE.out]; exact Nat.le_refl _)] at hfin
      obtain ⟨lv, L, S, no, np, Do, Dp, hst, hf, hvr, hcd, hnp, hno, hLl⟩ := hfin
      obtain ⟨hS1, hS2⟩ := HEND.out S hf
      have hN := HN.out
      have hlen := hvr.len
      have HP := Lib.hid (show ∀ p, p ∈ L → ∃ A n c, p.v = .slice A n c ∧ n ≤ 65536 ∧ KP p from fun p hp => by
        obtain ⟨i, hi, rfl⟩ := List.getElem_of_mem hp
        have hiS : i < S.length := by omega
        obtain ⟨A, n, c, h1, h2, _⟩ := hvr.v i L[i] S[i] (List.getElem?_eq_getElem hi) (List.getElem?_eq_getElem hiS)
        have hk : some (kP L[i]) = some (kS S[i]) := by
          have := congrArg (fun l => l[i]?) hvr.e
          simpa only [List.getElem?_map, List.getElem?_eq_getElem hi, List.getElem?_eq_getElem hiS, Option.map_some] using this
        have hk1 : L[i].ak = S[i].ak := congrArg (fun x => x.1) (Option.some.inj hk)
        have hs := hS1 _ (List.getElem_mem hiS)
        refine ⟨A, n, c, h1, by omega, ?_, by rw [h1]; rfl⟩
        rw [hk1]
        exact hs.2)
      obtain ⟨AL, cL, rfl⟩ := hst.l.form
      obtain ⟨m0, m1', m2⟩ := blk3c hst.m
      have HST2 := Lib.hid hst
      have HVR := Lib.hid hvr
      have HS2 := Lib.hid hS2
      have hrd := hst.l.reads (by simp only [maxLen]; omega)
      have HRD := Lib.hid hrd
      have HF := Lib.hid hf
      have t1 : decide ((65536 : Int) < (L.length : Int)) = false := by simp; omega
      have hLN : L.length ≤ 1000 := by omega
      have hM1 : O + 1 < wr.heap.size := by have := hst.s; omega
      clear hst hvr hS2 hrd HST hlen hf hS1
      go_wp2_with fail
      refine (whereMP_any L _ wr (fun _ => false) HRD.out (fun p hp => by obtain ⟨_, _, _, _, _, h⟩ := HP.out p hp; exact h) (by omega) (fun p hp W hW => by obtain ⟨A, n, c, h1, h2, _⟩ := HP.out p hp; exact merge2_any p A n c h1 h2 W)).mono ?_
      rintro e w4 ⟨rfl, hb4⟩
      rw [show whr (fun _ : PRow => false) L 0 = -1 from whr_no fun _ _ => rfl]
      have HST4 := Lib.hid (HST2.out.below hb4)
      have HVR4 := Lib.hid (HVR.out.below hb4)
      obtain ⟨c0, c1, c2⟩ := blk3c HST4.out.m
      have hw4 : w.heap.size < w4.heap.size := by have := HST4.out.s; omega
      obtain ⟨d, n, b, hE, hOv⟩ := HS2.out w4 _ _ _ HST4.out.b HVR4.out
      have hnb : n ≤ 300000 ∧ b ≤ 5000000 := by have := hOv; simp only [ovB, Bool.or_eq_false_iff, decide_eq_false_iff_not] at this; omega
      have HE := Lib.hid hE
      have HOV := Lib.hid hOv
      clear hb4 hE hOv m0 m1' m2 HS2
      go_wp2_with fail
      refine (within_any (r := mapR (.slice AL L.length cL)) (mapR_it (HST4.out.l.reads (by simp only [maxLen]; omega)) HE.out) HOV.out (by omega) (by omega)).mono ?_
      rintro e w6 ⟨rfl, hb6⟩
      have HST6 := Lib.hid (HST4.out.below hb6)
      have HVR6 := Lib.hid (HVR4.out.below hb6)
      obtain ⟨d0, d1, d2, d3, d4, d5, d6, d7⟩ := blk8c HST6.out.z
      obtain ⟨e0, e1, e2, e3, e4, e5, e6, e7⟩ := blk8f HST6.out.z
      have hlt6 : w.heap.size < w6.heap.size := lt_of_block HST6.out.z
      clear hb6 c0 c1 c2
      simp only [itV, mapR]
      go_wp2
      have HX6 := Lib.hid HST6.out.z
      obtain ⟨f0, f1, f2, f3, f4, f5, f6, f7⟩ := blk8c (st8 HX6.out (.int .i64 2) (.int .i64 0) (.string { data := #[] }) (.int .i64 0) (.int .i64 0) (.slice AL L.length cL) (.slice none 0 0) (.pointer none))
      refine bodyPost_ret (v := .tuple #[itV (mapR (.slice AL L.length cL)), .int .i64 0]) (w := set8 w6 w.heap.size (.int .i64 2) (.int .i64 0) (.string { data := #[] }) (.int .i64 0) (.int .i64 0) (.slice AL L.length cL) (.slice none 0 0) (.pointer none)) ?_ rfl ?_
      · generalize set8 w6 w.heap.size (.int .i64 2) (.int .i64 0) (.string { data := #[] }) (.int .i64 0) (.int .i64 0) (.slice AL L.length cL) (.slice none 0 0) (.pointer none) = W at *
        simp [results, Tryz.results7, go_sem, f0, f1, f2, f3, f4, f5, f6, f7, itV, mapR]
      · rw [HF.out]
        refine ⟨L, _, rfl, (OwnP.set8 HST6.out.l (by omega) ..).reads (by simp only [maxLen]; omega), HVR.out.e, fun i p s hp hs => ?_, below_set8 HST6.out.b (Nat.le_refl _) ..⟩
        obtain ⟨A', n', c', v1, v2, _, v4⟩ := HVR6.out.v i p s hp hs
        exact ⟨A', n', c', v1, v2, v4 _ (GrB.of_grown grow_set8 fun k hk => by cases hk; exact .inl ⟨Nat.le_refl _, by omega⟩)⟩
end Go.Proofs.YtahidclhplmkiaaGreatDoor
/- maps.Merge: the four methods, as Merge's walk asks for them. -/
namespace Go.Proofs.YtahidclhplmkiaaGreatDoor
open Go.RowKit Go.WideMaps
set_option linter.unusedVariables false
set_option linter.unusedSimpArgs false

theorem whr_at {α : Type} (q : α → Bool) : ∀ (l : List α) (i : Int) (k : Nat), 0 ≤ i → whr q l i = i + k → ∃ y, l[k]? = some y ∧ q y = true
  | [], i, k, hi, h => by simp only [whr] at h; omega
  | x :: l, i, k, hi, h => by
    by_cases hx : q x = true
    · simp only [whr, hx, if_true] at h
      obtain rfl : k = 0 := by omega
      exact ⟨x, rfl, hx⟩
    · simp only [whr, hx, if_false, Bool.false_eq_true] at h
      have hr := whr_rng q l (i + 1) (by omega)
      cases k with
      | zero => rcases hr with hr | ⟨h1, _⟩ <;> omega
      | succ k =>
        obtain ⟨y, hy, hq⟩ := whr_at q l (i + 1) k (by omega) (by push_cast at h; omega)
        exact ⟨y, by simpa using hy, hq⟩
theorem whr_set {α : Type} (q : α → Bool) (x : α) : ∀ (l : List α) (j : Nat) (i : Int), (∀ y, l[j]? = some y → q x = q y) → whr q (l.set j x) i = whr q l i
  | [], j, i, h => rfl
  | y :: l, 0, i, h => by simp only [List.set_cons_zero, whr, h y rfl]
  | y :: l, j + 1, i, h => by simp only [List.set_cons_succ, whr, whr_set q x l j (i + 1) (fun z hz => h z (by simpa using hz))]
theorem RdRows.kept {W W' : World} {wd : Nat} {rows : List (List Value)} {v : Value} {S : Nat → Prop} (h : RdRows W wd rows v) (hg : GrB W W' S) (hs : ∀ k, v.ownBlock = some k → ¬ S k) : RdRows W' wd rows v := by
  obtain ⟨A, c, rfl, hm, h⟩ := h
  refine ⟨A, c, rfl, hm, fun hn => ?_⟩
  obtain ⟨b, off, rfl, hlt, hc⟩ := h hn
  have := hg.size
  exact ⟨b, off, rfl, by omega, fun j hj i hi => (hg.cell hlt (hs b rfl)).trans (hc j hj i hi)⟩
theorem map_kept {P : Program} {k : TypeId} {R : Value → Option (DataW Unit × List MemPlace)} {b n : Nat} {w w' : World} {D : DataW Unit} {S : Nat → Prop} (h : w.ownsMap P k R b n D) (hg : GrB w w' S) (hb : ¬ S b) : w'.ownsMap P k R b n D := by
  have hlt := h.lt
  obtain ⟨es, clock, hc, hr⟩ := h
  exact ⟨es, clock, (hg.block b hlt hb).trans hc, hr⟩
theorem OwnP.form1 {W : World} {base : Nat} {lv : Value} {L : List PRow} (h : OwnP W base lv L) (hL : 0 < L.length) : ∃ g c, lv = .slice (some ⟨g, 0, none⟩) L.length c ∧ base ≤ g ∧ g < W.heap.size := by
  have hlt := World.ownsRow.lt h
  rcases h.2 with ⟨rfl, h1⟩ | ⟨g, cap, cur, rfl, _⟩
  · omega
  · exact ⟨g, cap, rfl, (hlt g rfl).1, (hlt g rfl).2⟩
theorem MgS.at {w W W' : World} {O : Nat} {L L' : List PRow} {lv : Value} {no np no' : Nat} {Do Dp Do' : DataW Unit} (h : MgS w W (O + 1) O (O + 1 + 1) (O + 3) L lv no np Do Dp) (hw : w.heap.size < O) (hg : GrB W W' (fun k => lv.ownBlock = some k ∨ k = O)) (hl : OwnP W' (O + 3) lv L') (ho : W'.ownsMap Tryz.prog 3 (plainElem Tryz.prog 3) O no' Do') (hd : ∀ t, whr (keyAt t) L' 0 = whr (keyAt t) L 0) : MgS w W' (O + 1) O (O + 1 + 1) (O + 3) L' lv no' np Do' Dp := by
  have hlt := World.ownsRow.lt h.l
  have hne : ∀ k, k < O + 3 → k ≠ O → ¬ (lv.ownBlock = some k ∨ k = O) := fun k hk h1 e => by
    rcases e with e | e
    · have := (hlt k e).1; omega
    · exact h1 e
  exact ⟨GrB.below h.b (fun k hk => by
    rcases hk with hk | hk
    · have := (hlt k hk).1; omega
    · omega) hg, (hg.block _ (lt_of_block h.z) (hne _ (by omega) (by omega))).trans h.z, (hg.block _ (lt_of_block h.m) (hne _ (by omega) (by omega))).trans h.m, hl, ho, map_kept h.p hg (hne _ (by omega) (by omega)), h.i, fun t ht => by rw [hd]; exact h.d t ht, Nat.le_trans h.s hg.size⟩
theorem VRs.hit {w W : World} {base : Nat} {lv : Value} {L : List PRow} {S : List SRow} (h : VRs w W base lv L S) {t : ByteArray} {i : Nat} (hi : whr (keyS t) S 0 = (i : Int)) :
    ∃ q s, L[i]? = some q ∧ S[i]? = some s ∧ kP q = kS s ∧ q.tx.toList = t.toList := by
  obtain ⟨s, hs, hk⟩ := whr_at (keyS t) S 0 i (by omega) (by omega)
  have hlen := h.len
  have hiS := (List.getElem?_eq_some_iff.1 hs).1
  have hiL : i < L.length := by omega
  have hq : L[i]? = some L[i] := List.getElem?_eq_getElem hiL
  have hke : some (kP L[i]) = some (kS s) := by
    have := congrArg (fun l => l[i]?) h.e
    simpa only [List.getElem?_map, hq, hs, Option.map_some] using this
  have hke := Option.some.inj hke
  have hst : s.tx.toList = t.toList := eq_of_beq (a := s.tx.toList) (b := t.toList) hk
  exact ⟨L[i], s, hq, hs, hke, by rw [show L[i].tx = s.tx from congrArg (fun x => x.2) hke]; exact hst⟩
theorem VR.one {w W : World} {base : Nat} {lv : Value} {p : PRow} {s : SRow} (h : VR w W base lv p s) : p.v.oneCell' = true := by
  obtain ⟨A, n, c, h1, _⟩ := h
  rw [h1]; rfl
theorem ag_first (rw' : PRow → List IRow) (C : List PRow → DataW Unit → Prop) (w : World) (P : List PRow) (hC : ∀ cs p Do, C cs Do → C (cs ++ [p]) Do) : AgP 25 (fun S _ _ => .ok S) rw' C w P := by
  intro O cs r p W lv L S no np Do Dp i hO hP hst hf hvr hc hno hi1 hi2 hL hv
  refine (first_any _ _ p hv.one W).mono ?_
  rintro e W' ⟨rfl, hb⟩
  exact ⟨rfl, .inl ⟨S, rfl, lv, L, no, Do, hst.below hb, hvr.below hb, hC _ _ _ hc, by omega, rfl⟩⟩
theorem ag_reject (rw' : PRow → List IRow) (C : List PRow → DataW Unit → Prop) (w : World) (P : List PRow) : AgP 28 (fun _ _ _ => .error 4) rw' C w P := by
  intro O cs r p W lv L S no np Do Dp i hO hP hst hf hvr hc hno hi1 hi2 hL hv
  refine (reject_any _ O lv _ p hv.one W hst.m).mono ?_
  rintro e W' ⟨rfl, hM, hg⟩
  exact ⟨rfl, .inr ⟨4, rfl, lv, hM, GrB.below hst.b (fun k hk => by omega) hg, (hg.block _ (lt_of_block hst.z) (by omega)).trans hst.z, by omega, by omega⟩⟩
theorem ag_last (rw' : PRow → List IRow) (C : List PRow → DataW Unit → Prop) (w : World) (P : List PRow) (hC : ∀ cs p Do, C cs Do → C (cs ++ [p]) Do) : AgP 26 (fun S i s => .ok (S.set i s)) rw' C w P := by
  intro O cs r p W lv L S no np Do Dp i hO hP hst hf hvr hc hno hi1 hi2 hL hv
  obtain ⟨g, c, rfl, hg1, hg2⟩ := hst.l.form1 (by omega)
  obtain ⟨q, s, hq, hs, hke, hst2⟩ := hvr.hit hi1
  refine (last_any (O + 1) O g L.length c i (O + 3) L p hv.one W hst.m hst.l rfl hi2 (by omega)).mono ?_
  rintro e W' ⟨rfl, hl, hg⟩
  have hg' : GrB W W' (fun k => (Value.slice (some ⟨g, 0, none⟩) L.length c).ownBlock = some k ∨ k = O) := hg.mono fun k hk => .inl (by rw [hk]; rfl)
  have hgM : GrB W W' (MgX w (O + 3) (.slice (some ⟨g, 0, none⟩) L.length c)) := hg.mono fun k hk => .inr (by rw [hk]; rfl)
  refine ⟨rfl, .inl ⟨_, rfl, _, L.set i p, no, Do, hst.at hO hg' hl (map_kept hst.o hg (by omega)) (fun t => whr_set _ _ _ _ _ fun y hy => ?_), ?_, hC _ _ _ hc, by omega, by simp⟩⟩
  · rw [hq] at hy
    cases hy
    show (p.tx.toList == t.toList) = (q.tx.toList == t.toList)
    rw [hst2]
  · exact (hvr.next hgM fun _ _ e => e).set i (hv.next hgM fun _ _ e => e) rfl
def cmbT : MgT := fun S i s => match S[i]? with
  | some q => if q.rows.length + s.rows.length ≤ 65536 then .ok (S.set i ⟨q.ak, q.tx, q.rows ++ s.rows⟩) else .error 2
  | none => .ok S
/-- Of the map of what is the merger's own: before the one hit, nothing. -/
def cmbC (h : Nat) (cs : List PRow) (Do : DataW Unit) : Prop := cs.length ≤ h → Do = .map []
theorem ag_combine (rw' : PRow → List IRow) (w : World) (P : List PRow) (h : Nat) (hrw : ∀ p, p ∈ P → (rw' p).length ≤ 100000)
    (hit : ∀ cs r p S (i : Nat), P = cs ++ p :: r → foldS cmbT rw' cs = .ok S → whr (keyS p.tx) S 0 = (i : Int) → cs.length = h ∧ 0 < (rw' p).length ∧ ∀ s, S[i]? = some s → s.rows.length ≤ 100000) :
    AgP 27 cmbT rw' (cmbC h) w P := by
  intro O cs r p W lv L S no np Do Dp i hO hP hst hf hvr hc hno hi1 hi2 hL hv
  obtain ⟨hh, hpos, hsl⟩ := hit cs r p S i hP hf hi1
  obtain ⟨g, c, rfl, hg1, hg2⟩ := hst.l.form1 (by omega)
  obtain ⟨q, s, hq, hs, hke, hst2⟩ := hvr.hit hi1
  obtain rfl : Do = .map [] := hc (by omega)
  obtain ⟨Aq, nq, cq, hqv, hqn, hqk, hqr⟩ := hvr.v i q s hq hs
  obtain ⟨Ap, np', cp, hpv, hpn, hpk, hpr⟩ := hv
  have hpl := hrw p (by rw [hP]; simp)
  have hql := hsl s hs
  have hpn' : (rw' p).length = np' := hpn
  have hsr := hst.s
  by_cases hsum : nq + np' ≤ 65536
  · obtain ⟨bp, op, rfl⟩ : ∃ b o, Ap = some ⟨b, o, none⟩ := by
      obtain ⟨A', c', e, _, h2⟩ := hpr W (GrB.refl _ _)
      rw [hpv] at e
      injection e with e1 e2 e3
      obtain ⟨b, off, e, _⟩ := h2 (by simpa [sp] using hpos)
      exact ⟨b, off, e1.trans e⟩
    have hX : ∀ k, (k = g ∨ k = O) → MgX w (O + 3) (.slice (some ⟨g, 0, none⟩) L.length c) k := fun k hk => by
      rcases hk with rfl | rfl
      · exact .inr rfl
      · exact .inl ⟨by omega, by omega⟩
    refine (combine_any (O + 1) O g L.length c i (O + 3) no (.map []) L p q Aq bp op nq cq np' cp s.rows (rw' p) W hst.m hst.l rfl hi2 (by omega) hq hqv hpv (fun W' hW' => hqv ▸ hqr W' (hW'.mono hX)) (fun W' hW' => hpv ▸ hpr W' (hW'.mono hX)) hqk hpk hsum hst.o hno rfl (by omega) (by omega) (by omega) hg1 (by omega) (by omega)).mono ?_
    rintro e W' ⟨rfl, hg, v, hl, hr, h1, hvb, n', D', hn', hD'⟩
    have hg' : GrB W W' (fun k => (Value.slice (some ⟨g, 0, none⟩) L.length c).ownBlock = some k ∨ k = O) := hg.mono fun k hk => by
      rcases hk with rfl | rfl
      · exact .inl rfl
      · exact .inr rfl
    have hgM : GrB W W' (MgX w (O + 3) (.slice (some ⟨g, 0, none⟩) L.length c)) := hg.mono hX
    obtain ⟨Av, cv, rfl, _⟩ := hr.form
    have hv' : VR w W' (O + 3) (.slice (some ⟨g, 0, none⟩) L.length c) ⟨q.ak, q.tx, .slice Av (s.rows ++ rw' p).length cv⟩ ⟨s.ak, s.tx, s.rows ++ rw' p⟩ := by
      refine ⟨Av, _, cv, rfl, rfl, fun r hr => ?_, fun W'' hW'' => RdRows.kept hr hW'' fun k hk hx => ?_⟩
      · rcases List.mem_append.1 hr with h | h
        · exact hqk r h
        · exact hpk r h
      · have h2 := hvb k hk
        rcases hx with hx | hx
        · have := hx.2; omega
        · have : g = k := Option.some.inj hx
          omega
    have hT : cmbT S i (sp rw' p) = .ok (S.set i ⟨s.ak, s.tx, s.rows ++ rw' p⟩) := by
      simp only [cmbT, hs]
      rw [if_pos (show s.rows.length + (sp rw' p).rows.length ≤ 65536 by rw [hpn]; omega)]
      rfl
    refine ⟨rfl, .inl ⟨_, hT, _, _, n', D', hst.at hO hg' hl hD' (fun t => whr_set _ _ _ _ _ fun y hy => ?_), (hvr.next hgM fun _ _ e => e).set i hv' hke, fun hle => ?_, by omega, by simp⟩⟩
    · rw [hq] at hy
      cases hy
      rfl
    · simp at hle
      omega
  · refine (combineLong_any (O + 1) O g L.length c i (O + 3) L p q Aq Ap nq cq np' cp W hst.m hst.l rfl hi2 (by omega) hq hqv hpv (by omega) (by omega) (by omega)).mono ?_
    rintro e W' ⟨rfl, hM, hg⟩
    refine ⟨rfl, .inr ⟨2, ?_, _, hM, GrB.below hst.b (fun k hk => by omega) hg, (hg.block _ (lt_of_block hst.z) (by omega)).trans hst.z, by omega, by omega⟩⟩
    simp only [cmbT, hs]
    rw [if_neg (show ¬ s.rows.length + (sp rw' p).rows.length ≤ 65536 by rw [hpn]; omega)]
theorem eg_of {f : Nat} {fn : Func} {c : Code} (hf : Tryz.prog.funcs[f]? = some fn) (hn : (fn.name == "runtime.NumGoroutine") = false) (hb : fn.body = some c) : ∀ args w, (callFunc f args).run Tryz.prog w = .ok (.enter f args) w := fun args w => by
  have h1 : fn.name ≠ "runtime.NumGoroutine" := by simpa using hn
  simp [callFunc, hf, h1, hb]
theorem eg_first : ∀ args w, (callFunc 25 args).run Tryz.prog w = .ok (.enter 25 args) w := eg_of Tryz.func25 (by kernel_rfl) rfl
theorem eg_last : ∀ args w, (callFunc 26 args).run Tryz.prog w = .ok (.enter 26 args) w := eg_of Tryz.func26 (by kernel_rfl) rfl
theorem eg_combine : ∀ args w, (callFunc 27 args).run Tryz.prog w = .ok (.enter 27 args) w := eg_of Tryz.func27 (by kernel_rfl) rfl
theorem eg_reject : ∀ args w, (callFunc 28 args).run Tryz.prog w = .ok (.enter 28 args) w := eg_of Tryz.func28 (by kernel_rfl) rfl
/-- Sequences of atoms. -/
def flatB (rows : List IRow) : Nat := (rows.map fun r => r.tx.size).sum
theorem flat_sum (W : World) (G : Value → Nat → Nat → List IRow → Prop) : ∀ rows : List IRow, (∀ r, r ∈ rows → ROk r ∧ r.k = 0) → SumR (ItP W G) rows rows.length (flatB rows) rows
  | [], _ => .nil
  | r :: rows, h => by
    have h1 := h r (List.mem_cons_self ..)
    have := SumR.cons (P := ItP W G) (x := r) (n := 1) (b := r.tx.size) (f := [r]) ⟨h1.1, .inl ⟨h1.2, rfl, rfl, rfl⟩⟩ (flat_sum W G rows fun q hq => h q (List.mem_cons_of_mem _ hq))
    rw [show (r :: rows).length = 1 + rows.length by simp; omega, show flatB (r :: rows) = r.tx.size + flatB rows by simp [flatB]]
    exact this
theorem flat_sq {W : World} {v : Value} {rows : List IRow} (h : RdI W rows v) (hr : ∀ r, r ∈ rows → ROk r ∧ r.k = 0) : SqR W 1 v rows.length (flatB rows) rows := ⟨rows, h, flat_sum W _ rows hr⟩
def entN (S : List SRow) : Nat := (S.map fun s => 1 + s.rows.length).sum
def entB (S : List SRow) : Nat := (S.map fun s => s.tx.size + flatB s.rows).sum
theorem ents_flat {W : World} : ∀ (L : List PRow) (S : List SRow), L.map kP = S.map kS → (∀ (i : Nat) (p : PRow) (s : SRow), L[i]? = some p → S[i]? = some s → RdI W s.rows p.v ∧ ∀ r, r ∈ s.rows → ROk r ∧ r.k = 0) → EntS W 1 L (entN S) (entB S)
  | [], [], _, _ => ⟨[], .nil⟩
  | p :: L, s :: S, he, h => by
    simp only [List.map_cons, List.cons.injEq] at he
    obtain ⟨h1, h2⟩ := h 0 p s rfl rfl
    obtain ⟨f, hf⟩ := ents_flat L S he.2 fun i p' s' hp hs => h (i + 1) p' s' (by simpa using hp) (by simpa using hs)
    have e : p.tx = s.tx := congrArg (fun x => x.2) he.1
    have := SumR.cons (P := fun (p : PRow) n b f => ∃ n' b', SqR W 1 p.v n' b' f ∧ n = 1 + n' ∧ b = p.tx.size + b') (x := p) ⟨_, _, flat_sq h1 h2, rfl, rfl⟩ hf
    refine ⟨s.rows ++ f, ?_⟩
    rw [show entN (s :: S) = 1 + s.rows.length + entN S by simp [entN], show entB (s :: S) = p.tx.size + flatB s.rows + entB S by simp [entB, e]]
    exact this
  | [], s :: S, he, _ => by simp at he
  | p :: L, [], he, _ => by simp at he
theorem VRs.ents {w W : World} {base : Nat} {lv : Value} {L : List PRow} {S : List SRow} (h : VRs w W base lv L S) (hk : ∀ s, s ∈ S → ∀ r, r ∈ s.rows → r.k = 0) : EntS W 1 L (entN S) (entB S) :=
  ents_flat L S h.e fun i p s hp hs => by
    obtain ⟨A, n, c, _, _, h3, h4⟩ := h.v i p s hp hs
    exact ⟨h4 W (GrB.refl _ _), fun r hr => ⟨h3 r hr, hk s (List.mem_of_getElem? hs) r hr⟩⟩
end Go.Proofs.YtahidclhplmkiaaGreatDoor
