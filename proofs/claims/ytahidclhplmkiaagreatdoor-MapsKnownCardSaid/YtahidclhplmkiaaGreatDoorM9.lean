/- Package maps: Get at maps of the examples. -/
import Derived.Test.YtahidclhplmkiaaGreatDoorMIl
import Derived.Test.YtahidclhplmkiaaGreatDoorM2
import Derived.Test.YtahidclhplmkiaaGreatDoorM4
import Derived.Deep.RegionLaw
import Derived.Lib.SliceRun
import Derived.Shelf.RegionOpenPlain
namespace Go.Proofs.YtahidclhplmkiaaGreatDoor
open Go.RowKit
set_option linter.unusedVariables false
set_option linter.unusedSimpArgs false

theorem whr_find (f : PRow → Bool) : ∀ (l : List PRow) (i : Nat), (whr f l (i : Int) = -1 ∧ l.find? f = none) ∨ ∃ k p, whr f l (i : Int) = ((i + k : Nat) : Int) ∧ k < l.length ∧ l[k]? = some p ∧ l.find? f = some p
  | [], i => .inl ⟨rfl, rfl⟩
  | x :: l, i => by
    cases hx : f x with
    | true => exact .inr ⟨0, x, by simp [whr, hx], by simp, rfl, by simp [List.find?, hx]⟩
    | false =>
      have e : whr f (x :: l) (i : Int) = whr f l ((i + 1 : Nat) : Int) := by simp [whr, hx]
      rcases whr_find f l (i + 1) with ⟨h1, h2⟩ | ⟨k, p, h1, h2, h3, h4⟩
      · exact .inl ⟨by rw [e, h1], by simp [List.find?, hx, h2]⟩
      · exact .inr ⟨k + 1, p, by rw [e, h1]; congr 1; omega, by simpa using h2, by simpa using h3, by simp [List.find?, hx, h4]⟩
/-- A map of the examples. -/
structure MapE (w : World) (r : IRow) (l : List PRow) : Prop where
  rd : RdP w l r.ps
  ok : ROk r
  k : r.k = 2
  ke : ∀ p, p ∈ l → KE p
  dist : Dist l
  len : l.length ≤ 1000
theorem MapE.below {w w' : World} {r : IRow} {l : List PRow} (h : MapE w r l) (hb : Below w.heap.size w w') : MapE w' r l := ⟨RdRows.below h.rd hb, h.ok, h.k, h.ke, h.dist, h.len⟩
theorem MapE.is {w : World} {r : IRow} {l : List PRow} (h : MapE w r l) : Calls Tryz.prog 20 #[itV r] w fun e w' => e = .returned (.bool true) ∧ Below w.heap.size w w' :=
  isMap_any r l w h.rd h.ok h.k h.ke h.dist (by have := h.len; omega)
theorem itV_mk (k ak tr nd : Int) (tx : ByteArray) (ps ms fn : Value) : Value.agg #[.int .i64 k, .int .i64 ak, .string tx, .int .i64 tr, .int .i64 nd, ps, ms, fn] = itV ⟨k, ak, tx, tr, nd, ps, ms, fn⟩ := rfl
def getV (o : Option PRow) : Value := .tuple #[(o.map PRow.v).getD (.slice none 0 0), .bool o.isSome]
def GetP (o : Option PRow) (w : World) (e : Ending) (w' : World) : Prop := e = .returned (getV o) ∧ Below w.heap.size w w'
set_option maxRecDepth 100000 in
theorem get_any (r : IRow) (l : List PRow) (k : Int) (t : ByteArray) (w : World) (h : MapE w r l) (hk : KeyS k t) :
    Calls Tryz.prog 17 #[itV r, .agg #[.int .i64 k, .string t]] w (GetP (l.find? (keyAt t)) w) := by
  have H := Lib.hid h
  have HK := Lib.hid hk
  obtain ⟨A, c, hA, hm⟩ := h.rd.form
  have HE := Lib.hid (fun p hp => h.ke p hp)
  have hlen := h.len
  have hr := h.ok
  have hk2 := h.k
  clear h hk
  obtain ⟨k', ak, tx, tr, nd, ps, ms, fn⟩ := r
  dsimp only at hA hk2
  subst hA
  subst hk2
  have sms := fun w a m => run_store Tryz.prog w a ms m hr.ms
  have sfn := fun w a m => run_store Tryz.prog w a fn m hr.fn
  have oms := hr.ms
  have ofn := hr.fn
  dsimp only at oms ofn
  clear hr hm
  generalize hl : l.length = m at *
  have HM := Lib.hid hl
  clear hl
  have HT := Lib.hid (itV_mk 2 ak tr nd tx (.slice A m c) ms fn)
  simp only [itV]
  go_enter Tryz.func17, Tryz.ntmps17
  have hbx := Lib.hid (((box1 w 30 #[.int .i64 2, .int .i64 ak, .string tx, .int .i64 tr, .int .i64 nd, .slice A m c, ms, fn]).alloc (by simp) (.cells #[.int .i64 k, .string t] 26)))
  go_wp2_with fail
  refine (MapE.is (r := ⟨2, ak, tx, tr, nd, .slice A m c, ms, fn⟩) (H.out.below hbx.out)).mono ?_
  rintro e w1 ⟨rfl, hb1⟩
  have HC := Lib.hid (show ∀ W, Below (w.heap.size + 2) ((w.alloc (.cells #[.int .i64 2, .int .i64 ak, .string tx, .int .i64 tr, .int .i64 nd, .slice A m c, ms, fn] 30)).alloc (.cells #[.int .i64 k, .string t] 26)) W →
      Below w.heap.size w W ∧ W.cell? ⟨w.heap.size, 5, none⟩ = some (.slice A m c) ∧ W.cell? ⟨w.heap.size + 1, 0, none⟩ = some (.int .i64 k) ∧ W.cell? ⟨w.heap.size + 1, 1, none⟩ = some (.string t) from fun W hW =>
    ⟨hbx.out.trans (hW.mono (by omega)), (hW.cell (p := ⟨w.heap.size, 5, none⟩) (by simp)).trans (by simp), (hW.cell (p := ⟨w.heap.size + 1, 0, none⟩) (by simp)).trans (by simp), (hW.cell (p := ⟨w.heap.size + 1, 1, none⟩) (by simp)).trans (by simp)⟩)
  have HB1 := Lib.hid (hb1.mono (show w.heap.size + 2 ≤ _ by simp))
  have hw1 := (show w.heap.size + 2 ≤ w1.heap.size by have := hb1.size; simpa using this)
  clear hb1
  obtain ⟨_, b5, k0, k1⟩ := HC.out _ HB1.out
  go_wp2_with fail
  refine (HK.out.valid _).mono ?_
  rintro e w2 ⟨rfl, hb2⟩
  have HB2 := Lib.hid (HB1.out.trans (hb2.mono hw1))
  have hw2 := (show w.heap.size + 2 ≤ w2.heap.size by have := hb2.size; omega)
  clear hb2 b5 k0 k1
  obtain ⟨_, b5, k0, k1⟩ := HC.out _ HB2.out
  go_wp2_with fail
  refine (entry_any l _ k t _ (RdRows.below H.out.rd (HC.out _ HB2.out).1) (fun p hp => (HE.out p hp).kp) (by rw [HM.out]; omega) HK.out.1).mono ?_
  rintro e w3 ⟨rfl, hb3⟩
  have HB3 := Lib.hid (HB2.out.trans (hb3.mono hw2))
  clear hb3 b5 k0 k1
  obtain ⟨_, b5, k0, k1⟩ := HC.out _ HB3.out
  rcases whr_find (keyAt t) l 0 with ⟨h1, h2⟩ | ⟨j, p, h1, h2, h3, h4⟩
  · have hz : whr (keyAt t) l 0 = -1 := h1
    have HF := Lib.hid h2
    simp only [hz]
    clear h1 h2 hz
    go_wp2
    refine bodyPost_ret (v := getV none) ?_ rfl ⟨by rw [HF.out], (HC.out _ HB3.out).1⟩
    simp [results, Tryz.results17, go_sem, getV]
  · have hz : whr (keyAt t) l 0 = (j : Int) := by simpa using h1
    have HF := Lib.hid h4
    simp only [hz]
    obtain ⟨bI, off, r, rfl, hbI, hget, hdrop, g0, g1, g2⟩ := RdP.row H.out.rd (HC.out _ HB3.out).1 (k := j) (by rw [← HM.out]; exact h2)
    obtain rfl : r = p := by rw [h3] at hget; exact (Option.some.inj hget).symm
    have hv := (HE.out r (List.mem_of_getElem? h3)).2
    have hjm : j < m := by rw [← HM.out]; exact h2
    clear h1 h2 h3 h4 hget hdrop hz
    go_wp2
    refine bodyPost_ret (v := getV (some r)) ?_ rfl ⟨by rw [HF.out], (HC.out _ HB3.out).1⟩
    simp [results, Tryz.results17, go_sem, getV]
end Go.Proofs.YtahidclhplmkiaaGreatDoor
/- Package maps: Put at maps of the examples. -/
namespace Go.Proofs.YtahidclhplmkiaaGreatDoor
open Go.RowKit
set_option linter.unusedVariables false
set_option linter.unusedSimpArgs false

theorem pflat_set : ∀ (l : List PRow) (j : Nat) (p : PRow), j < l.length → pflat (l.set j p) = (((pflat l).set (j * 3) (.int .i64 p.ak)).set (j * 3 + 1) (.string p.tx)).set (j * 3 + 2) p.v
  | [], j, p, h => absurd h (by simp)
  | x :: l, 0, p, h => by simp [pflat, PRow.cells]
  | x :: l, j + 1, p, h => by
    have := pflat_set l j p (by simpa using h)
    have e : ∀ l : List PRow, pflat (x :: l) = x.cells ++ pflat l := fun l => rfl
    rw [List.set_cons_succ, e, e, this]
    have h3 : x.cells.length = 3 := rfl
    rw [List.set_append_right _ _ (by omega), List.set_append_right _ _ (by omega), List.set_append_right _ _ (by omega)]
    simp only [h3]
    rw [show (j + 1) * 3 - 3 = j * 3 by omega, show (j + 1) * 3 + 1 - 3 = j * 3 + 1 by omega, show (j + 1) * 3 + 2 - 3 = j * 3 + 2 by omega]
theorem OwnP.put {W : World} {base g m c : Nat} {l : List PRow} (h : OwnP W base (.slice (some ⟨g, 0, none⟩) m c) l) (j : Nat) (p : PRow) (hj : j < l.length) (hm : l.length = m) :
    OwnP (((W.setCell ⟨g, j * 3, none⟩ (.int .i64 p.ak)).setCell ⟨g, j * 3 + 1, none⟩ (.string p.tx)).setCell ⟨g, j * 3 + 2, none⟩ p.v) base (.slice (some ⟨g, 0, none⟩) m c) (l.set j p) := by
  subst hm
  unfold OwnP
  rw [List.length_set, pflat_set l j p hj]
  exact (World.ownsRow.stored (World.ownsRow.stored (World.ownsRow.stored h _ _).1 _ _).1 _ _).1
def putL (l : List PRow) (p : PRow) : List PRow := match whr (keyAt p.tx) l 0 with | .ofNat j => l.set j p | _ => l ++ [p]
def mapR (v : Value) : IRow := ⟨2, 0, { data := #[] }, 0, 0, v, .slice none 0 0, .pointer none⟩
/-- The entries of a map, with their sizes. -/
def EntS (w : World) (d : Nat) (l : List PRow) (n b : Nat) : Prop := ∃ f, SumR (fun (p : PRow) n b f => ∃ n' b', SqR w d p.v n' b' f ∧ n = 1 + n' ∧ b = p.tx.size + b') l n b f
theorem EntS.below {w w1 : World} {d : Nat} {l : List PRow} {n b : Nat} (h : EntS w d l n b) (hb : Below w.heap.size w w1) : EntS w1 d l n b :=
  let ⟨f, h⟩ := h; ⟨f, h.mono fun p n b f ⟨n', b', g, e⟩ => ⟨n', b', SqR.below hb d g, e⟩⟩
theorem mapR_it {w : World} {d : Nat} {l : List PRow} {A : Option Addr} {m c n b : Nat} (h : RdP w l (.slice A m c)) (hs : EntS w d l n b) : ItP w (SqR w d) (mapR (.slice A m c)) (1 + n) b [mapR (.slice A m c)] :=
  let ⟨f, hs⟩ := hs
  ⟨⟨rfl, rfl, rfl⟩, .inr (.inr (.inl ⟨rfl, rfl, l, n, f, h, hs, rfl⟩))⟩
/-- Put's answer: a map of the call's own. -/
def PutP (L : List PRow) (w : World) (e : Ending) (w' : World) : Prop := Below w.heap.size w w' ∧ ∃ u, e = .returned (.tuple #[itV (mapR u), .int .i64 0]) ∧ OwnP w' w.heap.size u L
theorem OwnP.form {W : World} {base : Nat} {v : Value} {l : List PRow} (h : OwnP W base v l) : ∃ A c, v = .slice A l.length c := by
  rcases h.2 with ⟨rfl, h1⟩ | ⟨g, cap, cur, rfl, _⟩
  · exact ⟨none, 0, by rw [h1]⟩
  · exact ⟨_, _, rfl⟩
theorem OwnP.below {W W' : World} {base : Nat} {v : Value} {l : List PRow} (h : OwnP W base v l) (hb : Below W.heap.size W W') : OwnP W' base v l := by
  refine ⟨h.1, ?_⟩
  rcases h.2 with h1 | ⟨g, cap, cur, rfl, h2, h3, h4⟩
  · exact .inl h1
  · exact .inr ⟨g, cap, cur, rfl, h2, (hb.block g (Array.getElem?_eq_some_iff.1 h3).1).trans h3, h4⟩
/-- append of one entry, which stands in a new block, to a row of the call's own. -/
theorem appP {ops : Array Oper} {rest : List Oper} {o : Oper} {a : Act} {Q : Exit → Act → World → Prop} {W : World} (base : Nat) (hgd : o.guard = none) (s x : Operand)
    (ho : o.op = .call { callee := .builtin .append, args := #[s, x], argTypes := #[27, 27] })
    (v : Value) (l : List PRow) (hs : a.eval s = v) (r : PRow) (hok : r.v.oneCell' = true) (B : Nat) (hB : W.heap.size = B) (hx : a.eval x = .slice (some ⟨B, 0, none⟩) 1 1)
    (HO : OwnP W base v l) (hbase : base ≤ W.heap.size) (hl : l.length + 1 ≤ 1000000)
    (h : ∀ g cap w1, OwnP w1 base (.slice (some ⟨g, 0, none⟩) (l.length + 1) cap) (l ++ [r]) → W.grownBy w1 v.ownBlock → W.heap.size < w1.heap.size →
      wpList Tryz.prog ops Q rest (a.put o.dst (.slice (some ⟨g, 0, none⟩) (l.length + 1) cap)) w1) :
    wpList Tryz.prog ops Q (o :: rest) a (W.alloc (.cells #[.int .i64 r.ak, .string r.tx, r.v] 33)) := by
  obtain ⟨i0, hi, hz0, hz1, hz2⟩ := info_parts info_pair
  subst hB
  refine wpList_append_lies _ hgd s x 27 ho base 33 i0 _ 3 48 Tryz.underlying27 hi hz0 hz1 hz2 rfl (by decide) v l.length (pflat l) hs (World.ownsRow.alloc HO _) ⟨W.heap.size, 0, none⟩ 1 1 r.cells hx rfl
    (World.news_of_block (cs := #[.int .i64 r.ak, .string r.tx, r.v]) (t := 33) (fr := (0, 0)) (heap_alloc_new W _)) ?_ (by decide) (by simp only [maxLen]; omega) (by omega) (by simp; omega) (W.heap.size + 1) (by simp) ?_
  · intro u hu
    simp only [PRow.cells, List.mem_cons, List.not_mem_nil, or_false] at hu
    rcases hu with rfl | rfl | rfl
    · rfl
    · rfl
    · exact hok
  · intro g cap w1 ho hg hw hlt
    have e : pflat (l ++ [r]) = pflat l ++ r.cells := by rw [pflat_append]; simp [pflat]
    refine h g cap w1 ?_ ((World.grownBy_alloc W _ _).trans hg) (by have := hg.size; simp at this; omega)
    unfold OwnP
    rw [e]; simpa using ho
theorem OwnP.set8 {W : World} {base X : Nat} {v : Value} {l : List PRow} (h : OwnP W base v l) (hX : X < base) (b0 b1 b2 b3 b4 b5 b6 b7 : Value) : OwnP (set8 W X b0 b1 b2 b3 b4 b5 b6 b7) base v l := by
  refine World.ownsRow.kept h grow_set8 ?_
  cases hv : v.ownBlock with
  | none => exact .inl rfl
  | some k =>
    right
    intro e
    injection e with e
    have := (World.ownsRow.lt h k hv).1
    omega
end Go.Proofs.YtahidclhplmkiaaGreatDoor
/- The merger's methods: first, last, reject. -/
namespace Go.Proofs.YtahidclhplmkiaaGreatDoor
open Go.RowKit
set_option linter.unusedVariables false
set_option linter.unusedSimpArgs false

/-- The merger's block. -/
def MgB (W : World) (M : Nat) (lv : Value) (e : Int) (O : Nat) : Prop := W.heap[M]? = some (.cells #[lv, .int .i64 e, .map (some O)] 66)
theorem blk3c {W : World} {X : Nat} {t : TypeId} {a0 a1 a2 : Value} (h : W.heap[X]? = some (.cells #[a0, a1, a2] t (0, 0))) : W.cell? ⟨X, 0, none⟩ = some a0 ∧ W.cell? ⟨X, 1, none⟩ = some a1 ∧ W.cell? ⟨X, 2, none⟩ = some a2 := by
  simp [World.cell?, h]
theorem blk3f {W : World} {X : Nat} {t : TypeId} {cs : Array Value} (h : W.heap[X]? = some (.cells cs t (0, 0))) : ∀ i, W.frozen? ⟨X, i, none⟩ = false := fun i => by simp [World.frozen?, h]
theorem first_any (M : Nat) (i : Int) (p : PRow) (hp : p.v.oneCell' = true) (w : World) :
    Calls Tryz.prog 25 #[.pointer (some ⟨M, 0, none⟩), .int .i64 i, pV p] w fun e w' => e = .returned (.tuple #[]) ∧ Below w.heap.size w w' := by
  have sv := fun w a m => run_store Tryz.prog w a p.v m hp
  simp only [pV]
  go_enter Tryz.func25, Tryz.ntmps25
  go_wp2
  go_end0
  exact ⟨rfl, box1 _ _ _⟩
theorem reject_any (M O : Nat) (lv : Value) (i : Int) (p : PRow) (hp : p.v.oneCell' = true) (w : World) (h : MgB w M lv 0 O) :
    Calls Tryz.prog 28 #[.pointer (some ⟨M, 0, none⟩), .int .i64 i, pV p] w fun e w' => e = .returned (.tuple #[]) ∧ MgB w' M lv 4 O ∧ GrB w w' (fun k => k = M) := by
  have sv := fun w a m => run_store Tryz.prog w a p.v m hp
  have hb := box1 w 33 #[.int .i64 p.ak, .string p.tx, p.v]
  have hx := (hb.block M (lt_of_block h)).trans h
  obtain ⟨c0, c1, c2⟩ := blk3c hx
  have f1 := blk3f hx 1
  simp only [pV]
  go_enter Tryz.func28, Tryz.ntmps28
  go_wp2
  go_end0
  refine ⟨rfl, ?_, (GrB.alloc _ _).trans (GrB.set rfl)⟩
  exact blk_set hx _
theorem last_any (M O g m c i base : Nat) (L : List PRow) (p : PRow) (hp : p.v.oneCell' = true) (w : World) (h : MgB w M (.slice (some ⟨g, 0, none⟩) m c) 0 O) (ho : OwnP w base (.slice (some ⟨g, 0, none⟩) m c) L) (hm : L.length = m) (hi : i < m) (hn : m ≤ 100000) :
    Calls Tryz.prog 26 #[.pointer (some ⟨M, 0, none⟩), .int .i64 (i : Int), pV p] w fun e w' => e = .returned (.tuple #[]) ∧ OwnP w' base (.slice (some ⟨g, 0, none⟩) m c) (L.set i p) ∧ GrB w w' (fun k => k = g) := by
  have sv := fun w a m => run_store Tryz.prog w a p.v m hp
  have hv := hp
  have hb := box1 w 33 #[.int .i64 p.ak, .string p.tx, p.v]
  have hx := (hb.block M (lt_of_block h)).trans h
  obtain ⟨c0, c1, c2⟩ := blk3c hx
  have ho1 := ho.below hb
  have HP := Lib.hid (OwnP.put (W := (w.alloc (.cells #[.int .i64 p.ak, .string p.tx, p.v] 33)).drew) (World.ownsRow.drew ho1) i p (by rw [hm]; exact hi) hm)
  have hrd := ho1.reads (by rw [hm]; simp only [maxLen]; omega)
  obtain ⟨bI, off, r, e3, hbI, hget, hdrop, g0, g1, g2⟩ := RdP.row (by rw [← hm] at hrd ⊢; exact hrd) (Below.refl _ _) (k := i) hi
  cases e3
  rw [Nat.zero_add] at g0 g1 g2
  have HOm : (w.alloc (.cells #[.int .i64 p.ak, .string p.tx, p.v] 33)).ownsRow base 33 3 (.slice (some ⟨g, 0, none⟩) m c) m (pflat L) := by have := ho1; unfold OwnP at this; rw [hm] at this; exact this
  have f0 := World.ownsRow.frozenAt HOm (i * 3)
  have f1 := World.ownsRow.frozenAt HOm (i * 3 + 1)
  have f2 := World.ownsRow.frozenAt HOm (i * 3 + 2)
  have hc := (own_capd HOm).2.2
  clear HOm hrd hget hdrop ho ho1 hb
  simp only [pV]
  go_enter Tryz.func26, Tryz.ntmps26
  go_wp2
  go_region
  all_goals
    go_end0
    exact ⟨rfl, HP.out, ((((GrB.alloc (S := fun k => k = g) _ _).trans (GrB.set rfl)).trans (GrB.set rfl)).trans (GrB.set rfl)).trans (GrB.drew _)⟩
end Go.Proofs.YtahidclhplmkiaaGreatDoor
/- slices.Delete of one element of a row of the call's own: the plain laws. -/
namespace Go.Proofs.YtahidclhplmkiaaGreatDoor
open Go.RowKit
set_option linter.unusedVariables false
set_option linter.unusedSimpArgs false

/-- clear of one entry. -/
theorem run_clear_three (P : Program) (w : World) (t e ty : TypeId) (a0 a1 a2 : Value) (ht : P.underlying t = some (.slice e)) (hv : ∀ w, (zeroValue e).run P w = .ok (.agg #[a0, a1, a2]) w) (h1 : ∀ v, v ∈ [a0, a1, a2] → v.oneCell' = true) (b o c : Nat)
    (hc : ∀ j, j < 3 → (w.cell? ⟨b, o + j, none⟩).isSome = true) (hf : ∀ j, j < 3 → w.frozen? ⟨b, o + j, none⟩ = false) :
    (Builtin.clear_ #[t] ty #[.slice (some ⟨b, o, none⟩) 1 c]).run P w = .ok (.tuple #[]) (w.setCells b o [a0, a1, a2]) := by
  have hzc : (Builtin.zeroCells (Value.agg #[a0, a1, a2]).cells 1).toList = [a0, a1, a2] := by
    have hz : (Value.agg #[a0, a1, a2]).cells = #[a0, a1, a2] := rfl
    rw [hz]
    simp [Builtin.zeroCells]
    rfl
  have hst := run_storeCells_cells (P := P) b o [a0, a1, a2] 0 w (by simpa using hc) (by simpa using hf) h1
  simp only [Nat.add_zero] at hst
  simp [Builtin.clear_, run_underlying ht, hv, hzc, hst]
theorem zero_pair (w : World) : (zeroValue 33).run Tryz.prog w = .ok (.agg #[.int .i64 0, .string { data := #[] }, .slice none 0 0]) w := by kernel_rfl
theorem below_cells {B g : Nat} {a : World} (hg : B ≤ g) : ∀ (vs : List Value) (o : Nat) {w : World}, Below B a w → Below B a (w.setCells g o vs)
  | [], _, _, h => h
  | v :: r, o, w, h => by
    rw [World.setCells]
    exact below_cells hg r (o + 1) (h.setCell (p := ⟨g, o, none⟩) hg v)
theorem size_cells {g : Nat} : ∀ (vs : List Value) (o : Nat) {w : World}, (w.setCells g o vs).heap.size = w.heap.size
  | [], _, _ => rfl
  | v :: r, o, w => by
    rw [World.setCells, size_cells r (o + 1)]
    simp [World.setCell]
def cutL {α : Type} (l : List α) (j : Nat) : List α := l.take j ++ l.drop (j + 1)
theorem cutL_len {α : Type} (l : List α) (j : Nat) (h : j < l.length) : (cutL l j).length = l.length - 1 := by
  simp only [cutL, List.length_append, List.length_take, List.length_drop]; omega
theorem del_rows {w : World} {base wd g m c j : Nat} {e : TypeId} {rows : List (List Value)} (h : w.ownsRow base e wd (.slice (some ⟨g, 0, none⟩) m c) m rows.flatten) (hm : rows.length = m) (hw : ∀ r, r ∈ rows → r.length = wd) (hj : j < m) (Z : List Value) (hwd : 0 < wd) :
    RdRows ((w.setCells g (j * wd) (rows.drop (j + 1)).flatten).setCells g ((m - 1) * wd) Z) wd (cutL rows j) (.slice (some ⟨g, 0, none⟩) (m - 1) c) := by
  subst hm
  have hlen := cutL_len rows j hj
  obtain ⟨_, hc1, hc2⟩ := (own_capd h).2
  have hlt := (World.ownsRow.lt h g rfl).2
  have hwn : ∀ r, r ∈ rows.drop (j + 1) → r.length = wd := fun r hr => hw r (List.mem_of_mem_drop hr)
  have hnl := flat_len (rows.drop (j + 1)) hwn
  rw [List.length_drop] at hnl
  refine ⟨_, c, by rw [hlen], ⟨fun e => (by cases e), by rw [hlen]; omega, hc2⟩, fun _ => ⟨g, 0, rfl, by rw [size_cells, size_cells]; exact hlt, fun j' hj' i hi => ?_⟩⟩
  rw [hlen] at hj'
  have hk : j' * wd + i < (rows.length - 1) * wd := by
    have : (j' + 1) * wd ≤ (rows.length - 1) * wd := Nat.mul_le_mul_right wd (by omega)
    rw [Nat.succ_mul] at this; omega
  rw [World.cell?_setCells_out _ _ _ _ _ (fun _ _ => .inl (by simpa using hk)), Nat.zero_add]
  by_cases hjj : j' < j
  · have hk2 : j' * wd + i < j * wd := by
      have : (j' + 1) * wd ≤ j * wd := Nat.mul_le_mul_right wd (by omega)
      rw [Nat.succ_mul] at this; omega
    have hk3 : j' * wd + i < rows.length * wd := by
      have : j * wd ≤ rows.length * wd := Nat.mul_le_mul_right wd (by omega)
      omega
    rw [World.cell?_setCells_out _ _ _ _ _ (fun _ _ => .inl (by simpa using hk2)), h.cellAt _ hk3, flat_get rows hw j' i (by omega) hi]
    congr 2
    simp only [cutL, List.getD_eq_getElem?_getD]
    rw [List.getElem?_append_left (by simp; omega), List.getElem?_take_of_lt hjj]
  · have e1 : j' * wd + i = j * wd + ((j' - j) * wd + i) := by
      rw [Nat.sub_mul]
      have : j * wd ≤ j' * wd := Nat.mul_le_mul_right wd (by omega)
      omega
    have hk2 : (j' - j) * wd + i < ((rows.drop (j + 1)).flatten).length := by
      rw [hnl]
      have : (j' - j + 1) * wd ≤ (rows.length - (j + 1)) * wd := Nat.mul_le_mul_right wd (by omega)
      rw [Nat.succ_mul] at this; omega
    have hsome : ∀ q, q < ((rows.drop (j + 1)).flatten).length → (w.cell? ⟨g, j * wd + q, none⟩).isSome = true := fun q hq => by
      have hq2 : j * wd + q < rows.length * wd := by
        rw [hnl] at hq
        have : j * wd + (rows.length - (j + 1)) * wd ≤ rows.length * wd := by rw [← Nat.add_mul]; exact Nat.mul_le_mul_right wd (by omega)
        omega
      rw [h.cellAt _ hq2]
      have hl := flat_len rows hw
      rw [List.getElem?_eq_getElem (by omega)]; rfl
    rw [e1, World.cell?_setCells_in g _ _ _ hsome _ hk2]
    have := flat_get (rows.drop (j + 1)) hwn (j' - j) i (by simp; omega) hi
    rw [List.getElem?_eq_getElem hk2] at this
    rw [this]
    congr 2
    simp only [cutL, List.getD_eq_getElem?_getD]
    rw [List.getElem?_append_right (by simp; omega), List.length_take, Nat.min_eq_left (by omega)]
end Go.Proofs.YtahidclhplmkiaaGreatDoor
