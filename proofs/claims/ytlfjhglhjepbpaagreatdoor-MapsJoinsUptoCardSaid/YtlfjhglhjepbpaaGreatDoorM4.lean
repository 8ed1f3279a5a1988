/- Join of both packages: arrays joined. -/
import Derived.Laws.AppendOwnNone
import Derived.Test.YtlfjhglhjepbpaaGreatDoorM3
import Derived.Test.YtlfjhglhjepbpaaGreatDoorM2
namespace Go.Proofs.YtlfjhglhjepbpaaGreatDoor
open Go.RowKit
set_option linter.unusedVariables false
set_option linter.unusedSimpArgs false

/-- The place of the first element that p holds of, or -1. -/
def whr {α : Type} (p : α → Bool) : List α → Int → Int
  | [], _ => -1
  | x :: l, i => if p x then i else whr p l (i + 1)
theorem whr_no {α : Type} {p : α → Bool} : ∀ {l : List α} {i : Int}, (∀ x, x ∈ l → p x = false) → whr p l i = -1
  | [], _, _ => rfl
  | x :: l, i, h => by
    simp only [whr]
    rw [if_neg (by rw [h x (List.mem_cons_self ..)]; decide)]
    exact whr_no fun y hy => h y (List.mem_cons_of_mem _ hy)
theorem whr_yes {α : Type} {p : α → Bool} : ∀ {l : List α} {i : Int}, 0 ≤ i → (∃ x, x ∈ l ∧ p x = true) → 0 ≤ whr p l i
  | [], _, _, ⟨x, hx, _⟩ => by cases hx
  | y :: l, i, hi, ⟨x, hx, h⟩ => by
    simp only [whr]
    by_cases hy : p y = true
    · rw [if_pos hy]; exact hi
    · rw [if_neg hy]
      rcases List.mem_cons.1 hx with rfl | hx
      · exact absurd h hy
      · exact whr_yes (by omega) ⟨x, hx, h⟩
def notArr (r : IRow) : Bool := r.k != 3
set_option maxRecDepth 100000 in
theorem join1_any (r : IRow) (w : World) (hok : ROk r) : Calls Tryz.prog 22 #[itV r] w (FitP (notArr r) w) := by
  obtain ⟨k, ak, tx, tr, nd, ps, ms, fn⟩ := r
  have sps := fun w a m => run_store Tryz.prog w a ps m hok.ps
  have sms := fun w a m => run_store Tryz.prog w a ms m hok.ms
  have sfn := fun w a m => run_store Tryz.prog w a fn m hok.fn
  have ops := hok.ps
  have oms := hok.ms
  have ofn := hok.fn
  dsimp only at ops oms ofn
  clear hok
  simp only [itV]
  go_enter Tryz.func22, Tryz.ntmps22
  go_wp2
  go_ret
  exact ⟨rB rfl, box1 _ _ _⟩
set_option maxRecDepth 100000 in
theorem where_any (l : List IRow) (v : Value) (w : World) (h : RdI w l v) (hok : ∀ r, r ∈ l → ROk r) (hn : l.length ≤ 1000000) :
    Calls Tryz.prog 21 #[v, .func (.func 22) #[] #[]] w fun e w' => e = .returned (.int .i64 (whr notArr l 0)) ∧ Below w.heap.size w w' := by
  obtain ⟨A, c, rfl, hm⟩ := h.form
  have H := Lib.hid h
  have HOK := Lib.hid hok
  clear h hok hm
  generalize hl : l.length = m at *
  have HM := Lib.hid hl
  clear hl
  have H0 : Hid (whr notArr l 0 = whr notArr (l.drop 0) ((0 : Nat) : Int)) := rfl
  go_enter Tryz.func21, Tryz.ntmps21
  go_wp2
  go_loopw [9] (fun i wr => ∃ k : Nat, k ≤ m ∧ i = .int .i64 k ∧ Hid (Below w.heap.size w wr) ∧ Hid (whr notArr l 0 = whr notArr (l.drop k) (k : Int))) (fun i _ => m - (intOf i).toNat)
  case atStart => exact ⟨0, Nat.zero_le _, rfl, Lib.hid (Below.refl _ _), H0⟩
  case round =>
    obtain ⟨k, hk, rfl, HB, HX⟩ := hrel
    by_cases hlt : k < m
    · obtain ⟨bI, off, r, rfl, hbI, hget, hdrop, g0, g1, g2, g3, g4, g5, g6, g7⟩ := H.out.row HB.out hlt
      have hok := HOK.out r (List.mem_of_getElem? hget)
      have sps := fun w a m => run_store Tryz.prog w a _ m hok.ps
      have sms := fun w a m => run_store Tryz.prog w a _ m hok.ms
      have sfn := fun w a m => run_store Tryz.prog w a _ m hok.fn
      have hps := hok.ps
      have hms := hok.ms
      have hfn := hok.fn
      have HOKR := Lib.hid hok
      have hbn : bI < wr.heap.size := by have := HB.out.size; omega
      have HX2 := Lib.hid (show whr notArr l 0 = whr notArr (r :: l.drop (k + 1)) (k : Int) by rw [← hdrop]; exact HX.out)
      clear hok hget hdrop hbI HX
      go_wp2_with fail
      refine (join1_any r _ HOKR.out).mono ?_
      rintro e w1 ⟨rfl, hb1⟩
      have HB1 := Lib.hid (HB.out.trans (((box1 wr _ _).trans (hb1.mono (by simp))).mono HB.out.size))
      clear hb1
      cases hp : notArr r with
      | true =>
        have HV := Lib.hid (show whr notArr l 0 = (k : Int) by rw [HX2.out]; simp [whr, hp])
        go_wp2
        go_ret
        exact ⟨by rw [HV.out]; rfl, HB1.out⟩
      | false =>
        have HV := Lib.hid (show whr notArr l 0 = whr notArr (l.drop (k + 1)) ((k + 1 : Nat) : Int) by rw [HX2.out]; simp [whr, hp])
        go_wp2
        go_roundw
        case rel => exact ⟨k + 1, by omega, by go_num, HB1, HV⟩
        case measure => simp [intOf]; omega
    · obtain rfl : k = m := by omega
      have HV := Lib.hid (show whr notArr l 0 = -1 by rw [HX.out, List.drop_eq_nil_of_le (by rw [HM.out]; exact Nat.le_refl _)]; rfl)
      go_wp2
      go_ret
      exact ⟨by rw [HV.out]; rfl, HB.out⟩

/-- The members of arrays. -/
inductive JL (w : World) : List IRow → List (List Value) → Prop
  | nil : JL w [] []
  | cons {r : IRow} {l : List IRow} {ms : List Value} {mss : List (List Value)} : r.k = 3 → RdM w ms r.ms → (∀ m, m ∈ ms → m.oneCell' = true) → JL w l mss → JL w (r :: l) (ms :: mss)
theorem JL.len {w : World} {l : List IRow} {mss : List (List Value)} (h : JL w l mss) : l.length = mss.length := by
  induction h with
  | nil => rfl
  | cons _ _ _ _ ih => simp [ih]
theorem JL.get {w : World} : ∀ {l : List IRow} {mss : List (List Value)}, JL w l mss → ∀ {k : Nat} {r : IRow}, l[k]? = some r → ∃ ms, mss.drop k = ms :: mss.drop (k + 1) ∧ r.k = 3 ∧ RdM w ms r.ms ∧ (∀ m, m ∈ ms → m.oneCell' = true) ∧ mss.take (k + 1) = mss.take k ++ [ms]
  | _, _, .nil, k, r, h => by simp at h
  | _, _, .cons h1 h2 h3 h4, 0, r, h => by
    simp only [List.getElem?_cons_zero, Option.some.injEq] at h
    subst h
    exact ⟨_, rfl, h1, h2, h3, rfl⟩
  | _, _, .cons h1 h2 h3 h4, k + 1, r, h => by
    obtain ⟨ms, e1, e2, e3, e4, e5⟩ := JL.get h4 (k := k) (by simpa using h)
    exact ⟨ms, by simpa using e1, e2, e3, e4, by simpa using e5⟩
theorem join_open {w : World} {d : Nat} : ∀ {l : List IRow} {n b : Nat} {f : List IRow}, SumR (ItP w (SqR w d)) l n b f → (∀ r, r ∈ l → r.k = 3) → ∃ mss n', JL w l mss ∧ MemS w d mss.flatten n' b f ∧ n = l.length + n' := by
  intro l
  induction l with
  | nil =>
    intro n b f h _
    obtain ⟨rfl, rfl, rfl⟩ := h.empty
    exact ⟨[], 0, .nil, .nil, rfl⟩
  | cons x l ih =>
    intro n b f h hk
    obtain ⟨n1, b1, f1, n2, b2, f2, h1, h2, rfl, rfl, rfl⟩ := h.head
    obtain ⟨mss, n', i1, i2, rfl⟩ := ih h2 fun r hr => hk r (List.mem_cons_of_mem _ hr)
    have hx := hk x (List.mem_cons_self ..)
    rcases h1.2 with H | H | H | ⟨_, ms, m', hM, hS, rfl⟩ | H | H
    · exact absurd H.1 (by omega)
    · exact absurd H.1 (by omega)
    · exact absurd H.1 (by omega)
    · refine ⟨ms :: mss, m' + n', .cons hx hM (fun m hm => ?_) i1, SumR.append hS i2, by simp only [List.length_cons]; omega⟩
      obtain ⟨_, _, _, ⟨_, hq, _⟩, _⟩ := hS.mem m hm
      exact hq.one
    · exact absurd H.1 (by omega)
    · rcases H.1 with H | H <;> exact absurd hx (by omega)
end Go.Proofs.YtlfjhglhjepbpaaGreatDoor
/- chiselref18.Join. -/
namespace Go.Proofs.YtlfjhglhjepbpaaGreatDoor
open Go.RowKit
set_option linter.unusedVariables false
set_option linter.unusedSimpArgs false

theorem OwnM.form {W : World} {base : Nat} {v : Value} {l : List Value} (h : OwnM W base v l) : ∃ A c, v = .slice A l.length c ∧ Capd A l.length c := by
  rcases h.2 with ⟨rfl, h1⟩ | ⟨g, cap, cur, rfl, _, _, h3, h4, _⟩
  · exact ⟨none, 0, by rw [h1], by rw [h1]; exact ⟨fun _ => rfl, Nat.le_refl _, by simp⟩⟩
  · exact ⟨_, _, rfl, fun e => (by cases e), h3, h4⟩
theorem OwnM.kept {W W' : World} {base B : Nat} {v : Value} {l : List Value} (h : OwnM W base v l) (hb : Below W.heap.size W W') : OwnM W' base v l := ownB h hb
/-- Another list of members is appended to one of the call's own. -/
theorem appM {ops : Array Oper} {rest : List Oper} {o : Oper} {a : Act} {Q : Exit → Act → World → Prop} {W : World} (base : Nat) (hgd : o.guard = none) (s x : Operand)
    (ho : o.op = .call { callee := .builtin .append, args := #[s, x], argTypes := #[28, 28] })
    (v : Value) (l ms : List Value) (hs : a.eval s = v) (u : Value) (hx : a.eval x = u) (hu : RdM W ms u) (h1 : ∀ m, m ∈ ms → m.oneCell' = true)
    (HO : OwnM W base v l) (hbase : base ≤ W.heap.size) (hl : l.length + ms.length ≤ 1000000)
    (h : ∀ v' w1, OwnM w1 base v' (l ++ ms) → W.grownBy w1 v.ownBlock → wpList Tryz.prog ops Q rest (a.put o.dst v') w1) :
    wpList Tryz.prog ops Q (o :: rest) a W := by
  obtain ⟨i0, hi, hz0, hz1, hz2⟩ := info_parts info_qI
  obtain ⟨A, c, rfl, hm⟩ := hu.form
  have hcap := RdRows.capd hu
  rcases A with _ | ad
  · have h0 : ms.length = 0 := by
      rcases Nat.eq_zero_or_pos ms.length with e | e
      · exact e
      · obtain ⟨b, off, _, e2, _⟩ := hu.row (Below.refl _ _) e; cases e2
    obtain rfl : ms = [] := List.length_eq_zero_iff.1 h0
    obtain rfl := hcap.1 rfl
    refine wpList_append_own_none hgd s x 28 ho base 22 i0 1 Tryz.underlying28 hi v l.length l hs HO hx ?_
    exact h v W (by rw [List.append_nil]; exact HO) (World.grownBy.refl _ _)
  · refine wpList_append_own _ hgd s x 28 ho base 22 i0 (.slice none 0 0) 1 24 Tryz.underlying28 hi hz0 hz1 hz2 rfl (by decide) v l.length l hs HO ad ms.length c ms hx (by simp) ?_ h1 (by simp only [maxLen]; omega) (by omega) hbase ?_
    · intro j y hj
      have hjn : j < ms.length := (List.getElem?_eq_some_iff.1 hj).1
      obtain ⟨b, off, _, e, hlt, _⟩ := hu.row (Below.refl _ _) (show 0 < ms.length by omega)
      cases e
      rw [Addr.add_lit]
      exact hu.cells j y hj
    · intro v' w' ho hg _
      refine h v' w' ?_ hg
      unfold OwnM
      rw [List.length_append]
      exact ho
theorem grow_set8 {W : World} {X : Nat} {b0 b1 b2 b3 b4 b5 b6 b7 : Value} : W.grownBy (set8 W X b0 b1 b2 b3 b4 b5 b6 b7) (some X) :=
  ((((((grow_set.trans grow_set).trans grow_set).trans grow_set).trans grow_set).trans grow_set).trans grow_set).trans grow_set
theorem OwnM.set8 {W : World} {base X : Nat} {v : Value} {l : List Value} (h : OwnM W base v l) (hX : X < base) (b0 b1 b2 b3 b4 b5 b6 b7 : Value) : OwnM (set8 W X b0 b1 b2 b3 b4 b5 b6 b7) base v l := by
  refine World.ownsRow.kept h grow_set8 ?_
  cases hv : v.ownBlock with
  | none => exact .inl rfl
  | some k =>
    right
    intro e
    injection e with e
    have := (World.ownsRow.lt h k hv).1
    omega
def JoinP (mss : List (List Value)) (w : World) (e : Ending) (w' : World) : Prop :=
  Below w.heap.size w w' ∧ ((mss.flatten.length ≤ 65536 ∧ ∃ v, e = .returned (.tuple #[itV (aR v), .int .i64 0]) ∧ RdM w' mss.flatten v) ∨ (65536 < mss.flatten.length ∧ e = .returned (.tuple #[itV z0, .int .i64 2])))
def BadP (n : Int) (w : World) (e : Ending) (w' : World) : Prop := e = .returned (.tuple #[itV z0, .int .i64 n]) ∧ Below w.heap.size w w'
theorem flat_take_le : ∀ (mss : List (List Value)) (k : Nat), (mss.take k).flatten.length ≤ mss.flatten.length
  | [], k => by simp
  | ms :: mss, 0 => by simp
  | ms :: mss, k + 1 => by
    have := flat_take_le mss k
    simp only [List.take_succ_cons, List.flatten_cons, List.length_append]; omega
abbrev zblk : Obj := .cells #[.int .i64 0, .int .i64 0, .string { data := #[] }, .int .i64 0, .int .i64 0, .slice none 0 0, .slice none 0 0, .pointer none] 31
set_option maxRecDepth 100000 in
theorem refJoin_bad (l : List IRow) (v : Value) (w : World) (h : RdI w l v) (hk : ∃ r, r ∈ l ∧ notArr r = true) (hn : l.length ≤ 1000000) :
    Calls Tryz.prog 8 #[v] w (BadP 1 w) := by
  obtain ⟨A, c, rfl, hm⟩ := h.form
  have H := Lib.hid h
  have hx : ∀ k, k ≤ l.length → (∀ j r, j < k → l[j]? = some r → notArr r = false) → k < l.length := by
    intro k hk2 hall
    rcases Nat.lt_or_ge k l.length with e | e
    · exact e
    · obtain ⟨r, hr, hp⟩ := hk
      obtain ⟨j, hj, rfl⟩ := List.getElem_of_mem hr
      have := hall j _ (by omega) (List.getElem?_eq_getElem hj)
      rw [hp] at this; cases this
  have HX := Lib.hid hx
  clear h hm hk hx
  generalize hl : l.length = m at *
  have HM := Lib.hid hl
  clear hl
  go_enter Tryz.func8, Tryz.ntmps8
  go_wp2
  go_loopw [5] (fun i wr => ∃ k : Nat, k ≤ m ∧ i = .int .i64 k ∧ Hid (wr = w.alloc zblk) ∧ Hid (∀ j r, j < k → l[j]? = some r → notArr r = false)) (fun i _ => m - (intOf i).toNat)
  case atStart => exact ⟨0, Nat.zero_le _, rfl, rfl, fun j r hj => absurd hj (by omega)⟩
  case round =>
    obtain ⟨k, hk, rfl, HW, HA⟩ := hrel
    have hlt := HX.out k hk HA.out
    obtain ⟨bI, off, r, rfl, hbI, hget, hdrop, g0, g1, g2, g3, g4, g5, g6, g7⟩ := H.out.row (W := wr) (by rw [HW.out]; exact box1 _ _ _) hlt
    have HG := Lib.hid hget
    clear hget hdrop
    cases hp : notArr r with
    | true =>
      have t1 : (r.k != 3) = true := hp
      have x1 : wr.heap[w.heap.size]? = some zblk := by rw [HW.out]; exact hp_new rfl
      obtain ⟨d0, d1, d2, d3, d4, d5, d6, d7⟩ := blk8c x1
      obtain ⟨e0, e1, e2, e3, e4, e5, e6, e7⟩ := blk8f x1
      have HB : Hid (Below w.heap.size w wr) := Lib.hid (by rw [HW.out]; exact box1 _ _ _)
      have HX1 := Lib.hid x1
      clear x1
      go_wp2
      obtain ⟨f0, f1, f2, f3, f4, f5, f6, f7⟩ := blk8c (st8 HX1.out (.int .i64 0) (.int .i64 0) (.string { data := #[] }) (.int .i64 0) (.int .i64 0) (.slice none 0 0) (.slice none 0 0) (.pointer none))
      refine bodyPost_ret (v := .tuple #[itV z0, .int .i64 1]) (w := set8 wr w.heap.size (.int .i64 0) (.int .i64 0) (.string { data := #[] }) (.int .i64 0) (.int .i64 0) (.slice none 0 0) (.slice none 0 0) (.pointer none)) ?_ rfl ⟨rfl, ?_⟩
      · generalize set8 wr w.heap.size (.int .i64 0) (.int .i64 0) (.string { data := #[] }) (.int .i64 0) (.int .i64 0) (.slice none 0 0) (.slice none 0 0) (.pointer none) = W at *
        simp [results, Tryz.results8, go_sem, f0, f1, f2, f3, f4, f5, f6, f7, itV, z0]
      · exact below_set8 HB.out (by omega) ..
    | false =>
      have t1 : (r.k != 3) = false := hp
      have HA2 : Hid (∀ j r, j < k + 1 → l[j]? = some r → notArr r = false) := fun j r' hj hr => by
        rcases Nat.lt_or_ge j k with e | e
        · exact HA.out j r' e hr
        · obtain rfl : j = k := by omega
          rw [HG.out] at hr
          injection hr with hr
          subst hr
          exact hp
      go_wp2
      go_roundw
      case rel => exact ⟨k + 1, by omega, by go_num, HW, HA2⟩
      case measure => simp [intOf]; omega
set_option maxRecDepth 100000 in
set_option maxHeartbeats 4000000 in
theorem refJoin_any {d : Nat} {l : List IRow} {mss : List (List Value)} {n b : Nat} {f : List IRow} (v : Value) (w : World) (h : RdI w l v) (hj : JL w l mss) (hs : MemS w d mss.flatten n b f) (ho : ovB (1 + n) b = false) (hn : l.length ≤ 1000000) :
    Calls Tryz.prog 8 #[v] w (JoinP mss w) := by
  obtain ⟨A, c, rfl, hm⟩ := h.form
  have H := Lib.hid h
  have HJ := Lib.hid hj
  have HS := Lib.hid hs
  have HO := Lib.hid ho
  have htot : mss.flatten.length ≤ 262144 := by
    have h1 : mss.flatten.length ≤ n := hs.len fun x n b f ⟨n', _, e⟩ => by omega
    simp only [ovB, Bool.or_eq_false_iff, decide_eq_false_iff_not] at ho
    omega
  have HTOT := Lib.hid htot
  clear h hm hj hs ho htot
  generalize hl : l.length = m at *
  have HM := Lib.hid hl
  clear hl
  go_enter Tryz.func8, Tryz.ntmps8
  go_wp2
  obtain ⟨wB, hwB⟩ : ∃ wB, wB = w.alloc zblk := ⟨_, rfl⟩
  have HWB := Lib.hid hwB
  go_loopw [5] (fun i wr => ∃ k : Nat, k ≤ m ∧ i = .int .i64 k ∧ Hid (wr = wB)) (fun i _ => m - (intOf i).toNat)
  case atStart => exact ⟨0, Nat.zero_le _, rfl, hwB.symm⟩
  case round =>
    clear hwB
    obtain ⟨k, hk, rfl, HW⟩ := hrel
    obtain rfl := HW.out
    have HB0 : Hid (Below w.heap.size w wr) := Lib.hid (by rw [HWB.out]; exact box1 _ _ _)
    by_cases hlt : k < m
    · obtain ⟨bI, off, r, rfl, hbI, hget, hdrop, g0, g1, g2, g3, g4, g5, g6, g7⟩ := H.out.row (W := wr) HB0.out hlt
      obtain ⟨ms, _, hk3, _, _, _⟩ := HJ.out.get hget
      have t1 : (r.k != 3) = false := by rw [hk3]; rfl
      clear hget hdrop hk3
      go_wp2
      go_roundw
      case rel => exact ⟨k + 1, by omega, by go_num, trivial⟩
      case measure => simp [intOf]; omega
    · obtain rfl : k = m := by omega
      clear hlt hk
      have hz : w.heap.size + 1 = wr.heap.size := by rw [HWB.out]; simp
      go_wp2
      obtain ⟨wo, rfl⟩ : ∃ wo : World, wo = wr := ⟨_, rfl⟩
      go_loopw [4, 6] (fun a i w2 => ∃ j : Nat, j ≤ k ∧ i = .int .i64 j ∧ Hid (OwnM w2 wo.heap.size a (mss.take j).flatten ∧ (mss.take j).flatten.length ≤ 65536 ∧ Below wo.heap.size wo w2)) (fun _ i _ => k - (intOf i).toNat)
      case atStart => exact ⟨0, Nat.zero_le _, rfl, Lib.hid ⟨World.ownsRow_nil _ _ _ _, by simp, Below.refl _ _⟩⟩
      case round =>
        obtain ⟨j, hj, rfl, HR⟩ := hrel
        obtain ⟨A4, c4, rfl, hc4⟩ := HR.out.1.form
        have x1 : wr.heap[w.heap.size]? = some zblk := (HR.out.2.2.block w.heap.size (by omega)).trans (by rw [HWB.out]; exact hp_new rfl)
        obtain ⟨d0, d1, d2, d3, d4, d5, d6, d7⟩ := blk8c x1
        obtain ⟨e0, e1, e2, e3, e4, e5, e6, e7⟩ := blk8f x1
        have HX1 := Lib.hid x1
        have HB1 := Lib.hid (HB0.out.trans (HR.out.2.2.mono HB0.out.size))
        clear x1
        by_cases hlt : j < k
        · obtain ⟨bI, off, r, rfl, hbI, hget, hdrop, g0, g1, g2, g3, g4, g5, g6, g7⟩ := H.out.row HB1.out hlt
          obtain ⟨ms, hd, hk3, hrm, h1c, htk⟩ := HJ.out.get hget
          obtain ⟨A5, c5, hms, hc5⟩ := hrm.form
          rw [hms] at g6 hrm
          have hle := flat_take_le mss (j + 1)
          rw [htk, List.flatten_append, List.length_append] at hle
          simp only [List.flatten_cons, List.flatten_nil, List.append_nil] at hle
          have HLE := Lib.hid hle
          have HTK := Lib.hid htk
          have HRM := Lib.hid (RdRows.below hrm HB1.out)
          have H1C := Lib.hid h1c
          have hq := HR.out.2.1
          have hbn : bI < wr.heap.size := by have := HB1.out.size; omega
          clear hget hdrop hd hk3 hrm hle htk h1c hms
          unfold maxLen at hc5
          generalize hL : (mss.take j).flatten.length = L at *
          have HL := Lib.hid hL
          generalize hL2 : ms.length = L2 at *
          have HL2 := Lib.hid hL2
          clear hL hL2
          have hsum : L + L2 ≤ 262144 := by have := HLE.out; have := HTOT.out; omega
          by_cases hbig : 65536 < L + L2
          · have t1 : decide ((65536 : Int) < (L : Int) + (L2 : Int)) = true := by simp; omega
            have HJP : Hid (65536 < mss.flatten.length) := Lib.hid (by have := HLE.out; omega)
            go_wp2
            obtain ⟨f0, f1, f2, f3, f4, f5, f6, f7⟩ := blk8c (st8 HX1.out (.int .i64 0) (.int .i64 0) (.string { data := #[] }) (.int .i64 0) (.int .i64 0) (.slice none 0 0) (.slice none 0 0) (.pointer none))
            refine bodyPost_ret (v := .tuple #[itV z0, .int .i64 2]) (w := set8 wr w.heap.size (.int .i64 0) (.int .i64 0) (.string { data := #[] }) (.int .i64 0) (.int .i64 0) (.slice none 0 0) (.slice none 0 0) (.pointer none)) ?_ rfl ⟨below_set8 HB1.out (by omega) .., .inr ⟨HJP.out, rfl⟩⟩
            generalize set8 wr w.heap.size (.int .i64 0) (.int .i64 0) (.string { data := #[] }) (.int .i64 0) (.int .i64 0) (.slice none 0 0) (.slice none 0 0) (.pointer none) = W at *
            simp [results, Tryz.results8, go_sem, f0, f1, f2, f3, f4, f5, f6, f7, itV, z0]
          · have t1 : decide ((65536 : Int) < (L : Int) + (L2 : Int)) = false := by simp; omega
            go_wp2_with (at_builtin; refine appM wo.heap.size rfl (.tmp 37) (.tmp 42) rfl _ (mss.take j).flatten ms rfl _ rfl HRM.out H1C.out HR.out.1 HR.out.2.2.size ?c1 ?_)
            case c1 => have := HL.out; have := HL2.out; omega
            intro v' w1 ho' hg'
            have HN : Hid (OwnM w1 wo.heap.size v' (mss.take (j + 1)).flatten ∧ (mss.take (j + 1)).flatten.length ≤ 65536 ∧ Below wo.heap.size wo w1) := by
              have e : (mss.take (j + 1)).flatten = (mss.take j).flatten ++ ms := by rw [HTK.out]; simp
              rw [e]
              refine ⟨ho', by rw [List.length_append]; have := HL.out; have := HL2.out; omega, belG HR.out.2.2 HR.out.2.2.size hg' HR.out.1 (Nat.le_refl _)⟩
            clear ho' hg'
            go_wp2
            go_roundw
            case rel => exact ⟨j + 1, by omega, by go_num, HN⟩
            case measure => simp [intOf]; omega
        · obtain rfl : j = k := by omega
          have hall : (mss.take j).flatten = mss.flatten := by rw [List.take_of_length_le (by have := HJ.out.len; have := HM.out; omega)]
          have HR2 := Lib.hid (show OwnM wr wo.heap.size (.slice A4 (mss.take j).flatten.length c4) mss.flatten ∧ mss.flatten.length ≤ 65536 by rw [← hall]; exact ⟨HR.out.1, HR.out.2.1⟩)
          rw [hall]
          rw [hall] at HR2 hc4
          have hrd : RdM wr mss.flatten (.slice A4 mss.flatten.length c4) := HR2.out.1.reads (by have := HR2.out.2; simp only [maxLen]; omega)
          have HRD := Lib.hid hrd
          clear hall hrd
          generalize hMM : mss.flatten = M at *
          have HMM := Lib.hid hMM
          clear hMM
          go_wp2_with fail
          refine (arrayOf_any _ _ _ wr).mono ?_
          rintro e w1 ⟨rfl, hb1⟩
          have HBA := Lib.hid hb1
          clear hb1
          have hit := aR_it (RdRows.below HRD.out HBA.out) ((MemS.below HB1.out HS.out).below HBA.out)
          have HIT := Lib.hid hit
          clear hit
          simp only [itV, aR]
          go_wp2_with fail
          refine (refWithin_any HIT.out HO.out ?c2 ?c3).mono ?_
          case c2 => have := HO.out; simp only [ovB, Bool.or_eq_false_iff, decide_eq_false_iff_not] at this; omega
          case c3 => have := HO.out; simp only [ovB, Bool.or_eq_false_iff, decide_eq_false_iff_not] at this; omega
          rintro e w3 ⟨rfl, hb3⟩
          have hb13 := (HBA.out.trans (hb3.mono HBA.out.size))
          have x3 := (hb13.block w.heap.size (by have := HB1.out.size; have := HR.out.2.2.size; omega)).trans HX1.out
          obtain ⟨d0, d1, d2, d3, d4, d5, d6, d7⟩ := blk8c x3
          obtain ⟨e0, e1, e2, e3, e4, e5, e6, e7⟩ := blk8f x3
          have HX3 := Lib.hid x3
          have HB3 := Lib.hid (HB1.out.trans (hb13.mono HB1.out.size))
          have HO3 : Hid (OwnM w3 wo.heap.size (.slice A4 M.length c4) M) := Lib.hid (ownB HR2.out.1 hb13)
          have hlt3 : w.heap.size < w3.heap.size := lt_of_block x3
          clear hb13 hb3 x3
          simp only [itV, aR]
          go_wp2
          obtain ⟨f0, f1, f2, f3, f4, f5, f6, f7⟩ := blk8c (st8 HX3.out (.int .i64 3) (.int .i64 0) (.string { data := #[] }) (.int .i64 0) (.int .i64 0) (.slice none 0 0) (.slice A4 M.length c4) (.pointer none))
          refine bodyPost_ret (v := .tuple #[itV (aR (.slice A4 M.length c4)), .int .i64 0]) (w := set8 w3 w.heap.size (.int .i64 3) (.int .i64 0) (.string { data := #[] }) (.int .i64 0) (.int .i64 0) (.slice none 0 0) (.slice A4 M.length c4) (.pointer none)) ?_ rfl ⟨below_set8 HB3.out (by omega) .., .inl ⟨by rw [HMM.out]; exact HR2.out.2, _, rfl, ?_⟩⟩
          · generalize set8 w3 w.heap.size (.int .i64 3) (.int .i64 0) (.string { data := #[] }) (.int .i64 0) (.int .i64 0) (.slice none 0 0) (.slice A4 M.length c4) (.pointer none) = W at *
            simp [results, Tryz.results8, go_sem, f0, f1, f2, f3, f4, f5, f6, f7, itV, aR]
          · rw [HMM.out]
            exact (HO3.out.set8 (by omega) ..).reads (by have := HR2.out.2; simp only [maxLen]; omega)
end Go.Proofs.YtlfjhglhjepbpaaGreatDoor
