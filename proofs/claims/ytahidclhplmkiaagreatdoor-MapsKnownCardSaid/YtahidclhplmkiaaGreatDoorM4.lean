/- Members of the call's own: append, one box set; the place of the first element that a test holds of. -/
import Derived.Laws.AppendOwnNone
import Derived.Test.YtahidclhplmkiaaGreatDoorM3
import Derived.Test.YtahidclhplmkiaaGreatDoorM2
namespace Go.Proofs.YtahidclhplmkiaaGreatDoor
open Go.RowKit
set_option linter.unusedVariables false
set_option linter.unusedSimpArgs false

/-- The place of the first element that p holds of, or -1. -/
def whr {α : Type} (p : α → Bool) : List α → Int → Int
  | [], _ => -1
  | x :: l, i => if p x then i else whr p l (i + 1)
theorem whr_no {α : Type} {p : α → Bool} : ∀ {l : List α} {i : Int}, (∀ x, x ∈ l → p x = false) → whr p l i = -1
  | [], _, _ => rfl
  | x :: l, i, h => by
    simp only [whr]
    rw [if_neg (by rw [h x (List.mem_cons_self ..)]; decide)]
    exact whr_no fun y hy => h y (List.mem_cons_of_mem _ hy)
theorem whr_yes {α : Type} {p : α → Bool} : ∀ {l : List α} {i : Int}, 0 ≤ i → (∃ x, x ∈ l ∧ p x = true) → 0 ≤ whr p l i
  | [], _, _, ⟨x, hx, _⟩ => by cases hx
  | y :: l, i, hi, ⟨x, hx, h⟩ => by
    simp only [whr]
    by_cases hy : p y = true
    · rw [if_pos hy]; exact hi
    · rw [if_neg hy]
      rcases List.mem_cons.1 hx with rfl | hx
      · exact absurd h hy
      · exact whr_yes (by omega) ⟨x, hx, h⟩
def notArr (r : IRow) : Bool := r.k != 3
theorem OwnM.form {W : World} {base : Nat} {v : Value} {l : List Value} (h : OwnM W base v l) : ∃ A c, v = .slice A l.length c ∧ Capd A l.length c := by
  rcases h.2 with ⟨rfl, h1⟩ | ⟨g, cap, cur, rfl, _, _, h3, h4, _⟩
  · exact ⟨none, 0, by rw [h1], by rw [h1]; exact ⟨fun _ => rfl, Nat.le_refl _, by simp⟩⟩
  · exact ⟨_, _, rfl, fun e => (by cases e), h3, h4⟩
theorem OwnM.kept {W W' : World} {base B : Nat} {v : Value} {l : List Value} (h : OwnM W base v l) (hb : Below W.heap.size W W') : OwnM W' base v l := ownB h hb
/-- Another list of members is appended to one of the call's own. -/
theorem appM {ops : Array Oper} {rest : List Oper} {o : Oper} {a : Act} {Q : Exit → Act → World → Prop} {W : World} (base : Nat) (hgd : o.guard = none) (s x : Operand)
    (ho : o.op = .call { callee := .builtin .append, args := #[s, x], argTypes := #[23, 23] })
    (v : Value) (l ms : List Value) (hs : a.eval s = v) (u : Value) (hx : a.eval x = u) (hu : RdM W ms u) (h1 : ∀ m, m ∈ ms → m.oneCell' = true)
    (HO : OwnM W base v l) (hbase : base ≤ W.heap.size) (hl : l.length + ms.length ≤ 1000000)
    (h : ∀ v' w1, OwnM w1 base v' (l ++ ms) → W.grownBy w1 v.ownBlock → wpList Tryz.prog ops Q rest (a.put o.dst v') w1) :
    wpList Tryz.prog ops Q (o :: rest) a W := by
  obtain ⟨i0, hi, hz0, hz1, hz2⟩ := info_parts info_qI
  obtain ⟨A, c, rfl, hm⟩ := hu.form
  have hcap := RdRows.capd hu
  rcases A with _ | ad
  · have h0 : ms.length = 0 := by
      rcases Nat.eq_zero_or_pos ms.length with e | e
      · exact e
      · obtain ⟨b, off, _, e2, _⟩ := hu.row (Below.refl _ _) e; cases e2
    obtain rfl : ms = [] := List.length_eq_zero_iff.1 h0
    obtain rfl := hcap.1 rfl
    refine wpList_append_own_none hgd s x 23 ho base 22 i0 1 Tryz.underlying23 hi v l.length l hs HO hx ?_
    exact h v W (by rw [List.append_nil]; exact HO) (World.grownBy.refl _ _)
  · refine wpList_append_own _ hgd s x 23 ho base 22 i0 (.slice none 0 0) 1 24 Tryz.underlying23 hi hz0 hz1 hz2 rfl (by decide) v l.length l hs HO ad ms.length c ms hx (by simp) ?_ h1 (by simp only [maxLen]; omega) (by omega) hbase ?_
    · intro j y hj
      have hjn : j < ms.length := (List.getElem?_eq_some_iff.1 hj).1
      obtain ⟨b, off, _, e, hlt, _⟩ := hu.row (Below.refl _ _) (show 0 < ms.length by omega)
      cases e
      rw [Addr.add_lit]
      exact hu.cells j y hj
    · intro v' w' ho hg _
      refine h v' w' ?_ hg
      unfold OwnM
      rw [List.length_append]
      exact ho
theorem grow_set8 {W : World} {X : Nat} {b0 b1 b2 b3 b4 b5 b6 b7 : Value} : W.grownBy (set8 W X b0 b1 b2 b3 b4 b5 b6 b7) (some X) :=
  ((((((grow_set.trans grow_set).trans grow_set).trans grow_set).trans grow_set).trans grow_set).trans grow_set).trans grow_set
theorem OwnM.set8 {W : World} {base X : Nat} {v : Value} {l : List Value} (h : OwnM W base v l) (hX : X < base) (b0 b1 b2 b3 b4 b5 b6 b7 : Value) : OwnM (set8 W X b0 b1 b2 b3 b4 b5 b6 b7) base v l := by
  refine World.ownsRow.kept h grow_set8 ?_
  cases hv : v.ownBlock with
  | none => exact .inl rfl
  | some k =>
    right
    intro e
    injection e with e
    have := (World.ownsRow.lt h k hv).1
    omega
abbrev zblk : Obj := .cells #[.int .i64 0, .int .i64 0, .string { data := #[] }, .int .i64 0, .int .i64 0, .slice none 0 0, .slice none 0 0, .pointer none] 30
end Go.Proofs.YtahidclhplmkiaaGreatDoor
/- slices.Insert of members, at the end. -/
namespace Go.Proofs.YtahidclhplmkiaaGreatDoor
open Go.RowKit
set_option linter.unusedVariables false
set_option linter.unusedSimpArgs false

/-- What an insertion leaves: members that read as a list; what lay below base stands. -/
def InsP (base : Nat) (ms : List Value) (w : World) (e : Ending) (w' : World) : Prop := ∃ v, e = .returned v ∧ OwnM w' base v ms ∧ Below base w w'
set_option maxRecDepth 100000 in
theorem insEnd_any (ms : List Value) (x : Value) (s : Value) (X base : Nat) (w : World) (h : OwnM w base s ms) (hb : base ≤ w.heap.size) (hx : RdM w [x] (.slice (some ⟨X, 0, none⟩) 1 1)) (h1 : x.oneCell' = true) (hn : ms.length ≤ 900000) :
    Calls Tryz.prog 35 #[s, .int .i64 ms.length, .slice (some ⟨X, 0, none⟩) 1 1] w (InsP base (ms ++ [x]) w) := by
  obtain ⟨A, c, rfl, hc⟩ := h.form
  have H := Lib.hid h
  have HX := Lib.hid hx
  obtain ⟨_, hc2, hc3⟩ := hc
  unfold maxLen at hc3
  clear h hx
  generalize hl : ms.length = m at *
  have HM := Lib.hid hl
  clear hl
  by_cases hcm : c = m
  all_goals
    try subst hcm
    go_enter Tryz.func35, Tryz.ntmps35
    go_wp2_with (at_builtin; refine appM base rfl (.tmp 23) (.tmp 24) rfl _ ms [x] rfl _ rfl HX.out (by intro q hq; rw [List.mem_singleton.1 hq]; exact h1) H.out hb (by have := HM.out; simp; omega) ?_)
    intro v' w1 ho hg
    have HE : Hid (InsP base (ms ++ [x]) w (.returned v') w1) := Lib.hid ⟨v', rfl, ho, belG (Below.refl _ _) hb hg H.out (Nat.le_refl _)⟩
    clear ho hg
    go_wp2
    go_ret
    exact HE.out
end Go.Proofs.YtahidclhplmkiaaGreatDoor
/- Join of both packages: arrays joined. -/
namespace Go.Proofs.YtahidclhplmkiaaGreatDoor
open Go.RowKit
set_option linter.unusedVariables false
set_option linter.unusedSimpArgs false

set_option maxRecDepth 100000 in
theorem join1_any (r : IRow) (w : World) (hok : ROk r) : Calls Tryz.prog 37 #[itV r] w (FitP (notArr r) w) := by
  obtain ⟨k, ak, tx, tr, nd, ps, ms, fn⟩ := r
  have sps := fun w a m => run_store Tryz.prog w a ps m hok.ps
  have sms := fun w a m => run_store Tryz.prog w a ms m hok.ms
  have sfn := fun w a m => run_store Tryz.prog w a fn m hok.fn
  have ops := hok.ps
  have oms := hok.ms
  have ofn := hok.fn
  dsimp only at ops oms ofn
  clear hok
  simp only [itV]
  go_enter Tryz.func37, Tryz.ntmps37
  go_wp2
  go_ret
  exact ⟨rB rfl, box1 _ _ _⟩
set_option maxRecDepth 100000 in
theorem where_any (l : List IRow) (v : Value) (w : World) (h : RdI w l v) (hok : ∀ r, r ∈ l → ROk r) (hn : l.length ≤ 1000000) :
    Calls Tryz.prog 29 #[v, .func (.func 37) #[] #[]] w fun e w' => e = .returned (.int .i64 (whr notArr l 0)) ∧ Below w.heap.size w w' := by
  obtain ⟨A, c, rfl, hm⟩ := h.form
  have H := Lib.hid h
  have HOK := Lib.hid hok
  clear h hok hm
  generalize hl : l.length = m at *
  have HM := Lib.hid hl
  clear hl
  have H0 : Hid (whr notArr l 0 = whr notArr (l.drop 0) ((0 : Nat) : Int)) := rfl
  go_enter Tryz.func29, Tryz.ntmps29
  go_wp2
  go_loopw [9] (fun i wr => ∃ k : Nat, k ≤ m ∧ i = .int .i64 k ∧ Hid (Below w.heap.size w wr) ∧ Hid (whr notArr l 0 = whr notArr (l.drop k) (k : Int))) (fun i _ => m - (intOf i).toNat)
  case atStart => exact ⟨0, Nat.zero_le _, rfl, Lib.hid (Below.refl _ _), H0⟩
  case round =>
    obtain ⟨k, hk, rfl, HB, HX⟩ := hrel
    by_cases hlt : k < m
    · obtain ⟨bI, off, r, rfl, hbI, hget, hdrop, g0, g1, g2, g3, g4, g5, g6, g7⟩ := H.out.row HB.out hlt
      have hok := HOK.out r (List.mem_of_getElem? hget)
      have sps := fun w a m => run_store Tryz.prog w a _ m hok.ps
      have sms := fun w a m => run_store Tryz.prog w a _ m hok.ms
      have sfn := fun w a m => run_store Tryz.prog w a _ m hok.fn
      have hps := hok.ps
      have hms := hok.ms
      have hfn := hok.fn
      have HOKR := Lib.hid hok
      have hbn : bI < wr.heap.size := by have := HB.out.size; omega
      have HX2 := Lib.hid (show whr notArr l 0 = whr notArr (r :: l.drop (k + 1)) (k : Int) by rw [← hdrop]; exact HX.out)
      clear hok hget hdrop hbI HX
      go_wp2_with fail
      refine (join1_any r _ HOKR.out).mono ?_
      rintro e w1 ⟨rfl, hb1⟩
      have HB1 := Lib.hid (HB.out.trans (((box1 wr _ _).trans (hb1.mono (by simp))).mono HB.out.size))
      clear hb1
      cases hp : notArr r with
      | true =>
        have HV := Lib.hid (show whr notArr l 0 = (k : Int) by rw [HX2.out]; simp [whr, hp])
        go_wp2
        go_ret
        exact ⟨by rw [HV.out]; rfl, HB1.out⟩
      | false =>
        have HV := Lib.hid (show whr notArr l 0 = whr notArr (l.drop (k + 1)) ((k + 1 : Nat) : Int) by rw [HX2.out]; simp [whr, hp])
        go_wp2
        go_roundw
        case rel => exact ⟨k + 1, by omega, by go_num, HB1, HV⟩
        case measure => simp [intOf]; omega
    · obtain rfl : k = m := by omega
      have HV := Lib.hid (show whr notArr l 0 = -1 by rw [HX.out, List.drop_eq_nil_of_le (by rw [HM.out]; exact Nat.le_refl _)]; rfl)
      go_wp2
      go_ret
      exact ⟨by rw [HV.out]; rfl, HB.out⟩

/-- The members of arrays. -/
inductive JL (w : World) : List IRow → List (List Value) → Prop
  | nil : JL w [] []
  | cons {r : IRow} {l : List IRow} {ms : List Value} {mss : List (List Value)} : r.k = 3 → RdM w ms r.ms → (∀ m, m ∈ ms → m.oneCell' = true) → JL w l mss → JL w (r :: l) (ms :: mss)
theorem JL.len {w : World} {l : List IRow} {mss : List (List Value)} (h : JL w l mss) : l.length = mss.length := by
  induction h with
  | nil => rfl
  | cons _ _ _ _ ih => simp [ih]
theorem JL.get {w : World} : ∀ {l : List IRow} {mss : List (List Value)}, JL w l mss → ∀ {k : Nat} {r : IRow}, l[k]? = some r → ∃ ms, mss.drop k = ms :: mss.drop (k + 1) ∧ r.k = 3 ∧ RdM w ms r.ms ∧ (∀ m, m ∈ ms → m.oneCell' = true) ∧ mss.take (k + 1) = mss.take k ++ [ms]
  | _, _, .nil, k, r, h => by simp at h
  | _, _, .cons h1 h2 h3 h4, 0, r, h => by
    simp only [List.getElem?_cons_zero, Option.some.injEq] at h
    subst h
    exact ⟨_, rfl, h1, h2, h3, rfl⟩
  | _, _, .cons h1 h2 h3 h4, k + 1, r, h => by
    obtain ⟨ms, e1, e2, e3, e4, e5⟩ := JL.get h4 (k := k) (by simpa using h)
    exact ⟨ms, by simpa using e1, e2, e3, e4, by simpa using e5⟩
theorem join_open {w : World} {d : Nat} : ∀ {l : List IRow} {n b : Nat} {f : List IRow}, SumR (ItP w (SqR w d)) l n b f → (∀ r, r ∈ l → r.k = 3) → ∃ mss n', JL w l mss ∧ MemS w d mss.flatten n' b f ∧ n = l.length + n' := by
  intro l
  induction l with
  | nil =>
    intro n b f h _
    obtain ⟨rfl, rfl, rfl⟩ := h.empty
    exact ⟨[], 0, .nil, .nil, rfl⟩
  | cons x l ih =>
    intro n b f h hk
    obtain ⟨n1, b1, f1, n2, b2, f2, h1, h2, rfl, rfl, rfl⟩ := h.head
    obtain ⟨mss, n', i1, i2, rfl⟩ := ih h2 fun r hr => hk r (List.mem_cons_of_mem _ hr)
    have hx := hk x (List.mem_cons_self ..)
    rcases h1.2 with H | H | H | ⟨_, ms, m', hM, hS, rfl⟩ | H | H
    · exact absurd H.1 (by omega)
    · exact absurd H.1 (by omega)
    · exact absurd H.1 (by omega)
    · refine ⟨ms :: mss, m' + n', .cons hx hM (fun m hm => ?_) i1, SumR.append hS i2, by simp only [List.length_cons]; omega⟩
      obtain ⟨_, _, _, ⟨_, hq, _⟩, _⟩ := hS.mem m hm
      exact hq.one
    · exact absurd H.1 (by omega)
    · rcases H.1 with H | H <;> exact absurd hx (by omega)
def JoinP (mss : List (List Value)) (w : World) (e : Ending) (w' : World) : Prop :=
  Below w.heap.size w w' ∧ ((mss.flatten.length ≤ 65536 ∧ ∃ v, e = .returned (.tuple #[itV (aR v), .int .i64 0]) ∧ RdM w' mss.flatten v) ∨ (65536 < mss.flatten.length ∧ e = .returned (.tuple #[itV z0, .int .i64 2])))
def BadP (n : Int) (w : World) (e : Ending) (w' : World) : Prop := e = .returned (.tuple #[itV z0, .int .i64 n]) ∧ Below w.heap.size w w'
theorem flat_take_le : ∀ (mss : List (List Value)) (k : Nat), (mss.take k).flatten.length ≤ mss.flatten.length
  | [], k => by simp
  | ms :: mss, 0 => by simp
  | ms :: mss, k + 1 => by
    have := flat_take_le mss k
    simp only [List.take_succ_cons, List.flatten_cons, List.length_append]; omega
end Go.Proofs.YtahidclhplmkiaaGreatDoor
/- append of read items to a row of the call's own; slices.Clone of items. -/
namespace Go.Proofs.YtahidclhplmkiaaGreatDoor
open Go.RowKit
set_option linter.unusedVariables false
set_option linter.unusedSimpArgs false

theorem iflat_len (l : List IRow) : (iflat l).length = l.length * 8 := by
  have := flat_len (l.map IRow.cells) (cells_all8 l)
  simpa [iflat] using this
theorem iflat_one (l : List IRow) (h1 : ∀ r, r ∈ l → ROk r) : ∀ u, u ∈ iflat l → u.oneCell' = true := fun u hu => by
  obtain ⟨c, hc, hu⟩ := List.mem_flatten.1 hu
  obtain ⟨r, hr, rfl⟩ := List.mem_map.1 hc
  have hok := h1 r hr
  simp only [IRow.cells, List.mem_cons, List.not_mem_nil, or_false] at hu
  rcases hu with rfl | rfl | rfl | rfl | rfl | rfl | rfl | rfl
  · rfl
  · rfl
  · rfl
  · rfl
  · rfl
  · exact hok.ps
  · exact hok.ms
  · exact hok.fn
theorem RdI.cells {w : World} {l : List IRow} {b off n c : Nat} (h : RdI w l (.slice (some ⟨b, off, none⟩) n c)) : ∀ j u, (iflat l)[j]? = some u → w.cell? ⟨b, off + j, none⟩ = some u :=
  RdRows.cells h (cells_all8 l) (by decide)
/-- append of items that are read to a row of the call's own. -/
theorem appIs {ops : Array Oper} {rest : List Oper} {o : Oper} {a : Act} {Q : Exit → Act → World → Prop} {W : World} (base : Nat) (hgd : o.guard = none) (s x : Operand)
    (ho : o.op = .call { callee := .builtin .append, args := #[s, x], argTypes := #[22, 22] })
    (v : Value) (l ms : List IRow) (hs : a.eval s = v) (u : Value) (hx : a.eval x = u) (hu : RdI W ms u) (h1 : ∀ r, r ∈ ms → ROk r)
    (HO : OwnI W base v l) (hbase : base ≤ W.heap.size) (hl : l.length + ms.length ≤ 1000000)
    (h : ∀ v' w1, OwnI w1 base v' (l ++ ms) → W.grownBy w1 v.ownBlock → wpList Tryz.prog ops Q rest (a.put o.dst v') w1) :
    wpList Tryz.prog ops Q (o :: rest) a W := by
  obtain ⟨i0, hi, hz0, hz1, hz2⟩ := info_parts info_item
  obtain ⟨A, c, rfl, hm⟩ := RdI.form hu
  have hcap := RdRows.capd hu
  rcases A with _ | ad
  · have h0 : ms.length = 0 := by
      rcases Nat.eq_zero_or_pos ms.length with e | e
      · exact e
      · obtain ⟨b, off, _, e2, _⟩ := RdI.row hu (Below.refl _ _) e; cases e2
    obtain rfl : ms = [] := List.length_eq_zero_iff.1 h0
    obtain rfl := hcap.1 rfl
    refine wpList_append_own_none hgd s x 22 ho base 30 i0 8 Tryz.underlying22 hi v l.length (iflat l) hs HO hx ?_
    exact h v W (by rw [List.append_nil]; exact HO) (World.grownBy.refl _ _)
  · refine wpList_append_own _ hgd s x 22 ho base 30 i0 _ 8 104 Tryz.underlying22 hi hz0 hz1 hz2 rfl (by decide) v l.length (iflat l) hs HO ad ms.length c (iflat ms) hx (iflat_len ms) ?_ (iflat_one ms h1) (by simp only [maxLen]; omega) (by omega) hbase ?_
    · intro j y hj
      have hjn : j < (iflat ms).length := (List.getElem?_eq_some_iff.1 hj).1
      obtain ⟨b, off, _, e, hlt, _⟩ := RdI.row hu (Below.refl _ _) (show 0 < ms.length by rw [iflat_len] at hjn; omega)
      cases e
      rw [Addr.add_lit]
      exact RdI.cells hu j y hj
    · intro v' w' ho hg _
      refine h v' w' ?_ hg
      unfold OwnI
      rw [List.length_append, iflat_append]
      exact ho
theorem ownI_lit (w : World) : OwnI (w.alloc (.cells #[] 30)) w.heap.size (.slice (some ⟨w.heap.size, 0, none⟩) 0 0) [] :=
  World.ownsRow_lit (base := w.heap.size) (e := 30) (size := 8) w #[] 0 (Nat.le_refl _) (by simp [maxLen]) rfl
set_option maxRecDepth 100000 in
theorem cloneI_any (l : List IRow) (v : Value) (w : World) (h : RdI w l v) (hn : l.length ≤ 900000) (h1 : ∀ r, r ∈ l → ROk r) :
    Calls Tryz.prog 46 #[v] w fun e w' => ∃ v', e = .returned v' ∧ OwnI w' w.heap.size v' l ∧ Below w.heap.size w w' := by
  obtain ⟨A, c, rfl, hc⟩ := h.form
  have HR := Lib.hid h
  have H1 := Lib.hid h1
  clear h h1
  have q88 : ∀ (w : World) (a : Option Addr) (n c n' c' : Nat), (binOp .eql 22 (.slice a n c) (.slice none n' c')).run Tryz.prog w = .ok (.bool a.isNone) w := fun w a n c n' c' => Lib.run_eql_slice_nil w _ _ a n c n' c' Tryz.underlying22
  rcases A with _ | ad
  · have h0 : l.length = 0 := by
      rcases Nat.eq_zero_or_pos l.length with e | e
      · exact e
      · obtain ⟨b, off, _, e2, _⟩ := RdI.row HR.out (Below.refl _ _) e; cases e2
    obtain rfl : l = [] := List.length_eq_zero_iff.1 h0
    go_enter Tryz.func46, Tryz.ntmps46
    go_wp2
    go_ret
    exact ⟨_, rfl, World.ownsRow_nil _ _ _ _, Below.refl _ _⟩
  · have HN := Lib.hid hn
    have HB0 := Lib.hid (box1 w 30 #[])
    go_enter Tryz.func46, Tryz.ntmps46
    go_wp2_with (at_builtin; refine appIs w.heap.size rfl (.tmp 5) (.tmp 6) rfl _ [] l rfl _ rfl (RdRows.below HR.out HB0.out) H1.out (ownI_lit w) (by simp) (by have := HN.out; simp; omega) ?_)
    intro v' w' ho hg
    have HB := Lib.hid (belG (B := w.heap.size) (w := w) HB0.out (by simp) hg (ownI_lit w) (Nat.le_refl _))
    have HO : Hid (OwnI w' w.heap.size v' l) := Lib.hid (by simpa using ho)
    clear ho hg
    go_wp2
    go_ret
    exact ⟨_, rfl, HO.out, HB.out⟩
end Go.Proofs.YtahidclhplmkiaaGreatDoor
/- Zero items and empty members. -/
namespace Go.Proofs.YtahidclhplmkiaaGreatDoor
open Go.RowKit
set_option linter.unusedVariables false
set_option linter.unusedSimpArgs false

theorem z0_it (w : World) (G : Value → Nat → Nat → List IRow → Prop) : ItP w G z0 1 0 [z0] := ⟨.z0, .inl ⟨rfl, rfl, rfl, rfl⟩⟩
theorem zeros_sum (w : World) (G : Value → Nat → Nat → List IRow → Prop) : ∀ n, SumR (ItP w G) (List.replicate n z0) n 0 (List.replicate n z0)
  | 0 => .nil
  | n + 1 => by
    have := SumR.cons (z0_it w G) (zeros_sum w G n)
    rw [List.replicate_succ, show n + 1 = 1 + n by omega]
    exact this
theorem zeros_sq {w : World} {n : Nat} {v : Value} (h : RdI w (List.replicate n z0) v) (d : Nat) : SqR w (d + 1) v n 0 (List.replicate n z0) := ⟨_, h, zeros_sum w _ n⟩
abbrev nilS : Value := .slice none 0 0
theorem nil_sq (w : World) (d : Nat) : SqR w (d + 1) nilS 0 0 [] := ⟨[], RdRows.nil w 8 none 0 ⟨fun _ => rfl, Nat.le_refl _, by simp [maxLen]⟩, .nil⟩
theorem nils_mem (w : World) (d : Nat) : ∀ n, MemS w (d + 1) (List.replicate n nilS) n 0 []
  | 0 => .nil
  | n + 1 => by
    have P : ∃ n', SqR w (d + 1) nilS n' 0 [] ∧ 1 + 0 = 1 + n' := ⟨0, nil_sq w d, rfl⟩
    have := SumR.cons P (nils_mem w d n)
    rw [List.replicate_succ, show n + 1 = 1 + 0 + n by omega]
    exact this
/-- A part of what reads reads. -/
theorem RdI.take {w : World} {l : List IRow} {A : Option Addr} {n c k : Nat} (h : RdI w l (.slice A n c)) (hk : k ≤ n) : RdI w (l.take k) (.slice A k c) := by
  obtain ⟨A', c', e, hc, hr⟩ := h
  have hl : (l.map IRow.cells).length = l.length := by simp
  cases e
  rw [hl] at hk hc hr
  have hlk : ((l.take k).map IRow.cells).length = k := by simp; omega
  refine ⟨A, c, by rw [hlk], ⟨hc.1, by rw [hlk]; have := hc.2.1; omega, hc.2.2⟩, fun h0 => ?_⟩
  rw [hlk] at h0 ⊢
  obtain ⟨b, off, e, hlt, hcell⟩ := hr (by omega)
  refine ⟨b, off, e, hlt, fun j hj i hi => ?_⟩
  rw [hcell j (by omega) i hi]
  congr 2
  simp only [List.getD_eq_getElem?_getD, List.getElem?_map, List.getElem?_take_of_lt hj]
end Go.Proofs.YtahidclhplmkiaaGreatDoor
