/- The law MapsKnown: the merged maps. -/
import Derived.Test.YtahidclhplmkiaaGreatDoorM13
import Derived.Test.YtahidclhplmkiaaGreatDoorMIwc
namespace Go.Proofs.YtahidclhplmkiaaGreatDoor
open Go.RowKit Go.WideMaps
set_option linter.unusedVariables false
set_option linter.unusedSimpArgs false

def sc : ByteArray := { data := #[99] }
def sd : ByteArray := { data := #[100] }
def nL (X3 X4 : Nat) : List PRow := [⟨3, d2, sl1 X3⟩, ⟨3, d3, sl1 X4⟩]
theorem k13 : (d1.toList == d3.toList) = false := by decide +kernel
theorem k23 : (d2.toList == d3.toList) = false := by decide +kernel
theorem k31 : (d3.toList == d1.toList) = false := by decide +kernel
theorem k32 : (d3.toList == d2.toList) = false := by decide +kernel
theorem k33 : (d3.toList == d3.toList) = true := by decide +kernel
theorem d23 : d3 ≠ d2 := by decide +kernel
theorem nL_E {W : World} {X1 X2 : Nat} {u : Value} (h : RdP W (nL X1 X2) u) : MapE W (mapR u) (nL X1 X2) := by
  obtain ⟨A, c, rfl, _⟩ := h.form
  refine ⟨h, ⟨rfl, rfl, rfl⟩, rfl, fun p hp => ?_, ?_, by simp [nL]⟩
  · simp only [nL, List.mem_cons, List.not_mem_nil, or_false] at hp
    rcases hp with rfl | rfl
    · exact ⟨⟨.inl rfl, .inr (.inl rfl)⟩, rfl⟩
    · exact ⟨⟨.inl rfl, .inr (.inr rfl)⟩, rfl⟩
  · unfold Dist nL
    refine List.Pairwise.cons (fun q hq => ?_) (List.Pairwise.cons (fun q hq => by cases hq) .nil)
    rw [List.mem_singleton.1 hq]
    exact d23
/-- The rows of the four values. -/
def rwT (X2 : Nat) (p : PRow) : List IRow :=
  if (p.tx.toList == d1.toList) = true then [tR sa] else if (p.tx.toList == d3.toList) = true then [tR sd] else if p.v.ownBlock = some X2 then [tR sb] else [tR sc]
theorem rwT_len (X2 : Nat) (p : PRow) : (rwT X2 p).length = 1 := by
  unfold rwT
  split
  · rfl
  · split
    · rfl
    · split <;> rfl
theorem rwT1 (X1 X2 : Nat) : rwT X2 ⟨3, d1, sl1 X1⟩ = [tR sa] := by simp only [rwT, k11, if_true]
theorem rwT2 (X2 : Nat) : rwT X2 ⟨3, d2, sl1 X2⟩ = [tR sb] := by
  simp only [rwT, k21, k23, Bool.false_eq_true, if_false]
  exact if_pos rfl
theorem rwT3 {X2 X3 : Nat} (h : X2 ≠ X3) : rwT X2 ⟨3, d2, sl1 X3⟩ = [tR sc] := by
  simp only [rwT, k21, k23, Bool.false_eq_true, if_false]
  exact if_neg (fun e => h (Option.some.inj e).symm)
theorem rwT4 (X2 X4 : Nat) : rwT X2 ⟨3, d3, sl1 X4⟩ = [tR sd] := by simp only [rwT, k31, k33, Bool.false_eq_true, if_false, if_true]
def S2 : List SRow := [⟨3, d1, [tR sa]⟩, ⟨3, d2, [tR sb]⟩]
def S3 (M : List IRow) : List SRow := [⟨3, d1, [tR sa]⟩, ⟨3, d2, M⟩, ⟨3, d3, [tR sd]⟩]
theorem fold_two (T : MgT) {X1 X2 X3 X4 : Nat} : foldS T (rwT X2) (mapL X1 X2) = .ok S2 := by
  simp only [foldS, mapL, List.map_cons, List.map_nil, List.foldl_cons, List.foldl_nil, sp, rwT1, rwT2, stepS, whr, keyS, k12, List.nil_append, List.cons_append, if_true, Bool.false_eq_true, if_false]
  rfl
theorem fold_four (T : MgT) {X1 X2 X3 X4 : Nat} (h : X2 ≠ X3) : foldS T (rwT X2) (mapL X1 X2 ++ nL X3 X4) = stepS T (T S2 1 ⟨3, d2, [tR sc]⟩) ⟨3, d3, [tR sd]⟩ := by
  rw [show mapL X1 X2 ++ nL X3 X4 = (mapL X1 X2 ++ [⟨3, d2, sl1 X3⟩]) ++ [⟨3, d3, sl1 X4⟩] by simp [nL], foldS_snoc, foldS_snoc, fold_two T (X1 := X1) (X2 := X2) (X3 := X3) (X4 := X4)]
  simp only [sp, rwT3 h, rwT4]
  congr 1
  simp only [stepS, S2, whr, keyS, k12, k22, Bool.false_eq_true, if_false, if_true]
  rfl
theorem step_four (T : MgT) (M : List IRow) : stepS T (.ok [⟨3, d1, [tR sa]⟩, ⟨3, d2, M⟩]) ⟨3, d3, [tR sd]⟩ = .ok (S3 M) := by
  simp only [stepS, S3, whr, keyS, k13, k23, Bool.false_eq_true, if_false, if_true]
  rfl
/-- A map of three. -/
def MtP (M : List IRow) (w : World) (e : Ending) (w' : World) : Prop := ∃ A c v1 A2 c2 v3, e = .returned (.tuple #[itV (mapR (.slice A 3 c)), .int .i64 0]) ∧ RdP w' [⟨3, d1, v1⟩, ⟨3, d2, .slice A2 M.length c2⟩, ⟨3, d3, v3⟩] (.slice A 3 c) ∧ RdI w' M (.slice A2 M.length c2) ∧ Below w.heap.size w w'
theorem mgp_mtp {M : List IRow} {w : World} {e : Ending} {w' : World} (h : MgP w (.ok (S3 M)) e w') : MtP M w e w' := by
  obtain ⟨L, u, rfl, hrd, hk, hv, hb⟩ := h
  have hl : L.length = 3 := by
    have := congrArg List.length hk
    simpa [S3] using this
  obtain ⟨q1, q2, q3, rfl⟩ : ∃ q1 q2 q3, L = [q1, q2, q3] := by
    match L, hl with
    | [a, b, c], _ => exact ⟨a, b, c, rfl⟩
  · simp only [S3, List.map_cons, List.map_nil, kP, kS, List.cons.injEq, Prod.mk.injEq, and_true] at hk
    obtain ⟨⟨a1, t1⟩, ⟨a2, t2⟩, a3, t3⟩ := hk
    obtain ⟨A2, n2, c2, e2, hn2, hr2⟩ := hv 1 q2 ⟨3, d2, M⟩ rfl rfl
    dsimp only at hn2 hr2
    obtain ⟨A, c, rfl, _⟩ := RdP.form hrd
    obtain ⟨ak1, tx1, v1⟩ := q1
    obtain ⟨ak2, tx2, v2⟩ := q2
    obtain ⟨ak3, tx3, v3⟩ := q3
    dsimp only at a1 t1 a2 t2 a3 t3 e2 hr2
    subst a1 t1 a2 t2 a3 t3 e2 hn2
    exact ⟨A, c, v1, A2, c2, v3, rfl, hrd, hr2, hb⟩
/-- What the four modes do. -/
inductive Md : Nat → ByteArray → MgT → Except Int (List SRow) → Prop
  | first : Md 25 sFirst (fun S _ _ => .ok S) (.ok (S3 [tR sb]))
  | last : Md 26 sLast (fun S i s => .ok (S.set i s)) (.ok (S3 [tR sc]))
  | combine : Md 27 sCombine cmbT (.ok (S3 [tR sb, tR sc]))
  | reject : Md 28 sReject (fun _ _ _ => .error 4) (.error 4)
theorem Md.fold {f : Nat} {how : ByteArray} {T : MgT} {R : Except Int (List SRow)} (h : Md f how T R) {X1 X2 X3 X4 : Nat} (hx : X2 ≠ X3) : foldS T (rwT X2) (mapL X1 X2 ++ nL X3 X4) = R := by
  rw [fold_four T hx]
  cases h with
  | first => exact step_four _ _
  | last => exact step_four _ _
  | combine => exact step_four _ _
  | reject => rfl
theorem Md.hit {f : Nat} {how : ByteArray} {T : MgT} {R : Except Int (List SRow)} (h : Md f how T R) {X1 X2 X3 X4 : Nat} (hx : X2 ≠ X3) (w : World) : ∃ C : List PRow → DataW Unit → Prop, C [] (.map []) ∧ (∀ cs p Do, C cs Do → C (cs ++ [p]) Do) ∧ AgP f T (rwT X2) C w (mapL X1 X2 ++ nL X3 X4) := by
  cases h with
  | first => exact ⟨fun _ _ => True, trivial, fun _ _ _ h => h, ag_first _ _ _ _ fun _ _ _ h => h⟩
  | last => exact ⟨fun _ _ => True, trivial, fun _ _ _ h => h, ag_last _ _ _ _ fun _ _ _ h => h⟩
  | reject => exact ⟨fun _ _ => True, trivial, fun _ _ _ h => h, ag_reject _ _ _ _⟩
  | combine =>
    refine ⟨cmbC 2, fun _ => rfl, fun cs p Do h hle => h (by rw [List.length_append] at hle; omega), ag_combine _ _ _ 2 (fun p hp => ?_) fun cs r p S i hP hf hi => ?_⟩
    · have : (rwT X2 p).length = 1 := rwT_len X2 p
      omega
    · have hlen : (rwT X2 p).length = 1 := rwT_len X2 p
      match cs, hP with
      | [], hP =>
        have hS : S = [] := by simpa [foldS] using hf.symm
        rw [hS] at hi
        simp only [whr] at hi
        omega
      | [q1], hP =>
        simp only [mapL, nL, List.cons_append, List.nil_append, List.cons.injEq] at hP
        obtain ⟨rfl, rfl, rfl⟩ := hP
        have hS : S = [⟨3, d1, [tR sa]⟩] := by
          simp only [foldS, List.map_cons, List.map_nil, List.foldl_cons, List.foldl_nil, sp, rwT1, stepS, whr, List.nil_append, if_true] at hf
          exact (Except.ok.inj hf).symm
        rw [hS] at hi
        simp only [whr, keyS, k12, Bool.false_eq_true, if_false] at hi
        omega
      | [q1, q2], hP =>
        simp only [mapL, nL, List.cons_append, List.nil_append, List.cons.injEq] at hP
        obtain ⟨rfl, rfl, rfl, rfl⟩ := hP
        have hS : S = S2 := Except.ok.inj (hf.symm.trans (fold_two cmbT (X1 := X1) (X2 := X2) (X3 := X3) (X4 := X4)))
        refine ⟨rfl, by omega, fun s hs => ?_⟩
        rw [hS] at hs
        match i, hs with
        | 0, hs => cases hs; simp
        | 1, hs => cases hs; simp
        | k + 2, hs => cases hs
      | [q1, q2, q3], hP =>
        simp only [mapL, nL, List.cons_append, List.nil_append, List.cons.injEq] at hP
        obtain ⟨rfl, rfl, rfl, rfl, rfl⟩ := hP
        have hS : S = [⟨3, d1, [tR sa]⟩, ⟨3, d2, [tR sb, tR sc]⟩] := by
          have e : foldS cmbT (rwT X2) ([⟨3, d1, sl1 X1⟩, ⟨3, d2, sl1 X2⟩, ⟨3, d2, sl1 X3⟩]) = cmbT S2 1 ⟨3, d2, [tR sc]⟩ := by
            rw [show ([⟨3, d1, sl1 X1⟩, ⟨3, d2, sl1 X2⟩, ⟨3, d2, sl1 X3⟩] : List PRow) = mapL X1 X2 ++ [⟨3, d2, sl1 X3⟩] by simp [mapL], foldS_snoc, fold_two cmbT (X1 := X1) (X2 := X2) (X3 := X3) (X4 := X4)]
            simp only [sp, rwT3 hx]
            simp only [stepS, S2, whr, keyS, k12, k22, Bool.false_eq_true, if_false, if_true]
            rfl
          rw [e] at hf
          exact (Except.ok.inj hf).symm
        rw [hS] at hi
        simp only [whr, keyS, k13, k23, Bool.false_eq_true, if_false] at hi
        omega
      | q1 :: q2 :: q3 :: q4 :: cs, hP =>
        have := congrArg List.length hP
        simp [mapL, nL] at this
theorem Md.eg {f : Nat} {how : ByteArray} {T : MgT} {R : Except Int (List SRow)} (h : Md f how T R) : ∀ args w, (callFunc f args).run Tryz.prog w = .ok (.enter f args) w := by
  cases h with
  | first => exact eg_first
  | last => exact eg_last
  | combine => exact eg_combine
  | reject => exact eg_reject
theorem Md.mode {f : Nat} {how : ByteArray} {T : MgT} {R : Except Int (List SRow)} (h : Md f how T R) : how.size ≤ 1000 ∧ ∀ v' ps, fElem v' = some (modeD.atKey (.string how.data.toList) (.lit (.int .i64 (-1))), ps) → v' = .func (.func f) #[] #[] := by
  cases h with
  | first => exact ⟨by decide, fun v' ps h => fElem_func (h.trans (congrArg (fun x => some (x, ps)) mode_first))⟩
  | last => exact ⟨by decide, fun v' ps h => fElem_func (h.trans (congrArg (fun x => some (x, ps)) mode_last))⟩
  | combine => exact ⟨by decide, fun v' ps h => fElem_func (h.trans (congrArg (fun x => some (x, ps)) mode_combine))⟩
  | reject => exact ⟨by decide, fun v' ps h => fElem_func (h.trans (congrArg (fun x => some (x, ps)) mode_reject))⟩
theorem tR_ok {s : ByteArray} : ROk (tR s) ∧ (tR s).k = 0 := ⟨⟨rfl, rfl, rfl⟩, rfl⟩
theorem Md.fin {f : Nat} {how : ByteArray} {T : MgT} {R : Except Int (List SRow)} (h : Md f how T R) (w : World) (S : List SRow) (hS : R = .ok S) : (∀ s, s ∈ S → s.rows.length ≤ 65536 ∧ (s.ak = 3 ∨ s.ak = 4)) ∧ ∀ W base lv L, Below w.heap.size w W → VRs w W base lv L S → ∃ d n b, EntS W d L n b ∧ ovB (1 + n) b = false := by
  have key : ∀ M, (∀ r, r ∈ M → r.k = 0) → M.length ≤ 2 → flatB M ≤ 2 → S = S3 M → (∀ s, s ∈ S → s.rows.length ≤ 65536 ∧ (s.ak = 3 ∨ s.ak = 4)) ∧ ∀ W base lv L, Below w.heap.size w W → VRs w W base lv L S → ∃ d n b, EntS W d L n b ∧ ovB (1 + n) b = false := by
    rintro M hM hl hB rfl
    refine ⟨fun s hs => ?_, fun W base lv L hb hvr => ⟨1, _, _, hvr.ents fun s hs r hr => ?_, ?_⟩⟩
    · simp only [S3, List.mem_cons, List.not_mem_nil, or_false] at hs
      rcases hs with rfl | rfl | rfl
      · exact ⟨by simp, .inl rfl⟩
      · exact ⟨by simp; omega, .inl rfl⟩
      · exact ⟨by simp, .inl rfl⟩
    · simp only [S3, List.mem_cons, List.not_mem_nil, or_false] at hs
      rcases hs with rfl | rfl | rfl
      · rw [List.mem_singleton.1 hr]; rfl
      · exact hM r hr
      · rw [List.mem_singleton.1 hr]; rfl
    · have e1 : entN (S3 M) = 5 + M.length := by simp [entN, S3]; omega
      have e2 : entB (S3 M) = d1.size + flatB [tR sa] + (d2.size + flatB M + (d3.size + flatB [tR sd])) := by simp [entB, S3]
      have e3 : d1.size + flatB [tR sa] = 2 := by decide +kernel
      have e4 : d3.size + flatB [tR sd] = 2 := by decide +kernel
      have e5 : d2.size = 1 := by decide +kernel
      rw [e1, e2, e3, e4, e5]
      simp only [ovB, Bool.or_eq_false_iff, decide_eq_false_iff_not]
      omega
  have f1 : flatB [tR sb] = 1 := by decide +kernel
  have f2 : flatB [tR sc] = 1 := by decide +kernel
  have f3 : flatB [tR sb, tR sc] = 2 := by decide +kernel
  cases h with
  | first => exact key _ (fun r hr => by rw [List.mem_singleton.1 hr]; rfl) (by simp) (by omega) (Except.ok.inj hS).symm
  | last => exact key _ (fun r hr => by rw [List.mem_singleton.1 hr]; rfl) (by simp) (by omega) (Except.ok.inj hS).symm
  | combine => exact key _ (fun r hr => by
      simp only [List.mem_cons, List.not_mem_nil, or_false] at hr
      rcases hr with rfl | rfl <;> rfl) (by simp) (by omega) (Except.ok.inj hS).symm
  | reject => cases hS
/-- Merging two() and n. -/
theorem mergeTwo {f : Nat} {how : ByteArray} {T : MgT} {R : Except Int (List SRow)} (h : Md f how T R) {u1 u2 v : Value} {X1 X2 X3 X4 : Nat} (w : World) (hx : X2 ≠ X3) (hv : RdI w [mapR u1, mapR u2] v) (h1 : RdP w (mapL X1 X2) u1) (h2 : RdP w (nL X3 X4) u2)
    (i1 : ICells w X1 0 (tR sa) ∧ X1 < w.heap.size) (i2 : ICells w X2 0 (tR sb) ∧ X2 < w.heap.size) (i3 : ICells w X3 0 (tR sc) ∧ X3 < w.heap.size) (i4 : ICells w X4 0 (tR sd) ∧ X4 < w.heap.size) :
    Calls Tryz.prog 7 #[v, .string how] w (MgP w R) := by
  have hfl : ([mapL X1 X2, nL X3 X4] : List (List PRow)).flatten = mapL X1 X2 ++ nL X3 X4 := by simp
  obtain ⟨C, hC0, hCn, hag⟩ := h.hit (X1 := X1) (X4 := X4) hx w
  have hfo := h.fold (X1 := X1) (X4 := X4) hx
  have H := mergeAll_any f how h.mode.1 h.eg h.mode.2 T (rwT X2) C [mapR u1, mapR u2] [mapL X1 X2, nL X3 X4] v w hv rfl
    (fun k r E hk hE => by
      match k with
      | 0 => cases hk; cases hE; exact mapL_E h1
      | 1 => cases hk; cases hE; exact nL_E h2
      | k + 2 => cases hk)
    (fun p hp => by
      rw [hfl] at hp
      simp only [mapL, nL, List.mem_append, List.mem_cons, List.not_mem_nil, or_false] at hp
      have ok : ∀ s, ∀ r, r ∈ [tR s] → ROk r := fun s r hr => by rw [List.mem_singleton.1 hr]; exact tR_ok.1
      rcases hp with (rfl | rfl) | (rfl | rfl)
      · rw [rwT1]; exact ⟨_, 1, 1, rfl, rfl, by omega, ok _, rdI_one i1.1 i1.2⟩
      · rw [rwT2]; exact ⟨_, 1, 1, rfl, rfl, by omega, ok _, rdI_one i2.1 i2.2⟩
      · rw [rwT3 hx]; exact ⟨_, 1, 1, rfl, rfl, by omega, ok _, rdI_one i3.1 i3.2⟩
      · rw [rwT4]; exact ⟨_, 1, 1, rfl, rfl, by omega, ok _, rdI_one i4.1 i4.2⟩)
    hC0 hCn (by rw [hfl]; exact hag) (by rw [hfl]; simp [mapL, nL]) (by simp)
    (fun S hS => by
      rw [hfl, hfo] at hS
      exact h.fin w S hS)
  rw [hfl, hfo] at H
  exact H
end Go.Proofs.YtahidclhplmkiaaGreatDoor
