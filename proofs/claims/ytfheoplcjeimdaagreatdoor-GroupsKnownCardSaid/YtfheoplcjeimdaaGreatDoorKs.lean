/- chisellaw30.GroupsKnown: the two regions whose order is not known, operation by operation (printed by gen_kst.py). -/
import Derived.Test.YtfheoplcjeimdaaGreatDoorKr
namespace Go.Proofs.YtfheoplcjeimdaaGreatDoor
open Go.RowKit
set_option linter.unusedVariables false
set_option linter.unusedSimpArgs false
set_option maxRecDepth 100000

def reg9 (k : Nat) : Code → Option (Array Oper)
  | .seq a b => (reg9 k a).orElse fun _ => reg9 k b
  | .region n ops _ => if n = k then some ops else none
  | .block _ b => reg9 k b
  | .scope b => reg9 k b
  | _ => none
section
variable {x : Nat → Value} {w0 : World} {ops : Array Oper} {Q : Exit → Act → World → Prop}
def kpT : List KK := [.is_ (agV (3, s1_)), .as_ [(3, s1_)], .is_ (agV (4, s1_)), .as_ [(4, s1_)], .is_ (agV (1, s1_)), .as_ [(1, s1_)], .aa [[(3, s1_)], [(4, s1_)], [(1, s1_)]], .pr [[0, 1], [2]] [(3, s1_), (1, s1_)], .pr [[0, 1], [2]] [(3, s1_), (1, s1_)], .ii [[0, 1], [2]], .as_ [(3, s1_), (1, s1_)], .ii [[0, 1], [2]], .as_ [(3, s1_), (1, s1_)]]
def kpD : List Nat := [18, 19, 20, 21, 22, 23, 24, 25, 17, 26, 27, 5, 6]
def kpkk : Nat → KK
  | 1 => .box (3, s1_)
  | 2 => .box (4, s1_)
  | 3 => .box (99, s0_)
  | 4 => .box (5, nanS)
  | _ => .any
def kpτ : Tab := ⟨13, 136, fun i => kpD.getD i 0, fun i => kpT.getD i .any, kpkk, [1, 2, 3, 4]⟩
@[irreducible] noncomputable def kpOps : Array Oper := (reg9 5 (Tryz.f10.body.getD .skip)).getD #[]
@[irreducible] noncomputable def kpO (i : Nat) : Oper := kpOps.getD i default
theorem kpsize : kpOps.size = 13 := by kernel_rfl
theorem kp0 (H : ∀ j, (kpτ.kk j).holds (x j) w0) : KOK kpτ x w0 kpOps Q 0 (kpO 0) :=
  k_load (s := 1) (by kernel_rfl) (src_kept 1 H (by decide) rfl) rfl (.inl (by kernel_rfl))
theorem kp1 (H : ∀ j, (kpτ.kk j).holds (x j) w0) : KOK kpτ x w0 kpOps Q 1 (kpO 1) :=
  k_at1 (cs := #[.int .i64 3, .string s1_]) (s := 18) (y := (3, s1_)) (fun a w => by kernel_rfl) (fun w => by kernel_rfl) rfl (src_op 0 18 (by decide) rfl rfl (by kernel_rfl)) rfl (.inl (by kernel_rfl))
theorem kp2 (H : ∀ j, (kpτ.kk j).holds (x j) w0) : KOK kpτ x w0 kpOps Q 2 (kpO 2) :=
  k_load (s := 2) (by kernel_rfl) (src_kept 2 H (by decide) rfl) rfl (.inl (by kernel_rfl))
theorem kp3 (H : ∀ j, (kpτ.kk j).holds (x j) w0) : KOK kpτ x w0 kpOps Q 3 (kpO 3) :=
  k_at1 (cs := #[.int .i64 4, .string s1_]) (s := 20) (y := (4, s1_)) (fun a w => by kernel_rfl) (fun w => by kernel_rfl) rfl (src_op 2 20 (by decide) rfl rfl (by kernel_rfl)) rfl (.inl (by kernel_rfl))
theorem kp4 (H : ∀ j, (kpτ.kk j).holds (x j) w0) : KOK kpτ x w0 kpOps Q 4 (kpO 4) :=
  k_word (fun a w => by kernel_rfl) rfl (.inl (by kernel_rfl))
theorem kp5 (H : ∀ j, (kpτ.kk j).holds (x j) w0) : KOK kpτ x w0 kpOps Q 5 (kpO 5) :=
  k_at1 (cs := #[.int .i64 1, .string s1_]) (s := 22) (y := (1, s1_)) (fun a w => by kernel_rfl) (fun w => by kernel_rfl) rfl (src_op 4 22 (by decide) rfl rfl (by kernel_rfl)) rfl (.inl (by kernel_rfl))
theorem kp6 (H : ∀ j, (kpτ.kk j).holds (x j) w0) : KOK kpτ x w0 kpOps Q 6 (kpO 6) := by
  intro l a w h hl K hK
  obtain ⟨A0, c0, e0, r0⟩ := (show KK.holds (.as_ [(3, s1_)]) _ _ from (src_op 1 19 (by decide) rfl rfl (by kernel_rfl)) l a w h hl)
  have e0 : a.tmps.getD 19 undef = .slice A0 1 c0 := e0
  obtain ⟨A1, c1, e1, r1⟩ := (show KK.holds (.as_ [(4, s1_)]) _ _ from (src_op 3 21 (by decide) rfl rfl (by kernel_rfl)) l a w h hl)
  have e1 : a.tmps.getD 21 undef = .slice A1 1 c1 := e1
  obtain ⟨A2, c2, e2, r2⟩ := (show KK.holds (.as_ [(1, s1_)]) _ _ from (src_op 5 23 (by decide) rfl rfl (by kernel_rfl)) l a w h hl)
  have e2 : a.tmps.getD 23 undef = .slice A2 1 c2 := e2
  have he : (execOp a.eval (kpO 6)).run Tryz.prog w = (execOp (rhoL [(19, a.tmps.getD 19 undef), (21, a.tmps.getD 21 undef), (23, a.tmps.getD 23 undef)]) (kpO 6)).run Tryz.prog w := by kernel_rfl
  have hv : ∀ (A0 A1 A2 : Option Addr) (c0 c1 c2 : Nat) (w : World), (execOp (rhoL [(19, .slice A0 1 c0), (21, .slice A1 1 c1), (23, .slice A2 1 c2)]) (kpO 6)).run Tryz.prog w = .ok (.value (.slice (some ⟨w.heap.size, 0, none⟩) 3 3)) (w.alloc (.cells #[.slice A0 1 c0, .slice A1 1 c1, .slice A2 1 c2] 25)) := fun A0 A1 A2 c0 c1 c2 w => by kernel_rfl
  rw [e0, e1, e2, hv] at he
  refine ⟨kgok h hl (.inl (by kernel_rfl)), ow_value he (hK _ _ ((Below.refl _ _).alloc (Nat.le_refl _) _) ?_)⟩
  show KK.holds (.aa [[(3, s1_)], [(4, s1_)], [(1, s1_)]]) _ _
  exact ⟨_, _, rfl, rdAA_lit [[(3, s1_)], [(4, s1_)], [(1, s1_)]] 3 rfl (heap_new rfl) rfl (fun j hj => match j, hj with | 0, _ => ⟨_, _, rfl, r0.below ((Below.refl _ _).alloc (Nat.le_refl _) _)⟩ | 1, _ => ⟨_, _, rfl, r1.below ((Below.refl _ _).alloc (Nat.le_refl _) _)⟩ | 2, _ => ⟨_, _, rfl, r2.below ((Below.refl _ _).alloc (Nat.le_refl _) _)⟩)⟩
theorem kp7 (H : ∀ j, (kpτ.kk j).holds (x j) w0) : KOK kpτ x w0 kpOps Q 7 (kpO 7) :=
  k_by (ls := [[(3, s1_)], [(4, s1_)], [(1, s1_)]]) atomC1 (by simp [S1, S2, S3]) (by decide) (by decide) (by decide +kernel) (by decide) (fun a w => by kernel_rfl) (src_op 6 24 (by decide) rfl rfl (by kernel_rfl)) rfl (.inl (by kernel_rfl))
theorem kp8 (H : ∀ j, (kpτ.kk j).holds (x j) w0) : KOK kpτ x w0 kpOps Q 8 (kpO 8) :=
  k_move (s := 25) (.inl (by kernel_rfl)) (src_op 7 25 (by decide) rfl rfl (by kernel_rfl)) rfl (.inl (by kernel_rfl))
theorem kp9 (H : ∀ j, (kpτ.kk j).holds (x j) w0) : KOK kpτ x w0 kpOps Q 9 (kpO 9) :=
  k_fst (s := 17) (fun a w => by kernel_rfl) (fun v u w => by kernel_rfl) (src_op 8 17 (by decide) rfl rfl (by kernel_rfl)) rfl (.inl (by kernel_rfl))
theorem kp10 (H : ∀ j, (kpτ.kk j).holds (x j) w0) : KOK kpτ x w0 kpOps Q 10 (kpO 10) :=
  k_snd (s := 17) (fun a w => by kernel_rfl) (fun v u w => by kernel_rfl) (src_op 8 17 (by decide) rfl rfl (by kernel_rfl)) rfl (.inl (by kernel_rfl))
theorem kp11 (H : ∀ j, (kpτ.kk j).holds (x j) w0) : KOK kpτ x w0 kpOps Q 11 (kpO 11) :=
  k_move (s := 26) (.inr (by kernel_rfl)) (src_op 9 26 (by decide) rfl rfl (by kernel_rfl)) rfl (.inl (by kernel_rfl))
theorem kp12 (H : ∀ j, (kpτ.kk j).holds (x j) w0) : KOK kpτ x w0 kpOps Q 12 (kpO 12) :=
  k_move (s := 27) (.inr (by kernel_rfl)) (src_op 10 27 (by decide) rfl rfl (by kernel_rfl)) rfl (.inl (by kernel_rfl))
theorem kpsteps (H : ∀ j, (kpτ.kk j).holds (x j) w0) : ∀ i, i < 13 → KOK kpτ x w0 kpOps Q i (kpO i) := fun i hi => match i, hi with
  | 0, _ => kp0 H
  | 1, _ => kp1 H
  | 2, _ => kp2 H
  | 3, _ => kp3 H
  | 4, _ => kp4 H
  | 5, _ => kp5 H
  | 6, _ => kp6 H
  | 7, _ => kp7 H
  | 8, _ => kp8 H
  | 9, _ => kp9 H
  | 10, _ => kp10 H
  | 11, _ => kp11 H
  | 12, _ => kp12 H
  | n + 13, h => absurd h (by omega)
theorem kpH (h1 : KK.holds (.box (3, s1_)) (x 1) w0) (h2 : KK.holds (.box (4, s1_)) (x 2) w0) (h3 : KK.holds (.box (99, s0_)) (x 3) w0) (h4 : KK.holds (.box (5, nanS)) (x 4) w0) : ∀ j, (kpτ.kk j).holds (x j) w0 := by
  intro j
  show KK.holds (kpkk j) _ _
  unfold kpkk
  split
  · exact h1
  · exact h2
  · exact h3
  · exact h4
  · trivial
theorem kpof {i : Nat} {o : Oper} (h : kpOps[i]? = some o) : i < 13 ∧ o = kpO i := by
  obtain ⟨h1, h2⟩ := Array.getElem?_eq_some_iff.1 h
  refine ⟨by rw [kpsize] at h1; exact h1, ?_⟩
  unfold kpO
  rw [Array.getD_eq_getD_getElem?, h]; rfl
theorem kplow : ((List.range 13).all fun i => (kpO i).after.all fun e => !Region.binds .any e || decide (e.on < i)) = true := by kernel_rfl
theorem kpdst : ((List.range 13).all fun i => decide ((kpO i).dst = some (kpτ.D i))) = true := by kernel_rfl
theorem kpinj : ((List.range 13).all fun i => decide (kpτ.D i < 136) && (kpτ.ks.all fun k => decide (k ≠ kpτ.D i)) && (List.range 13).all fun j => decide (j = i) || decide (kpτ.D j ≠ kpτ.D i)) = true := by kernel_rfl
theorem kpregion {id : Nat} {a : Act} (he : ops = kpOps) (H : ∀ j, (kpτ.kk j).holds (x j) w0) (hd : a.defers = []) (ht : a.tmps.size = 136) (hkeep : ∀ j, j ∈ kpτ.ks → a.tmps.getD j undef = x j)
    (hdone : ∀ a' w', a'.defers = [] → a'.tmps.size = 136 → (∀ j, j ∈ kpτ.ks → a'.tmps.getD j undef = x j) → (∀ i, i < 13 → (kpτ.T i).holds (a'.tmps.getD (kpτ.D i) undef) w') → Below w0.heap.size w0 w' → Q .normal a' w') : (Code.region id ops true).wp Tryz.prog Q a w0 := by
  subst he
  refine region_told (τ := kpτ) (x := x) kpsize ?_ ?_ ?_ ?_ ?_ ?_ hd ht hkeep hdone
  · intro i o h e he hb
    obtain ⟨hi, rfl⟩ := kpof h
    have := List.all_eq_true.1 kplow i (List.mem_range.2 hi)
    have := Array.all_eq_true_iff_forall_mem.1 this e he
    simpa [hb] using this
  · intro i o h
    obtain ⟨hi, rfl⟩ := kpof h
    exact of_decide_eq_true (List.all_eq_true.1 kpdst i (List.mem_range.2 hi))
  · intro i hi
    have := List.all_eq_true.1 kpinj i (List.mem_range.2 hi)
    simp only [Bool.and_eq_true, decide_eq_true_eq] at this
    exact this.1.1
  · intro i j hi hj e
    have := List.all_eq_true.1 kpinj i (List.mem_range.2 hi)
    simp only [Bool.and_eq_true] at this
    have := List.all_eq_true.1 this.2 j (List.mem_range.2 hj)
    simpa [e] using this
  · intro i hi j hj
    have := List.all_eq_true.1 kpinj i (List.mem_range.2 hi)
    simp only [Bool.and_eq_true] at this
    simpa using List.all_eq_true.1 this.1.2 j hj
  · intro i o h
    obtain ⟨hi, rfl⟩ := kpof h
    exact kpsteps H i hi
def krT : List KK := [.is_ (agV (99, s0_)), .as_ [(99, s0_)], .is_ (agV (99, s0_)), .is_ (agV (3, s1_)), .as_ [(99, s0_), (3, s1_)], .is_ (agV (99, s0_)), .as_ [(99, s0_)], .aa [[(99, s0_)], [(99, s0_), (3, s1_)], [(99, s0_)]], .pr [[1]] [(3, s1_)], .pr [[1]] [(3, s1_)], .ii [[1]], .as_ [(3, s1_)], .ii [[1]], .as_ [(3, s1_)]]
def krD : List Nat := [29, 30, 31, 32, 33, 34, 35, 36, 37, 28, 38, 39, 7, 8]
def krkk : Nat → KK
  | 1 => .box (3, s1_)
  | 3 => .box (99, s0_)
  | 4 => .box (5, nanS)
  | 5 => .ii [[0, 1], [2]]
  | 6 => .as_ [(3, s1_), (1, s1_)]
  | _ => .any
def krτ : Tab := ⟨14, 136, fun i => krD.getD i 0, fun i => krT.getD i .any, krkk, [1, 3, 4, 5, 6]⟩
@[irreducible] noncomputable def krOps : Array Oper := (reg9 6 (Tryz.f10.body.getD .skip)).getD #[]
@[irreducible] noncomputable def krO (i : Nat) : Oper := krOps.getD i default
theorem krsize : krOps.size = 14 := by kernel_rfl
theorem kr0 (H : ∀ j, (krτ.kk j).holds (x j) w0) : KOK krτ x w0 krOps Q 0 (krO 0) :=
  k_load (s := 3) (by kernel_rfl) (src_kept 3 H (by decide) rfl) rfl (.inl (by kernel_rfl))
theorem kr1 (H : ∀ j, (krτ.kk j).holds (x j) w0) : KOK krτ x w0 krOps Q 1 (krO 1) :=
  k_at1 (cs := #[.int .i64 99, .string s0_]) (s := 29) (y := (99, s0_)) (fun a w => by kernel_rfl) (fun w => by kernel_rfl) rfl (src_op 0 29 (by decide) rfl rfl (by kernel_rfl)) rfl (.inl (by kernel_rfl))
theorem kr2 (H : ∀ j, (krτ.kk j).holds (x j) w0) : KOK krτ x w0 krOps Q 2 (krO 2) :=
  k_load (s := 3) (by kernel_rfl) (src_kept 3 H (by decide) rfl) rfl (.inl (by kernel_rfl))
theorem kr3 (H : ∀ j, (krτ.kk j).holds (x j) w0) : KOK krτ x w0 krOps Q 3 (krO 3) :=
  k_load (s := 1) (by kernel_rfl) (src_kept 1 H (by decide) rfl) rfl (.inl (by kernel_rfl))
theorem kr4 (H : ∀ j, (krτ.kk j).holds (x j) w0) : KOK krτ x w0 krOps Q 4 (krO 4) :=
  k_at2 (cs := #[.int .i64 99, .string s0_, .int .i64 3, .string s1_]) (s := 31) (t := 32) (y := (99, s0_)) (z := (3, s1_)) (fun a w => by kernel_rfl) (fun w => by kernel_rfl) rfl (src_op 2 31 (by decide) rfl rfl (by kernel_rfl)) (src_op 3 32 (by decide) rfl rfl (by kernel_rfl)) rfl (.inl (by kernel_rfl))
theorem kr5 (H : ∀ j, (krτ.kk j).holds (x j) w0) : KOK krτ x w0 krOps Q 5 (krO 5) :=
  k_load (s := 3) (by kernel_rfl) (src_kept 3 H (by decide) rfl) rfl (.inl (by kernel_rfl))
theorem kr6 (H : ∀ j, (krτ.kk j).holds (x j) w0) : KOK krτ x w0 krOps Q 6 (krO 6) :=
  k_at1 (cs := #[.int .i64 99, .string s0_]) (s := 34) (y := (99, s0_)) (fun a w => by kernel_rfl) (fun w => by kernel_rfl) rfl (src_op 5 34 (by decide) rfl rfl (by kernel_rfl)) rfl (.inl (by kernel_rfl))
theorem kr7 (H : ∀ j, (krτ.kk j).holds (x j) w0) : KOK krτ x w0 krOps Q 7 (krO 7) := by
  intro l a w h hl K hK
  obtain ⟨A0, c0, e0, r0⟩ := (show KK.holds (.as_ [(99, s0_)]) _ _ from (src_op 1 30 (by decide) rfl rfl (by kernel_rfl)) l a w h hl)
  have e0 : a.tmps.getD 30 undef = .slice A0 1 c0 := e0
  obtain ⟨A1, c1, e1, r1⟩ := (show KK.holds (.as_ [(99, s0_), (3, s1_)]) _ _ from (src_op 4 33 (by decide) rfl rfl (by kernel_rfl)) l a w h hl)
  have e1 : a.tmps.getD 33 undef = .slice A1 2 c1 := e1
  obtain ⟨A2, c2, e2, r2⟩ := (show KK.holds (.as_ [(99, s0_)]) _ _ from (src_op 6 35 (by decide) rfl rfl (by kernel_rfl)) l a w h hl)
  have e2 : a.tmps.getD 35 undef = .slice A2 1 c2 := e2
  have he : (execOp a.eval (krO 7)).run Tryz.prog w = (execOp (rhoL [(30, a.tmps.getD 30 undef), (33, a.tmps.getD 33 undef), (35, a.tmps.getD 35 undef)]) (krO 7)).run Tryz.prog w := by kernel_rfl
  have hv : ∀ (A0 A1 A2 : Option Addr) (c0 c1 c2 : Nat) (w : World), (execOp (rhoL [(30, .slice A0 1 c0), (33, .slice A1 2 c1), (35, .slice A2 1 c2)]) (krO 7)).run Tryz.prog w = .ok (.value (.slice (some ⟨w.heap.size, 0, none⟩) 3 3)) (w.alloc (.cells #[.slice A0 1 c0, .slice A1 2 c1, .slice A2 1 c2] 25)) := fun A0 A1 A2 c0 c1 c2 w => by kernel_rfl
  rw [e0, e1, e2, hv] at he
  refine ⟨kgok h hl (.inl (by kernel_rfl)), ow_value he (hK _ _ ((Below.refl _ _).alloc (Nat.le_refl _) _) ?_)⟩
  show KK.holds (.aa [[(99, s0_)], [(99, s0_), (3, s1_)], [(99, s0_)]]) _ _
  exact ⟨_, _, rfl, rdAA_lit [[(99, s0_)], [(99, s0_), (3, s1_)], [(99, s0_)]] 3 rfl (heap_new rfl) rfl (fun j hj => match j, hj with | 0, _ => ⟨_, _, rfl, r0.below ((Below.refl _ _).alloc (Nat.le_refl _) _)⟩ | 1, _ => ⟨_, _, rfl, r1.below ((Below.refl _ _).alloc (Nat.le_refl _) _)⟩ | 2, _ => ⟨_, _, rfl, r2.below ((Below.refl _ _).alloc (Nat.le_refl _) _)⟩)⟩
theorem kr8 (H : ∀ j, (krτ.kk j).holds (x j) w0) : KOK krτ x w0 krOps Q 8 (krO 8) :=
  k_by (ls := [[(99, s0_)], [(99, s0_), (3, s1_)], [(99, s0_)]]) atomC2 (by simp [S1, S2, S3]) (by decide) (by decide) (by decide +kernel) (by decide) (fun a w => by kernel_rfl) (src_op 7 36 (by decide) rfl rfl (by kernel_rfl)) rfl (.inl (by kernel_rfl))
theorem kr9 (H : ∀ j, (krτ.kk j).holds (x j) w0) : KOK krτ x w0 krOps Q 9 (krO 9) :=
  k_move (s := 37) (.inl (by kernel_rfl)) (src_op 8 37 (by decide) rfl rfl (by kernel_rfl)) rfl (.inl (by kernel_rfl))
theorem kr10 (H : ∀ j, (krτ.kk j).holds (x j) w0) : KOK krτ x w0 krOps Q 10 (krO 10) :=
  k_fst (s := 28) (fun a w => by kernel_rfl) (fun v u w => by kernel_rfl) (src_op 9 28 (by decide) rfl rfl (by kernel_rfl)) rfl (.inl (by kernel_rfl))
theorem kr11 (H : ∀ j, (krτ.kk j).holds (x j) w0) : KOK krτ x w0 krOps Q 11 (krO 11) :=
  k_snd (s := 28) (fun a w => by kernel_rfl) (fun v u w => by kernel_rfl) (src_op 9 28 (by decide) rfl rfl (by kernel_rfl)) rfl (.inl (by kernel_rfl))
theorem kr12 (H : ∀ j, (krτ.kk j).holds (x j) w0) : KOK krτ x w0 krOps Q 12 (krO 12) :=
  k_move (s := 38) (.inr (by kernel_rfl)) (src_op 10 38 (by decide) rfl rfl (by kernel_rfl)) rfl (.inl (by kernel_rfl))
theorem kr13 (H : ∀ j, (krτ.kk j).holds (x j) w0) : KOK krτ x w0 krOps Q 13 (krO 13) :=
  k_move (s := 39) (.inr (by kernel_rfl)) (src_op 11 39 (by decide) rfl rfl (by kernel_rfl)) rfl (.inl (by kernel_rfl))
theorem krsteps (H : ∀ j, (krτ.kk j).holds (x j) w0) : ∀ i, i < 14 → KOK krτ x w0 krOps Q i (krO i) := fun i hi => match i, hi with
  | 0, _ => kr0 H
  | 1, _ => kr1 H
  | 2, _ => kr2 H
  | 3, _ => kr3 H
  | 4, _ => kr4 H
  | 5, _ => kr5 H
  | 6, _ => kr6 H
  | 7, _ => kr7 H
  | 8, _ => kr8 H
  | 9, _ => kr9 H
  | 10, _ => kr10 H
  | 11, _ => kr11 H
  | 12, _ => kr12 H
  | 13, _ => kr13 H
  | n + 14, h => absurd h (by omega)
theorem krH (h1 : KK.holds (.box (3, s1_)) (x 1) w0) (h3 : KK.holds (.box (99, s0_)) (x 3) w0) (h4 : KK.holds (.box (5, nanS)) (x 4) w0) (h5 : KK.holds (.ii [[0, 1], [2]]) (x 5) w0) (h6 : KK.holds (.as_ [(3, s1_), (1, s1_)]) (x 6) w0) : ∀ j, (krτ.kk j).holds (x j) w0 := by
  intro j
  show KK.holds (krkk j) _ _
  unfold krkk
  split
  · exact h1
  · exact h3
  · exact h4
  · exact h5
  · exact h6
  · trivial
theorem krof {i : Nat} {o : Oper} (h : krOps[i]? = some o) : i < 14 ∧ o = krO i := by
  obtain ⟨h1, h2⟩ := Array.getElem?_eq_some_iff.1 h
  refine ⟨by rw [krsize] at h1; exact h1, ?_⟩
  unfold krO
  rw [Array.getD_eq_getD_getElem?, h]; rfl
theorem krlow : ((List.range 14).all fun i => (krO i).after.all fun e => !Region.binds .any e || decide (e.on < i)) = true := by kernel_rfl
theorem krdst : ((List.range 14).all fun i => decide ((krO i).dst = some (krτ.D i))) = true := by kernel_rfl
theorem krinj : ((List.range 14).all fun i => decide (krτ.D i < 136) && (krτ.ks.all fun k => decide (k ≠ krτ.D i)) && (List.range 14).all fun j => decide (j = i) || decide (krτ.D j ≠ krτ.D i)) = true := by kernel_rfl
theorem krregion {id : Nat} {a : Act} (he : ops = krOps) (H : ∀ j, (krτ.kk j).holds (x j) w0) (hd : a.defers = []) (ht : a.tmps.size = 136) (hkeep : ∀ j, j ∈ krτ.ks → a.tmps.getD j undef = x j)
    (hdone : ∀ a' w', a'.defers = [] → a'.tmps.size = 136 → (∀ j, j ∈ krτ.ks → a'.tmps.getD j undef = x j) → (∀ i, i < 14 → (krτ.T i).holds (a'.tmps.getD (krτ.D i) undef) w') → Below w0.heap.size w0 w' → Q .normal a' w') : (Code.region id ops false).wp Tryz.prog Q a w0 := by
  subst he
  refine list_told (τ := krτ) (x := x) krsize ?_ ?_ ?_ ?_ ?_ ?_ hd ht hkeep hdone
  · intro i o h e he hb
    obtain ⟨hi, rfl⟩ := krof h
    have := List.all_eq_true.1 krlow i (List.mem_range.2 hi)
    have := Array.all_eq_true_iff_forall_mem.1 this e he
    simpa [hb] using this
  · intro i o h
    obtain ⟨hi, rfl⟩ := krof h
    exact of_decide_eq_true (List.all_eq_true.1 krdst i (List.mem_range.2 hi))
  · intro i hi
    have := List.all_eq_true.1 krinj i (List.mem_range.2 hi)
    simp only [Bool.and_eq_true, decide_eq_true_eq] at this
    exact this.1.1
  · intro i j hi hj e
    have := List.all_eq_true.1 krinj i (List.mem_range.2 hi)
    simp only [Bool.and_eq_true] at this
    have := List.all_eq_true.1 this.2 j (List.mem_range.2 hj)
    simpa [e] using this
  · intro i hi j hj
    have := List.all_eq_true.1 krinj i (List.mem_range.2 hi)
    simp only [Bool.and_eq_true] at this
    simpa using List.all_eq_true.1 this.1.2 j hj
  · intro i o h
    obtain ⟨hi, rfl⟩ := krof h
    exact krsteps H i hi
def ksT : List KK := [.is_ (agV (5, nanS)), .as_ [(5, nanS)], .is_ (agV (5, nanS)), .as_ [(5, nanS)], .aa [[(5, nanS)], [(5, nanS)]], .pr [[0, 1]] [(5, nanS)], .pr [[0, 1]] [(5, nanS)], .ii [[0, 1]], .as_ [(5, nanS)], .ii [[0, 1]], .as_ [(5, nanS)]]
def ksD : List Nat := [41, 42, 43, 44, 45, 46, 40, 47, 48, 9, 10]
def kskk : Nat → KK
  | 1 => .box (3, s1_)
  | 3 => .box (99, s0_)
  | 4 => .box (5, nanS)
  | 5 => .ii [[0, 1], [2]]
  | 6 => .as_ [(3, s1_), (1, s1_)]
  | 7 => .ii [[1]]
  | 8 => .as_ [(3, s1_)]
  | _ => .any
def ksτ : Tab := ⟨11, 136, fun i => ksD.getD i 0, fun i => ksT.getD i .any, kskk, [1, 3, 4, 5, 6, 7, 8]⟩
@[irreducible] noncomputable def ksOps : Array Oper := (reg9 7 (Tryz.f10.body.getD .skip)).getD #[]
@[irreducible] noncomputable def ksO (i : Nat) : Oper := ksOps.getD i default
theorem kssize : ksOps.size = 11 := by kernel_rfl
theorem ks0 (H : ∀ j, (ksτ.kk j).holds (x j) w0) : KOK ksτ x w0 ksOps Q 0 (ksO 0) :=
  k_load (s := 4) (by kernel_rfl) (src_kept 4 H (by decide) rfl) rfl (.inl (by kernel_rfl))
theorem ks1 (H : ∀ j, (ksτ.kk j).holds (x j) w0) : KOK ksτ x w0 ksOps Q 1 (ksO 1) :=
  k_at1 (cs := #[.int .i64 5, .string nanS]) (s := 41) (y := (5, nanS)) (fun a w => by kernel_rfl) (fun w => by kernel_rfl) rfl (src_op 0 41 (by decide) rfl rfl (by kernel_rfl)) rfl (.inl (by kernel_rfl))
theorem ks2 (H : ∀ j, (ksτ.kk j).holds (x j) w0) : KOK ksτ x w0 ksOps Q 2 (ksO 2) :=
  k_load (s := 4) (by kernel_rfl) (src_kept 4 H (by decide) rfl) rfl (.inl (by kernel_rfl))
theorem ks3 (H : ∀ j, (ksτ.kk j).holds (x j) w0) : KOK ksτ x w0 ksOps Q 3 (ksO 3) :=
  k_at1 (cs := #[.int .i64 5, .string nanS]) (s := 43) (y := (5, nanS)) (fun a w => by kernel_rfl) (fun w => by kernel_rfl) rfl (src_op 2 43 (by decide) rfl rfl (by kernel_rfl)) rfl (.inl (by kernel_rfl))
theorem ks4 (H : ∀ j, (ksτ.kk j).holds (x j) w0) : KOK ksτ x w0 ksOps Q 4 (ksO 4) := by
  intro l a w h hl K hK
  obtain ⟨A0, c0, e0, r0⟩ := (show KK.holds (.as_ [(5, nanS)]) _ _ from (src_op 1 42 (by decide) rfl rfl (by kernel_rfl)) l a w h hl)
  have e0 : a.tmps.getD 42 undef = .slice A0 1 c0 := e0
  obtain ⟨A1, c1, e1, r1⟩ := (show KK.holds (.as_ [(5, nanS)]) _ _ from (src_op 3 44 (by decide) rfl rfl (by kernel_rfl)) l a w h hl)
  have e1 : a.tmps.getD 44 undef = .slice A1 1 c1 := e1
  have he : (execOp a.eval (ksO 4)).run Tryz.prog w = (execOp (rhoL [(42, a.tmps.getD 42 undef), (44, a.tmps.getD 44 undef)]) (ksO 4)).run Tryz.prog w := by kernel_rfl
  have hv : ∀ (A0 A1 : Option Addr) (c0 c1 : Nat) (w : World), (execOp (rhoL [(42, .slice A0 1 c0), (44, .slice A1 1 c1)]) (ksO 4)).run Tryz.prog w = .ok (.value (.slice (some ⟨w.heap.size, 0, none⟩) 2 2)) (w.alloc (.cells #[.slice A0 1 c0, .slice A1 1 c1] 25)) := fun A0 A1 c0 c1 w => by kernel_rfl
  rw [e0, e1, hv] at he
  refine ⟨kgok h hl (.inl (by kernel_rfl)), ow_value he (hK _ _ ((Below.refl _ _).alloc (Nat.le_refl _) _) ?_)⟩
  show KK.holds (.aa [[(5, nanS)], [(5, nanS)]]) _ _
  exact ⟨_, _, rfl, rdAA_lit [[(5, nanS)], [(5, nanS)]] 2 rfl (heap_new rfl) rfl (fun j hj => match j, hj with | 0, _ => ⟨_, _, rfl, r0.below ((Below.refl _ _).alloc (Nat.le_refl _) _)⟩ | 1, _ => ⟨_, _, rfl, r1.below ((Below.refl _ _).alloc (Nat.le_refl _) _)⟩)⟩
theorem ks5 (H : ∀ j, (ksτ.kk j).holds (x j) w0) : KOK ksτ x w0 ksOps Q 5 (ksO 5) :=
  k_by (ls := [[(5, nanS)], [(5, nanS)]]) atomC3 (by simp [S1, S2, S3]) (by decide) (by decide) (by decide +kernel) (by decide) (fun a w => by kernel_rfl) (src_op 4 45 (by decide) rfl rfl (by kernel_rfl)) rfl (.inl (by kernel_rfl))
theorem ks6 (H : ∀ j, (ksτ.kk j).holds (x j) w0) : KOK ksτ x w0 ksOps Q 6 (ksO 6) :=
  k_move (s := 46) (.inl (by kernel_rfl)) (src_op 5 46 (by decide) rfl rfl (by kernel_rfl)) rfl (.inl (by kernel_rfl))
theorem ks7 (H : ∀ j, (ksτ.kk j).holds (x j) w0) : KOK ksτ x w0 ksOps Q 7 (ksO 7) :=
  k_fst (s := 40) (fun a w => by kernel_rfl) (fun v u w => by kernel_rfl) (src_op 6 40 (by decide) rfl rfl (by kernel_rfl)) rfl (.inl (by kernel_rfl))
theorem ks8 (H : ∀ j, (ksτ.kk j).holds (x j) w0) : KOK ksτ x w0 ksOps Q 8 (ksO 8) :=
  k_snd (s := 40) (fun a w => by kernel_rfl) (fun v u w => by kernel_rfl) (src_op 6 40 (by decide) rfl rfl (by kernel_rfl)) rfl (.inl (by kernel_rfl))
theorem ks9 (H : ∀ j, (ksτ.kk j).holds (x j) w0) : KOK ksτ x w0 ksOps Q 9 (ksO 9) :=
  k_move (s := 47) (.inr (by kernel_rfl)) (src_op 7 47 (by decide) rfl rfl (by kernel_rfl)) rfl (.inl (by kernel_rfl))
theorem ks10 (H : ∀ j, (ksτ.kk j).holds (x j) w0) : KOK ksτ x w0 ksOps Q 10 (ksO 10) :=
  k_move (s := 48) (.inr (by kernel_rfl)) (src_op 8 48 (by decide) rfl rfl (by kernel_rfl)) rfl (.inl (by kernel_rfl))
theorem kssteps (H : ∀ j, (ksτ.kk j).holds (x j) w0) : ∀ i, i < 11 → KOK ksτ x w0 ksOps Q i (ksO i) := fun i hi => match i, hi with
  | 0, _ => ks0 H
  | 1, _ => ks1 H
  | 2, _ => ks2 H
  | 3, _ => ks3 H
  | 4, _ => ks4 H
  | 5, _ => ks5 H
  | 6, _ => ks6 H
  | 7, _ => ks7 H
  | 8, _ => ks8 H
  | 9, _ => ks9 H
  | 10, _ => ks10 H
  | n + 11, h => absurd h (by omega)
theorem ksH (h1 : KK.holds (.box (3, s1_)) (x 1) w0) (h3 : KK.holds (.box (99, s0_)) (x 3) w0) (h4 : KK.holds (.box (5, nanS)) (x 4) w0) (h5 : KK.holds (.ii [[0, 1], [2]]) (x 5) w0) (h6 : KK.holds (.as_ [(3, s1_), (1, s1_)]) (x 6) w0) (h7 : KK.holds (.ii [[1]]) (x 7) w0) (h8 : KK.holds (.as_ [(3, s1_)]) (x 8) w0) : ∀ j, (ksτ.kk j).holds (x j) w0 := by
  intro j
  show KK.holds (kskk j) _ _
  unfold kskk
  split
  · exact h1
  · exact h3
  · exact h4
  · exact h5
  · exact h6
  · exact h7
  · exact h8
  · trivial
theorem ksof {i : Nat} {o : Oper} (h : ksOps[i]? = some o) : i < 11 ∧ o = ksO i := by
  obtain ⟨h1, h2⟩ := Array.getElem?_eq_some_iff.1 h
  refine ⟨by rw [kssize] at h1; exact h1, ?_⟩
  unfold ksO
  rw [Array.getD_eq_getD_getElem?, h]; rfl
theorem kslow : ((List.range 11).all fun i => (ksO i).after.all fun e => !Region.binds .any e || decide (e.on < i)) = true := by kernel_rfl
theorem ksdst : ((List.range 11).all fun i => decide ((ksO i).dst = some (ksτ.D i))) = true := by kernel_rfl
theorem ksinj : ((List.range 11).all fun i => decide (ksτ.D i < 136) && (ksτ.ks.all fun k => decide (k ≠ ksτ.D i)) && (List.range 11).all fun j => decide (j = i) || decide (ksτ.D j ≠ ksτ.D i)) = true := by kernel_rfl
theorem ksregion {id : Nat} {a : Act} (he : ops = ksOps) (H : ∀ j, (ksτ.kk j).holds (x j) w0) (hd : a.defers = []) (ht : a.tmps.size = 136) (hkeep : ∀ j, j ∈ ksτ.ks → a.tmps.getD j undef = x j)
    (hdone : ∀ a' w', a'.defers = [] → a'.tmps.size = 136 → (∀ j, j ∈ ksτ.ks → a'.tmps.getD j undef = x j) → (∀ i, i < 11 → (ksτ.T i).holds (a'.tmps.getD (ksτ.D i) undef) w') → Below w0.heap.size w0 w' → Q .normal a' w') : (Code.region id ops false).wp Tryz.prog Q a w0 := by
  subst he
  refine list_told (τ := ksτ) (x := x) kssize ?_ ?_ ?_ ?_ ?_ ?_ hd ht hkeep hdone
  · intro i o h e he hb
    obtain ⟨hi, rfl⟩ := ksof h
    have := List.all_eq_true.1 kslow i (List.mem_range.2 hi)
    have := Array.all_eq_true_iff_forall_mem.1 this e he
    simpa [hb] using this
  · intro i o h
    obtain ⟨hi, rfl⟩ := ksof h
    exact of_decide_eq_true (List.all_eq_true.1 ksdst i (List.mem_range.2 hi))
  · intro i hi
    have := List.all_eq_true.1 ksinj i (List.mem_range.2 hi)
    simp only [Bool.and_eq_true, decide_eq_true_eq] at this
    exact this.1.1
  · intro i j hi hj e
    have := List.all_eq_true.1 ksinj i (List.mem_range.2 hi)
    simp only [Bool.and_eq_true] at this
    have := List.all_eq_true.1 this.2 j (List.mem_range.2 hj)
    simpa [e] using this
  · intro i hi j hj
    have := List.all_eq_true.1 ksinj i (List.mem_range.2 hi)
    simp only [Bool.and_eq_true] at this
    simpa using List.all_eq_true.1 this.1.2 j hj
  · intro i o h
    obtain ⟨hi, rfl⟩ := ksof h
    exact kssteps H i hi
def ktT : List KK := [.pr [] [], .pr [] [], .ii [], .as_ [], .ii [], .as_ []]
def ktD : List Nat := [50, 49, 51, 52, 11, 12]
def ktkk : Nat → KK
  | 1 => .box (3, s1_)
  | 3 => .box (99, s0_)
  | 5 => .ii [[0, 1], [2]]
  | 6 => .as_ [(3, s1_), (1, s1_)]
  | 7 => .ii [[1]]
  | 8 => .as_ [(3, s1_)]
  | 9 => .ii [[0, 1]]
  | _ => .any
def ktτ : Tab := ⟨6, 136, fun i => ktD.getD i 0, fun i => ktT.getD i .any, ktkk, [1, 3, 5, 6, 7, 8, 9]⟩
@[irreducible] noncomputable def ktOps : Array Oper := (reg9 8 (Tryz.f10.body.getD .skip)).getD #[]
@[irreducible] noncomputable def ktO (i : Nat) : Oper := ktOps.getD i default
theorem ktsize : ktOps.size = 6 := by kernel_rfl
theorem kt0 (H : ∀ j, (ktτ.kk j).holds (x j) w0) : KOK ktτ x w0 ktOps Q 0 (ktO 0) :=
  k_by (ls := []) atomC2 (by simp [S1, S2, S3]) (by decide) (by decide) (by decide +kernel) (by decide) (fun a w => by kernel_rfl) (src_const (k := .aa []) (.slice none 0 0) (fun w => ⟨none, 0, rfl, rfl, fun h => absurd h (by decide)⟩)) rfl (.inl (by kernel_rfl))
theorem kt1 (H : ∀ j, (ktτ.kk j).holds (x j) w0) : KOK ktτ x w0 ktOps Q 1 (ktO 1) :=
  k_move (s := 50) (.inl (by kernel_rfl)) (src_op 0 50 (by decide) rfl rfl (by kernel_rfl)) rfl (.inl (by kernel_rfl))
theorem kt2 (H : ∀ j, (ktτ.kk j).holds (x j) w0) : KOK ktτ x w0 ktOps Q 2 (ktO 2) :=
  k_fst (s := 49) (fun a w => by kernel_rfl) (fun v u w => by kernel_rfl) (src_op 1 49 (by decide) rfl rfl (by kernel_rfl)) rfl (.inl (by kernel_rfl))
theorem kt3 (H : ∀ j, (ktτ.kk j).holds (x j) w0) : KOK ktτ x w0 ktOps Q 3 (ktO 3) :=
  k_snd (s := 49) (fun a w => by kernel_rfl) (fun v u w => by kernel_rfl) (src_op 1 49 (by decide) rfl rfl (by kernel_rfl)) rfl (.inl (by kernel_rfl))
theorem kt4 (H : ∀ j, (ktτ.kk j).holds (x j) w0) : KOK ktτ x w0 ktOps Q 4 (ktO 4) :=
  k_move (s := 51) (.inr (by kernel_rfl)) (src_op 2 51 (by decide) rfl rfl (by kernel_rfl)) rfl (.inl (by kernel_rfl))
theorem kt5 (H : ∀ j, (ktτ.kk j).holds (x j) w0) : KOK ktτ x w0 ktOps Q 5 (ktO 5) :=
  k_move (s := 52) (.inr (by kernel_rfl)) (src_op 3 52 (by decide) rfl rfl (by kernel_rfl)) rfl (.inl (by kernel_rfl))
theorem ktsteps (H : ∀ j, (ktτ.kk j).holds (x j) w0) : ∀ i, i < 6 → KOK ktτ x w0 ktOps Q i (ktO i) := fun i hi => match i, hi with
  | 0, _ => kt0 H
  | 1, _ => kt1 H
  | 2, _ => kt2 H
  | 3, _ => kt3 H
  | 4, _ => kt4 H
  | 5, _ => kt5 H
  | n + 6, h => absurd h (by omega)
theorem ktH (h1 : KK.holds (.box (3, s1_)) (x 1) w0) (h3 : KK.holds (.box (99, s0_)) (x 3) w0) (h5 : KK.holds (.ii [[0, 1], [2]]) (x 5) w0) (h6 : KK.holds (.as_ [(3, s1_), (1, s1_)]) (x 6) w0) (h7 : KK.holds (.ii [[1]]) (x 7) w0) (h8 : KK.holds (.as_ [(3, s1_)]) (x 8) w0) (h9 : KK.holds (.ii [[0, 1]]) (x 9) w0) : ∀ j, (ktτ.kk j).holds (x j) w0 := by
  intro j
  show KK.holds (ktkk j) _ _
  unfold ktkk
  split
  · exact h1
  · exact h3
  · exact h5
  · exact h6
  · exact h7
  · exact h8
  · exact h9
  · trivial
theorem ktof {i : Nat} {o : Oper} (h : ktOps[i]? = some o) : i < 6 ∧ o = ktO i := by
  obtain ⟨h1, h2⟩ := Array.getElem?_eq_some_iff.1 h
  refine ⟨by rw [ktsize] at h1; exact h1, ?_⟩
  unfold ktO
  rw [Array.getD_eq_getD_getElem?, h]; rfl
theorem ktlow : ((List.range 6).all fun i => (ktO i).after.all fun e => !Region.binds .any e || decide (e.on < i)) = true := by kernel_rfl
theorem ktdst : ((List.range 6).all fun i => decide ((ktO i).dst = some (ktτ.D i))) = true := by kernel_rfl
theorem ktinj : ((List.range 6).all fun i => decide (ktτ.D i < 136) && (ktτ.ks.all fun k => decide (k ≠ ktτ.D i)) && (List.range 6).all fun j => decide (j = i) || decide (ktτ.D j ≠ ktτ.D i)) = true := by kernel_rfl
theorem ktregion {id : Nat} {a : Act} (he : ops = ktOps) (H : ∀ j, (ktτ.kk j).holds (x j) w0) (hd : a.defers = []) (ht : a.tmps.size = 136) (hkeep : ∀ j, j ∈ ktτ.ks → a.tmps.getD j undef = x j)
    (hdone : ∀ a' w', a'.defers = [] → a'.tmps.size = 136 → (∀ j, j ∈ ktτ.ks → a'.tmps.getD j undef = x j) → (∀ i, i < 6 → (ktτ.T i).holds (a'.tmps.getD (ktτ.D i) undef) w') → Below w0.heap.size w0 w' → Q .normal a' w') : (Code.region id ops false).wp Tryz.prog Q a w0 := by
  subst he
  refine list_told (τ := ktτ) (x := x) ktsize ?_ ?_ ?_ ?_ ?_ ?_ hd ht hkeep hdone
  · intro i o h e he hb
    obtain ⟨hi, rfl⟩ := ktof h
    have := List.all_eq_true.1 ktlow i (List.mem_range.2 hi)
    have := Array.all_eq_true_iff_forall_mem.1 this e he
    simpa [hb] using this
  · intro i o h
    obtain ⟨hi, rfl⟩ := ktof h
    exact of_decide_eq_true (List.all_eq_true.1 ktdst i (List.mem_range.2 hi))
  · intro i hi
    have := List.all_eq_true.1 ktinj i (List.mem_range.2 hi)
    simp only [Bool.and_eq_true, decide_eq_true_eq] at this
    exact this.1.1
  · intro i j hi hj e
    have := List.all_eq_true.1 ktinj i (List.mem_range.2 hi)
    simp only [Bool.and_eq_true] at this
    have := List.all_eq_true.1 this.2 j (List.mem_range.2 hj)
    simpa [e] using this
  · intro i hi j hj
    have := List.all_eq_true.1 ktinj i (List.mem_range.2 hi)
    simp only [Bool.and_eq_true] at this
    simpa using List.all_eq_true.1 this.1.2 j hj
  · intro i o h
    obtain ⟨hi, rfl⟩ := ktof h
    exact ktsteps H i hi
def kqT : List KK := [.ii [[0, 1], [2]], .il [0, 1], .il [2], .ii [[0, 1], [2]], tt_, tt_, .as_ [(3, s1_), (1, s1_)], .is_ (.int .i64 2), tt_, tt_, tt_, .as_ [(3, s1_), (1, s1_)], .box (3, s1_), .is_ (agV (3, s1_)), .is_ (agV (3, s1_)), tt_, tt_, tt_, .ii [[1]], .il [1], .ii [[1]], tt_, tt_, tt_, .as_ [(3, s1_)], .is_ (.int .i64 1), tt_, tt_, tt_, .ii [[0, 1]], .il [0, 1], .ii [[0, 1]], tt_, tt_, tt_, .ii [], .is_ (.int .i64 0), tt_, tt_, tt_, .ii [], .is_ (.int .i64 0), .ii [], .is_ (.int .i64 0), .is_ (.int .i64 0), .ii [], .is_ (.int .i64 0), .is_ (.int .i64 0), tt_, tt_, tt_, .is_ (agV (99, s0_)), .as_ [(99, s0_)], .is_ (agV (99, s0_)), .as_ [(99, s0_)], .as_ [], .as_ [], .aa [[(99, s0_)], [(99, s0_)], [], []], .ii [[0], [1], [2, 3]], .il [0], .il [1], .il [2, 3], .ii [[0], [1], [2, 3]], tt_, tt_, tt_, .bl [true], .ii [[0]], .il [0], .ii [[0]], tt_, tt_, tt_, .bl [true, true], .ii [[0], [1]], .il [0], .il [1], .ii [[0], [1]], tt_, tt_, tt_, tt_, tt_, tt_]
def kqD : List Nat := [53, 54, 55, 56, 57, 58, 59, 60, 61, 62, 63, 64, 65, 66, 67, 68, 69, 70, 71, 72, 73, 74, 75, 76, 77, 78, 79, 80, 81, 82, 83, 84, 85, 86, 87, 88, 89, 90, 91, 92, 93, 94, 95, 96, 97, 98, 99, 100, 101, 102, 103, 104, 105, 106, 107, 108, 109, 110, 111, 112, 113, 114, 115, 116, 117, 118, 119, 120, 121, 122, 123, 124, 125, 126, 127, 128, 129, 130, 131, 132, 133, 134, 135, 0]
def kqkk : Nat → KK
  | 1 => .box (3, s1_)
  | 3 => .box (99, s0_)
  | 5 => .ii [[0, 1], [2]]
  | 6 => .as_ [(3, s1_), (1, s1_)]
  | 7 => .ii [[1]]
  | 8 => .as_ [(3, s1_)]
  | 9 => .ii [[0, 1]]
  | 11 => .ii []
  | _ => .any
def kqτ : Tab := ⟨84, 136, fun i => kqD.getD i 0, fun i => kqT.getD i .any, kqkk, [1, 3, 5, 6, 7, 8, 9, 11]⟩
@[irreducible] noncomputable def kqOps : Array Oper := (reg9 9 (Tryz.f10.body.getD .skip)).getD #[]
@[irreducible] noncomputable def kqO (i : Nat) : Oper := kqOps.getD i default
theorem kqsize : kqOps.size = 84 := by kernel_rfl
theorem kq0 (H : ∀ j, (kqτ.kk j).holds (x j) w0) : KOK kqτ x w0 kqOps Q 0 (kqO 0) :=
  k_move (s := 5) (.inl (by kernel_rfl)) (src_kept 5 H (by decide) rfl) rfl (.inl (by kernel_rfl))
theorem kq1 (H : ∀ j, (kqτ.kk j).holds (x j) w0) : KOK kqτ x w0 kqOps Q 1 (kqO 1) :=
  k_ints (cs := #[.int .i64 0, .int .i64 1]) (xs := [0, 1]) (fun a w => by kernel_rfl) rfl rfl rfl (.inl (by kernel_rfl))
theorem kq2 (H : ∀ j, (kqτ.kk j).holds (x j) w0) : KOK kqτ x w0 kqOps Q 2 (kqO 2) :=
  k_ints (cs := #[.int .i64 2]) (xs := [2]) (fun a w => by kernel_rfl) rfl rfl rfl (.inl (by kernel_rfl))
theorem kq3 (H : ∀ j, (kqτ.kk j).holds (x j) w0) : KOK kqτ x w0 kqOps Q 3 (kqO 3) := by
  intro l a w h hl K hK
  obtain ⟨A0, c0, e0, r0⟩ := (show KK.holds (.il [0, 1]) _ _ from (src_op 1 54 (by decide) rfl rfl (by kernel_rfl)) l a w h hl)
  have e0 : a.tmps.getD 54 undef = .slice A0 2 c0 := e0
  obtain ⟨A1, c1, e1, r1⟩ := (show KK.holds (.il [2]) _ _ from (src_op 2 55 (by decide) rfl rfl (by kernel_rfl)) l a w h hl)
  have e1 : a.tmps.getD 55 undef = .slice A1 1 c1 := e1
  have he : (execOp a.eval (kqO 3)).run Tryz.prog w = (execOp (rhoL [(54, a.tmps.getD 54 undef), (55, a.tmps.getD 55 undef)]) (kqO 3)).run Tryz.prog w := by kernel_rfl
  have hv : ∀ (A0 A1 : Option Addr) (c0 c1 : Nat) (w : World), (execOp (rhoL [(54, .slice A0 2 c0), (55, .slice A1 1 c1)]) (kqO 3)).run Tryz.prog w = .ok (.value (.slice (some ⟨w.heap.size, 0, none⟩) 2 2)) (w.alloc (.cells #[.slice A0 2 c0, .slice A1 1 c1] 35)) := fun A0 A1 c0 c1 w => by kernel_rfl
  rw [e0, e1, hv] at he
  refine ⟨kgok h hl (.inl (by kernel_rfl)), ow_value he (hK _ _ ((Below.refl _ _).alloc (Nat.le_refl _) _) ?_)⟩
  show RdII _ _ [[0, 1], [2]]
  exact rdII_lit [[0, 1], [2]] (heap_new rfl) fun j hj => match j, hj with | 0, _ => ⟨_, _, rfl, r0.below ((Below.refl _ _).alloc (Nat.le_refl _) _)⟩ | 1, _ => ⟨_, _, rfl, r1.below ((Below.refl _ _).alloc (Nat.le_refl _) _)⟩
theorem kq4 (H : ∀ j, (kqτ.kk j).holds (x j) w0) : KOK kqτ x w0 kqOps Q 4 (kqO 4) :=
  k_same (fun a w => by kernel_rfl) (src_op 0 53 (by decide) rfl rfl (by kernel_rfl)) (src_op 3 56 (by decide) rfl rfl (by kernel_rfl)) rfl (by decide) (by decide) (.inl (by kernel_rfl))
theorem kq5 (H : ∀ j, (kqτ.kk j).holds (x j) w0) : KOK kqτ x w0 kqOps Q 5 (kqO 5) :=
  k_move (s := 57) (.inl (by kernel_rfl)) (src_op 4 57 (by decide) rfl rfl (by kernel_rfl)) rfl (.inl (by kernel_rfl))
theorem kq6 (H : ∀ j, (kqτ.kk j).holds (x j) w0) : KOK kqτ x w0 kqOps Q 6 (kqO 6) :=
  k_move (s := 6) (.inl (by kernel_rfl)) (src_kept 6 H (by decide) rfl) rfl (.inr ⟨5, by kernel_rfl, by decide, rfl, by kernel_rfl, by kernel_rfl⟩)
theorem kq7 (H : ∀ j, (kqτ.kk j).holds (x j) w0) : KOK kqτ x w0 kqOps Q 7 (kqO 7) :=
  k_lenA (s := 59) (L := [(3, s1_), (1, s1_)]) (fun a w => by kernel_rfl) (fun A c w => by kernel_rfl) (src_op 6 59 (by decide) rfl rfl (by kernel_rfl)) rfl (.inr ⟨5, by kernel_rfl, by decide, rfl, by kernel_rfl, by kernel_rfl⟩)
theorem kq8 (H : ∀ j, (kqτ.kk j).holds (x j) w0) : KOK kqτ x w0 kqOps Q 8 (kqO 8) :=
  k_fn1 (s := 60) (u := (.int .i64 2)) (r := (.bool true)) (fun a w => by kernel_rfl) (fun w => by kernel_rfl) (src_op 7 60 (by decide) rfl rfl (by kernel_rfl)) rfl (.inr ⟨5, by kernel_rfl, by decide, rfl, by kernel_rfl, by kernel_rfl⟩)
theorem kq9 (H : ∀ j, (kqτ.kk j).holds (x j) w0) : KOK kqτ x w0 kqOps Q 9 (kqO 9) :=
  k_pick (c := 58) (y := 61) (z := .const (.bool false)) (by kernel_rfl) (src_op 5 58 (by decide) rfl rfl (by kernel_rfl)) (src_op 8 61 (by decide) rfl rfl (by kernel_rfl)) rfl (.inl (by kernel_rfl))
theorem kq10 (H : ∀ j, (kqτ.kk j).holds (x j) w0) : KOK kqτ x w0 kqOps Q 10 (kqO 10) :=
  k_move (s := 62) (.inl (by kernel_rfl)) (src_op 9 62 (by decide) rfl rfl (by kernel_rfl)) rfl (.inl (by kernel_rfl))
theorem kq11 (H : ∀ j, (kqτ.kk j).holds (x j) w0) : KOK kqτ x w0 kqOps Q 11 (kqO 11) :=
  k_move (s := 6) (.inl (by kernel_rfl)) (src_kept 6 H (by decide) rfl) rfl (.inr ⟨10, by kernel_rfl, by decide, rfl, by kernel_rfl, by kernel_rfl⟩)
theorem kq12 (H : ∀ j, (kqτ.kk j).holds (x j) w0) : KOK kqτ x w0 kqOps Q 12 (kqO 12) :=
  k_at (s := 64) (y := (3, s1_)) (L := [(1, s1_)]) (fun a w => by kernel_rfl) (fun b o c w => by kernel_rfl) (src_op 11 64 (by decide) rfl rfl (by kernel_rfl)) rfl (.inr ⟨10, by kernel_rfl, by decide, rfl, by kernel_rfl, by kernel_rfl⟩)
theorem kq13 (H : ∀ j, (kqτ.kk j).holds (x j) w0) : KOK kqτ x w0 kqOps Q 13 (kqO 13) :=
  k_load (s := 65) (by kernel_rfl) (src_op 12 65 (by decide) rfl rfl (by kernel_rfl)) rfl (.inr ⟨10, by kernel_rfl, by decide, rfl, by kernel_rfl, by kernel_rfl⟩)
theorem kq14 (H : ∀ j, (kqτ.kk j).holds (x j) w0) : KOK kqτ x w0 kqOps Q 14 (kqO 14) :=
  k_load (s := 1) (by kernel_rfl) (src_kept 1 H (by decide) rfl) rfl (.inr ⟨10, by kernel_rfl, by decide, rfl, by kernel_rfl, by kernel_rfl⟩)
theorem kq15 (H : ∀ j, (kqτ.kk j).holds (x j) w0) : KOK kqτ x w0 kqOps Q 15 (kqO 15) :=
  k_fn2 (s := 66) (t := 67) (u := (agV (3, s1_))) (u' := (agV (3, s1_))) (r := (.bool true)) (fun a w => by kernel_rfl) (fun w => by kernel_rfl) (src_op 13 66 (by decide) rfl rfl (by kernel_rfl)) (src_op 14 67 (by decide) rfl rfl (by kernel_rfl)) rfl (.inr ⟨10, by kernel_rfl, by decide, rfl, by kernel_rfl, by kernel_rfl⟩)
theorem kq16 (H : ∀ j, (kqτ.kk j).holds (x j) w0) : KOK kqτ x w0 kqOps Q 16 (kqO 16) :=
  k_pick (c := 63) (y := 68) (z := .const (.bool false)) (by kernel_rfl) (src_op 10 63 (by decide) rfl rfl (by kernel_rfl)) (src_op 15 68 (by decide) rfl rfl (by kernel_rfl)) rfl (.inl (by kernel_rfl))
theorem kq17 (H : ∀ j, (kqτ.kk j).holds (x j) w0) : KOK kqτ x w0 kqOps Q 17 (kqO 17) :=
  k_move (s := 69) (.inl (by kernel_rfl)) (src_op 16 69 (by decide) rfl rfl (by kernel_rfl)) rfl (.inl (by kernel_rfl))
theorem kq18 (H : ∀ j, (kqτ.kk j).holds (x j) w0) : KOK kqτ x w0 kqOps Q 18 (kqO 18) :=
  k_move (s := 7) (.inl (by kernel_rfl)) (src_kept 7 H (by decide) rfl) rfl (.inr ⟨17, by kernel_rfl, by decide, rfl, by kernel_rfl, by kernel_rfl⟩)
theorem kq19 (H : ∀ j, (kqτ.kk j).holds (x j) w0) : KOK kqτ x w0 kqOps Q 19 (kqO 19) :=
  k_ints (cs := #[.int .i64 1]) (xs := [1]) (fun a w => by kernel_rfl) rfl rfl rfl (.inr ⟨17, by kernel_rfl, by decide, rfl, by kernel_rfl, by kernel_rfl⟩)
theorem kq20 (H : ∀ j, (kqτ.kk j).holds (x j) w0) : KOK kqτ x w0 kqOps Q 20 (kqO 20) := by
  intro l a w h hl K hK
  obtain ⟨A0, c0, e0, r0⟩ := (show KK.holds (.il [1]) _ _ from (src_op 19 72 (by decide) rfl rfl (by kernel_rfl)) l a w h hl)
  have e0 : a.tmps.getD 72 undef = .slice A0 1 c0 := e0
  have he : (execOp a.eval (kqO 20)).run Tryz.prog w = (execOp (rhoL [(72, a.tmps.getD 72 undef)]) (kqO 20)).run Tryz.prog w := by kernel_rfl
  have hv : ∀ (A0 : Option Addr) (c0 : Nat) (w : World), (execOp (rhoL [(72, .slice A0 1 c0)]) (kqO 20)).run Tryz.prog w = .ok (.value (.slice (some ⟨w.heap.size, 0, none⟩) 1 1)) (w.alloc (.cells #[.slice A0 1 c0] 35)) := fun A0 c0 w => by kernel_rfl
  rw [e0, hv] at he
  refine ⟨kgok h hl (.inr ⟨17, by kernel_rfl, by decide, rfl, by kernel_rfl, by kernel_rfl⟩), ow_value he (hK _ _ ((Below.refl _ _).alloc (Nat.le_refl _) _) ?_)⟩
  show RdII _ _ [[1]]
  exact rdII_lit [[1]] (heap_new rfl) fun j hj => match j, hj with | 0, _ => ⟨_, _, rfl, r0.below ((Below.refl _ _).alloc (Nat.le_refl _) _)⟩
theorem kq21 (H : ∀ j, (kqτ.kk j).holds (x j) w0) : KOK kqτ x w0 kqOps Q 21 (kqO 21) :=
  k_same (fun a w => by kernel_rfl) (src_op 18 71 (by decide) rfl rfl (by kernel_rfl)) (src_op 20 73 (by decide) rfl rfl (by kernel_rfl)) rfl (by decide) (by decide) (.inr ⟨17, by kernel_rfl, by decide, rfl, by kernel_rfl, by kernel_rfl⟩)
theorem kq22 (H : ∀ j, (kqτ.kk j).holds (x j) w0) : KOK kqτ x w0 kqOps Q 22 (kqO 22) :=
  k_pick (c := 70) (y := 74) (z := .const (.bool false)) (by kernel_rfl) (src_op 17 70 (by decide) rfl rfl (by kernel_rfl)) (src_op 21 74 (by decide) rfl rfl (by kernel_rfl)) rfl (.inl (by kernel_rfl))
theorem kq23 (H : ∀ j, (kqτ.kk j).holds (x j) w0) : KOK kqτ x w0 kqOps Q 23 (kqO 23) :=
  k_move (s := 75) (.inl (by kernel_rfl)) (src_op 22 75 (by decide) rfl rfl (by kernel_rfl)) rfl (.inl (by kernel_rfl))
theorem kq24 (H : ∀ j, (kqτ.kk j).holds (x j) w0) : KOK kqτ x w0 kqOps Q 24 (kqO 24) :=
  k_move (s := 8) (.inl (by kernel_rfl)) (src_kept 8 H (by decide) rfl) rfl (.inr ⟨23, by kernel_rfl, by decide, rfl, by kernel_rfl, by kernel_rfl⟩)
theorem kq25 (H : ∀ j, (kqτ.kk j).holds (x j) w0) : KOK kqτ x w0 kqOps Q 25 (kqO 25) :=
  k_lenA (s := 77) (L := [(3, s1_)]) (fun a w => by kernel_rfl) (fun A c w => by kernel_rfl) (src_op 24 77 (by decide) rfl rfl (by kernel_rfl)) rfl (.inr ⟨23, by kernel_rfl, by decide, rfl, by kernel_rfl, by kernel_rfl⟩)
theorem kq26 (H : ∀ j, (kqτ.kk j).holds (x j) w0) : KOK kqτ x w0 kqOps Q 26 (kqO 26) :=
  k_fn1 (s := 78) (u := (.int .i64 1)) (r := (.bool true)) (fun a w => by kernel_rfl) (fun w => by kernel_rfl) (src_op 25 78 (by decide) rfl rfl (by kernel_rfl)) rfl (.inr ⟨23, by kernel_rfl, by decide, rfl, by kernel_rfl, by kernel_rfl⟩)
theorem kq27 (H : ∀ j, (kqτ.kk j).holds (x j) w0) : KOK kqτ x w0 kqOps Q 27 (kqO 27) :=
  k_pick (c := 76) (y := 79) (z := .const (.bool false)) (by kernel_rfl) (src_op 23 76 (by decide) rfl rfl (by kernel_rfl)) (src_op 26 79 (by decide) rfl rfl (by kernel_rfl)) rfl (.inl (by kernel_rfl))
theorem kq28 (H : ∀ j, (kqτ.kk j).holds (x j) w0) : KOK kqτ x w0 kqOps Q 28 (kqO 28) :=
  k_move (s := 80) (.inl (by kernel_rfl)) (src_op 27 80 (by decide) rfl rfl (by kernel_rfl)) rfl (.inl (by kernel_rfl))
theorem kq29 (H : ∀ j, (kqτ.kk j).holds (x j) w0) : KOK kqτ x w0 kqOps Q 29 (kqO 29) :=
  k_move (s := 9) (.inl (by kernel_rfl)) (src_kept 9 H (by decide) rfl) rfl (.inr ⟨28, by kernel_rfl, by decide, rfl, by kernel_rfl, by kernel_rfl⟩)
theorem kq30 (H : ∀ j, (kqτ.kk j).holds (x j) w0) : KOK kqτ x w0 kqOps Q 30 (kqO 30) :=
  k_ints (cs := #[.int .i64 0, .int .i64 1]) (xs := [0, 1]) (fun a w => by kernel_rfl) rfl rfl rfl (.inr ⟨28, by kernel_rfl, by decide, rfl, by kernel_rfl, by kernel_rfl⟩)
theorem kq31 (H : ∀ j, (kqτ.kk j).holds (x j) w0) : KOK kqτ x w0 kqOps Q 31 (kqO 31) := by
  intro l a w h hl K hK
  obtain ⟨A0, c0, e0, r0⟩ := (show KK.holds (.il [0, 1]) _ _ from (src_op 30 83 (by decide) rfl rfl (by kernel_rfl)) l a w h hl)
  have e0 : a.tmps.getD 83 undef = .slice A0 2 c0 := e0
  have he : (execOp a.eval (kqO 31)).run Tryz.prog w = (execOp (rhoL [(83, a.tmps.getD 83 undef)]) (kqO 31)).run Tryz.prog w := by kernel_rfl
  have hv : ∀ (A0 : Option Addr) (c0 : Nat) (w : World), (execOp (rhoL [(83, .slice A0 2 c0)]) (kqO 31)).run Tryz.prog w = .ok (.value (.slice (some ⟨w.heap.size, 0, none⟩) 1 1)) (w.alloc (.cells #[.slice A0 2 c0] 35)) := fun A0 c0 w => by kernel_rfl
  rw [e0, hv] at he
  refine ⟨kgok h hl (.inr ⟨28, by kernel_rfl, by decide, rfl, by kernel_rfl, by kernel_rfl⟩), ow_value he (hK _ _ ((Below.refl _ _).alloc (Nat.le_refl _) _) ?_)⟩
  show RdII _ _ [[0, 1]]
  exact rdII_lit [[0, 1]] (heap_new rfl) fun j hj => match j, hj with | 0, _ => ⟨_, _, rfl, r0.below ((Below.refl _ _).alloc (Nat.le_refl _) _)⟩
theorem kq32 (H : ∀ j, (kqτ.kk j).holds (x j) w0) : KOK kqτ x w0 kqOps Q 32 (kqO 32) :=
  k_same (fun a w => by kernel_rfl) (src_op 29 82 (by decide) rfl rfl (by kernel_rfl)) (src_op 31 84 (by decide) rfl rfl (by kernel_rfl)) rfl (by decide) (by decide) (.inr ⟨28, by kernel_rfl, by decide, rfl, by kernel_rfl, by kernel_rfl⟩)
theorem kq33 (H : ∀ j, (kqτ.kk j).holds (x j) w0) : KOK kqτ x w0 kqOps Q 33 (kqO 33) :=
  k_pick (c := 81) (y := 85) (z := .const (.bool false)) (by kernel_rfl) (src_op 28 81 (by decide) rfl rfl (by kernel_rfl)) (src_op 32 85 (by decide) rfl rfl (by kernel_rfl)) rfl (.inl (by kernel_rfl))
theorem kq34 (H : ∀ j, (kqτ.kk j).holds (x j) w0) : KOK kqτ x w0 kqOps Q 34 (kqO 34) :=
  k_move (s := 86) (.inl (by kernel_rfl)) (src_op 33 86 (by decide) rfl rfl (by kernel_rfl)) rfl (.inl (by kernel_rfl))
theorem kq35 (H : ∀ j, (kqτ.kk j).holds (x j) w0) : KOK kqτ x w0 kqOps Q 35 (kqO 35) :=
  k_move (s := 11) (.inl (by kernel_rfl)) (src_kept 11 H (by decide) rfl) rfl (.inr ⟨34, by kernel_rfl, by decide, rfl, by kernel_rfl, by kernel_rfl⟩)
theorem kq36 (H : ∀ j, (kqτ.kk j).holds (x j) w0) : KOK kqτ x w0 kqOps Q 36 (kqO 36) :=
  k_lenI (s := 88) (L := []) (fun a w => by kernel_rfl) (fun A c w => by kernel_rfl) (src_op 35 88 (by decide) rfl rfl (by kernel_rfl)) rfl (.inr ⟨34, by kernel_rfl, by decide, rfl, by kernel_rfl, by kernel_rfl⟩)
theorem kq37 (H : ∀ j, (kqτ.kk j).holds (x j) w0) : KOK kqτ x w0 kqOps Q 37 (kqO 37) :=
  k_fn1 (s := 89) (u := (.int .i64 0)) (r := (.bool true)) (fun a w => by kernel_rfl) (fun w => by kernel_rfl) (src_op 36 89 (by decide) rfl rfl (by kernel_rfl)) rfl (.inr ⟨34, by kernel_rfl, by decide, rfl, by kernel_rfl, by kernel_rfl⟩)
theorem kq38 (H : ∀ j, (kqτ.kk j).holds (x j) w0) : KOK kqτ x w0 kqOps Q 38 (kqO 38) :=
  k_pick (c := 87) (y := 90) (z := .const (.bool false)) (by kernel_rfl) (src_op 34 87 (by decide) rfl rfl (by kernel_rfl)) (src_op 37 90 (by decide) rfl rfl (by kernel_rfl)) rfl (.inl (by kernel_rfl))
theorem kq39 (H : ∀ j, (kqτ.kk j).holds (x j) w0) : KOK kqτ x w0 kqOps Q 39 (kqO 39) :=
  k_move (s := 91) (.inl (by kernel_rfl)) (src_op 38 91 (by decide) rfl rfl (by kernel_rfl)) rfl (.inl (by kernel_rfl))
theorem kq40 (H : ∀ j, (kqτ.kk j).holds (x j) w0) : KOK kqτ x w0 kqOps Q 40 (kqO 40) :=
  k_adj (ls := []) atomC2 (by simp [S1, S2, S3]) (by decide) (by decide) (by decide +kernel) (fun a w => by kernel_rfl) (src_const (k := .aa []) (.slice none 0 0) (fun w => ⟨none, 0, rfl, rfl, fun h => absurd h (by decide)⟩)) rfl (.inr ⟨39, by kernel_rfl, by decide, rfl, by kernel_rfl, by kernel_rfl⟩)
theorem kq41 (H : ∀ j, (kqτ.kk j).holds (x j) w0) : KOK kqτ x w0 kqOps Q 41 (kqO 41) :=
  k_lenI (s := 93) (L := []) (fun a w => by kernel_rfl) (fun A c w => by kernel_rfl) (src_op 40 93 (by decide) rfl rfl (by kernel_rfl)) rfl (.inr ⟨39, by kernel_rfl, by decide, rfl, by kernel_rfl, by kernel_rfl⟩)
theorem kq42 (H : ∀ j, (kqτ.kk j).holds (x j) w0) : KOK kqτ x w0 kqOps Q 42 (kqO 42) :=
  k_start (ms := []) (by decide) (by decide +kernel) (fun a w => by kernel_rfl) (src_const (k := .bl []) (.slice none 0 0) (fun w => ⟨none, 0, rfl, rfl, fun h => absurd h (by decide)⟩)) rfl (.inr ⟨39, by kernel_rfl, by decide, rfl, by kernel_rfl, by kernel_rfl⟩)
theorem kq43 (H : ∀ j, (kqτ.kk j).holds (x j) w0) : KOK kqτ x w0 kqOps Q 43 (kqO 43) :=
  k_lenI (s := 95) (L := []) (fun a w => by kernel_rfl) (fun A c w => by kernel_rfl) (src_op 42 95 (by decide) rfl rfl (by kernel_rfl)) rfl (.inr ⟨39, by kernel_rfl, by decide, rfl, by kernel_rfl, by kernel_rfl⟩)
theorem kq44 (H : ∀ j, (kqτ.kk j).holds (x j) w0) : KOK kqτ x w0 kqOps Q 44 (kqO 44) :=
  k_fn2 (s := 94) (t := 96) (u := (.int .i64 0)) (u' := (.int .i64 0)) (r := (.int .i64 0)) (fun a w => by kernel_rfl) (fun w => by kernel_rfl) (src_op 41 94 (by decide) rfl rfl (by kernel_rfl)) (src_op 43 96 (by decide) rfl rfl (by kernel_rfl)) rfl (.inr ⟨39, by kernel_rfl, by decide, rfl, by kernel_rfl, by kernel_rfl⟩)
theorem kq45 (H : ∀ j, (kqτ.kk j).holds (x j) w0) : KOK kqτ x w0 kqOps Q 45 (kqO 45) :=
  k_end (ms := []) (by decide) (by decide +kernel) (fun a w => by kernel_rfl) (src_const (k := .bl []) (.slice none 0 0) (fun w => ⟨none, 0, rfl, rfl, fun h => absurd h (by decide)⟩)) rfl (.inr ⟨39, by kernel_rfl, by decide, rfl, by kernel_rfl, by kernel_rfl⟩)
theorem kq46 (H : ∀ j, (kqτ.kk j).holds (x j) w0) : KOK kqτ x w0 kqOps Q 46 (kqO 46) :=
  k_lenI (s := 98) (L := []) (fun a w => by kernel_rfl) (fun A c w => by kernel_rfl) (src_op 45 98 (by decide) rfl rfl (by kernel_rfl)) rfl (.inr ⟨39, by kernel_rfl, by decide, rfl, by kernel_rfl, by kernel_rfl⟩)
theorem kq47 (H : ∀ j, (kqτ.kk j).holds (x j) w0) : KOK kqτ x w0 kqOps Q 47 (kqO 47) :=
  k_fn2 (s := 97) (t := 99) (u := (.int .i64 0)) (u' := (.int .i64 0)) (r := (.int .i64 0)) (fun a w => by kernel_rfl) (fun w => by kernel_rfl) (src_op 44 97 (by decide) rfl rfl (by kernel_rfl)) (src_op 46 99 (by decide) rfl rfl (by kernel_rfl)) rfl (.inr ⟨39, by kernel_rfl, by decide, rfl, by kernel_rfl, by kernel_rfl⟩)
theorem kq48 (H : ∀ j, (kqτ.kk j).holds (x j) w0) : KOK kqτ x w0 kqOps Q 48 (kqO 48) :=
  k_fn1 (s := 100) (u := (.int .i64 0)) (r := (.bool true)) (fun a w => by kernel_rfl) (fun w => by kernel_rfl) (src_op 47 100 (by decide) rfl rfl (by kernel_rfl)) rfl (.inr ⟨39, by kernel_rfl, by decide, rfl, by kernel_rfl, by kernel_rfl⟩)
theorem kq49 (H : ∀ j, (kqτ.kk j).holds (x j) w0) : KOK kqτ x w0 kqOps Q 49 (kqO 49) :=
  k_pick (c := 92) (y := 101) (z := .const (.bool false)) (by kernel_rfl) (src_op 39 92 (by decide) rfl rfl (by kernel_rfl)) (src_op 48 101 (by decide) rfl rfl (by kernel_rfl)) rfl (.inl (by kernel_rfl))
theorem kq50 (H : ∀ j, (kqτ.kk j).holds (x j) w0) : KOK kqτ x w0 kqOps Q 50 (kqO 50) :=
  k_move (s := 102) (.inl (by kernel_rfl)) (src_op 49 102 (by decide) rfl rfl (by kernel_rfl)) rfl (.inl (by kernel_rfl))
theorem kq51 (H : ∀ j, (kqτ.kk j).holds (x j) w0) : KOK kqτ x w0 kqOps Q 51 (kqO 51) :=
  k_load (s := 3) (by kernel_rfl) (src_kept 3 H (by decide) rfl) rfl (.inr ⟨50, by kernel_rfl, by decide, rfl, by kernel_rfl, by kernel_rfl⟩)
theorem kq52 (H : ∀ j, (kqτ.kk j).holds (x j) w0) : KOK kqτ x w0 kqOps Q 52 (kqO 52) :=
  k_at1 (cs := #[.int .i64 99, .string s0_]) (s := 104) (y := (99, s0_)) (fun a w => by kernel_rfl) (fun w => by kernel_rfl) rfl (src_op 51 104 (by decide) rfl rfl (by kernel_rfl)) rfl (.inr ⟨50, by kernel_rfl, by decide, rfl, by kernel_rfl, by kernel_rfl⟩)
theorem kq53 (H : ∀ j, (kqτ.kk j).holds (x j) w0) : KOK kqτ x w0 kqOps Q 53 (kqO 53) :=
  k_load (s := 3) (by kernel_rfl) (src_kept 3 H (by decide) rfl) rfl (.inr ⟨50, by kernel_rfl, by decide, rfl, by kernel_rfl, by kernel_rfl⟩)
theorem kq54 (H : ∀ j, (kqτ.kk j).holds (x j) w0) : KOK kqτ x w0 kqOps Q 54 (kqO 54) :=
  k_at1 (cs := #[.int .i64 99, .string s0_]) (s := 106) (y := (99, s0_)) (fun a w => by kernel_rfl) (fun w => by kernel_rfl) rfl (src_op 53 106 (by decide) rfl rfl (by kernel_rfl)) rfl (.inr ⟨50, by kernel_rfl, by decide, rfl, by kernel_rfl, by kernel_rfl⟩)
theorem kq55 (H : ∀ j, (kqτ.kk j).holds (x j) w0) : KOK kqτ x w0 kqOps Q 55 (kqO 55) :=
  k_at0 (cs := #[]) (fun a w => by kernel_rfl) rfl rfl (.inr ⟨50, by kernel_rfl, by decide, rfl, by kernel_rfl, by kernel_rfl⟩)
theorem kq56 (H : ∀ j, (kqτ.kk j).holds (x j) w0) : KOK kqτ x w0 kqOps Q 56 (kqO 56) :=
  k_at0 (cs := #[]) (fun a w => by kernel_rfl) rfl rfl (.inr ⟨50, by kernel_rfl, by decide, rfl, by kernel_rfl, by kernel_rfl⟩)
theorem kq57 (H : ∀ j, (kqτ.kk j).holds (x j) w0) : KOK kqτ x w0 kqOps Q 57 (kqO 57) := by
  intro l a w h hl K hK
  obtain ⟨A0, c0, e0, r0⟩ := (show KK.holds (.as_ [(99, s0_)]) _ _ from (src_op 52 105 (by decide) rfl rfl (by kernel_rfl)) l a w h hl)
  have e0 : a.tmps.getD 105 undef = .slice A0 1 c0 := e0
  obtain ⟨A1, c1, e1, r1⟩ := (show KK.holds (.as_ [(99, s0_)]) _ _ from (src_op 54 107 (by decide) rfl rfl (by kernel_rfl)) l a w h hl)
  have e1 : a.tmps.getD 107 undef = .slice A1 1 c1 := e1
  obtain ⟨A2, c2, e2, r2⟩ := (show KK.holds (.as_ []) _ _ from (src_op 55 108 (by decide) rfl rfl (by kernel_rfl)) l a w h hl)
  have e2 : a.tmps.getD 108 undef = .slice A2 0 c2 := e2
  obtain ⟨A3, c3, e3, r3⟩ := (show KK.holds (.as_ []) _ _ from (src_op 56 109 (by decide) rfl rfl (by kernel_rfl)) l a w h hl)
  have e3 : a.tmps.getD 109 undef = .slice A3 0 c3 := e3
  have he : (execOp a.eval (kqO 57)).run Tryz.prog w = (execOp (rhoL [(105, a.tmps.getD 105 undef), (107, a.tmps.getD 107 undef), (108, a.tmps.getD 108 undef), (109, a.tmps.getD 109 undef)]) (kqO 57)).run Tryz.prog w := by kernel_rfl
  have hv : ∀ (A0 A1 A2 A3 : Option Addr) (c0 c1 c2 c3 : Nat) (w : World), (execOp (rhoL [(105, .slice A0 1 c0), (107, .slice A1 1 c1), (108, .slice A2 0 c2), (109, .slice A3 0 c3)]) (kqO 57)).run Tryz.prog w = .ok (.value (.slice (some ⟨w.heap.size, 0, none⟩) 4 4)) (w.alloc (.cells #[.slice A0 1 c0, .slice A1 1 c1, .slice A2 0 c2, .slice A3 0 c3] 25)) := fun A0 A1 A2 A3 c0 c1 c2 c3 w => by kernel_rfl
  rw [e0, e1, e2, e3, hv] at he
  refine ⟨kgok h hl (.inr ⟨50, by kernel_rfl, by decide, rfl, by kernel_rfl, by kernel_rfl⟩), ow_value he (hK _ _ ((Below.refl _ _).alloc (Nat.le_refl _) _) ?_)⟩
  show KK.holds (.aa [[(99, s0_)], [(99, s0_)], [], []]) _ _
  exact ⟨_, _, rfl, rdAA_lit [[(99, s0_)], [(99, s0_)], [], []] 4 rfl (heap_new rfl) rfl (fun j hj => match j, hj with | 0, _ => ⟨_, _, rfl, r0.below ((Below.refl _ _).alloc (Nat.le_refl _) _)⟩ | 1, _ => ⟨_, _, rfl, r1.below ((Below.refl _ _).alloc (Nat.le_refl _) _)⟩ | 2, _ => ⟨_, _, rfl, r2.below ((Below.refl _ _).alloc (Nat.le_refl _) _)⟩ | 3, _ => ⟨_, _, rfl, r3.below ((Below.refl _ _).alloc (Nat.le_refl _) _)⟩)⟩
theorem kq58 (H : ∀ j, (kqτ.kk j).holds (x j) w0) : KOK kqτ x w0 kqOps Q 58 (kqO 58) :=
  k_adj (ls := [[(99, s0_)], [(99, s0_)], [], []]) atomC2 (by simp [S1, S2, S3]) (by decide) (by decide) (by decide +kernel) (fun a w => by kernel_rfl) (src_op 57 110 (by decide) rfl rfl (by kernel_rfl)) rfl (.inr ⟨50, by kernel_rfl, by decide, rfl, by kernel_rfl, by kernel_rfl⟩)
theorem kq59 (H : ∀ j, (kqτ.kk j).holds (x j) w0) : KOK kqτ x w0 kqOps Q 59 (kqO 59) :=
  k_ints (cs := #[.int .i64 0]) (xs := [0]) (fun a w => by kernel_rfl) rfl rfl rfl (.inr ⟨50, by kernel_rfl, by decide, rfl, by kernel_rfl, by kernel_rfl⟩)
theorem kq60 (H : ∀ j, (kqτ.kk j).holds (x j) w0) : KOK kqτ x w0 kqOps Q 60 (kqO 60) :=
  k_ints (cs := #[.int .i64 1]) (xs := [1]) (fun a w => by kernel_rfl) rfl rfl rfl (.inr ⟨50, by kernel_rfl, by decide, rfl, by kernel_rfl, by kernel_rfl⟩)
theorem kq61 (H : ∀ j, (kqτ.kk j).holds (x j) w0) : KOK kqτ x w0 kqOps Q 61 (kqO 61) :=
  k_ints (cs := #[.int .i64 2, .int .i64 3]) (xs := [2, 3]) (fun a w => by kernel_rfl) rfl rfl rfl (.inr ⟨50, by kernel_rfl, by decide, rfl, by kernel_rfl, by kernel_rfl⟩)
theorem kq62 (H : ∀ j, (kqτ.kk j).holds (x j) w0) : KOK kqτ x w0 kqOps Q 62 (kqO 62) := by
  intro l a w h hl K hK
  obtain ⟨A0, c0, e0, r0⟩ := (show KK.holds (.il [0]) _ _ from (src_op 59 112 (by decide) rfl rfl (by kernel_rfl)) l a w h hl)
  have e0 : a.tmps.getD 112 undef = .slice A0 1 c0 := e0
  obtain ⟨A1, c1, e1, r1⟩ := (show KK.holds (.il [1]) _ _ from (src_op 60 113 (by decide) rfl rfl (by kernel_rfl)) l a w h hl)
  have e1 : a.tmps.getD 113 undef = .slice A1 1 c1 := e1
  obtain ⟨A2, c2, e2, r2⟩ := (show KK.holds (.il [2, 3]) _ _ from (src_op 61 114 (by decide) rfl rfl (by kernel_rfl)) l a w h hl)
  have e2 : a.tmps.getD 114 undef = .slice A2 2 c2 := e2
  have he : (execOp a.eval (kqO 62)).run Tryz.prog w = (execOp (rhoL [(112, a.tmps.getD 112 undef), (113, a.tmps.getD 113 undef), (114, a.tmps.getD 114 undef)]) (kqO 62)).run Tryz.prog w := by kernel_rfl
  have hv : ∀ (A0 A1 A2 : Option Addr) (c0 c1 c2 : Nat) (w : World), (execOp (rhoL [(112, .slice A0 1 c0), (113, .slice A1 1 c1), (114, .slice A2 2 c2)]) (kqO 62)).run Tryz.prog w = .ok (.value (.slice (some ⟨w.heap.size, 0, none⟩) 3 3)) (w.alloc (.cells #[.slice A0 1 c0, .slice A1 1 c1, .slice A2 2 c2] 35)) := fun A0 A1 A2 c0 c1 c2 w => by kernel_rfl
  rw [e0, e1, e2, hv] at he
  refine ⟨kgok h hl (.inr ⟨50, by kernel_rfl, by decide, rfl, by kernel_rfl, by kernel_rfl⟩), ow_value he (hK _ _ ((Below.refl _ _).alloc (Nat.le_refl _) _) ?_)⟩
  show RdII _ _ [[0], [1], [2, 3]]
  exact rdII_lit [[0], [1], [2, 3]] (heap_new rfl) fun j hj => match j, hj with | 0, _ => ⟨_, _, rfl, r0.below ((Below.refl _ _).alloc (Nat.le_refl _) _)⟩ | 1, _ => ⟨_, _, rfl, r1.below ((Below.refl _ _).alloc (Nat.le_refl _) _)⟩ | 2, _ => ⟨_, _, rfl, r2.below ((Below.refl _ _).alloc (Nat.le_refl _) _)⟩
theorem kq63 (H : ∀ j, (kqτ.kk j).holds (x j) w0) : KOK kqτ x w0 kqOps Q 63 (kqO 63) :=
  k_same (fun a w => by kernel_rfl) (src_op 58 111 (by decide) rfl rfl (by kernel_rfl)) (src_op 62 115 (by decide) rfl rfl (by kernel_rfl)) rfl (by decide) (by decide) (.inr ⟨50, by kernel_rfl, by decide, rfl, by kernel_rfl, by kernel_rfl⟩)
theorem kq64 (H : ∀ j, (kqτ.kk j).holds (x j) w0) : KOK kqτ x w0 kqOps Q 64 (kqO 64) :=
  k_pick (c := 103) (y := 116) (z := .const (.bool false)) (by kernel_rfl) (src_op 50 103 (by decide) rfl rfl (by kernel_rfl)) (src_op 63 116 (by decide) rfl rfl (by kernel_rfl)) rfl (.inl (by kernel_rfl))
theorem kq65 (H : ∀ j, (kqτ.kk j).holds (x j) w0) : KOK kqτ x w0 kqOps Q 65 (kqO 65) :=
  k_move (s := 117) (.inl (by kernel_rfl)) (src_op 64 117 (by decide) rfl rfl (by kernel_rfl)) rfl (.inl (by kernel_rfl))
theorem kq66 (H : ∀ j, (kqτ.kk j).holds (x j) w0) : KOK kqτ x w0 kqOps Q 66 (kqO 66) :=
  k_bools (cs := #[.bool true]) (xs := [true]) (fun a w => by kernel_rfl) rfl rfl rfl (.inr ⟨65, by kernel_rfl, by decide, rfl, by kernel_rfl, by kernel_rfl⟩)
theorem kq67 (H : ∀ j, (kqτ.kk j).holds (x j) w0) : KOK kqτ x w0 kqOps Q 67 (kqO 67) :=
  k_start (ms := [true]) (by decide) (by decide +kernel) (fun a w => by kernel_rfl) (src_op 66 119 (by decide) rfl rfl (by kernel_rfl)) rfl (.inr ⟨65, by kernel_rfl, by decide, rfl, by kernel_rfl, by kernel_rfl⟩)
theorem kq68 (H : ∀ j, (kqτ.kk j).holds (x j) w0) : KOK kqτ x w0 kqOps Q 68 (kqO 68) :=
  k_ints (cs := #[.int .i64 0]) (xs := [0]) (fun a w => by kernel_rfl) rfl rfl rfl (.inr ⟨65, by kernel_rfl, by decide, rfl, by kernel_rfl, by kernel_rfl⟩)
theorem kq69 (H : ∀ j, (kqτ.kk j).holds (x j) w0) : KOK kqτ x w0 kqOps Q 69 (kqO 69) := by
  intro l a w h hl K hK
  obtain ⟨A0, c0, e0, r0⟩ := (show KK.holds (.il [0]) _ _ from (src_op 68 121 (by decide) rfl rfl (by kernel_rfl)) l a w h hl)
  have e0 : a.tmps.getD 121 undef = .slice A0 1 c0 := e0
  have he : (execOp a.eval (kqO 69)).run Tryz.prog w = (execOp (rhoL [(121, a.tmps.getD 121 undef)]) (kqO 69)).run Tryz.prog w := by kernel_rfl
  have hv : ∀ (A0 : Option Addr) (c0 : Nat) (w : World), (execOp (rhoL [(121, .slice A0 1 c0)]) (kqO 69)).run Tryz.prog w = .ok (.value (.slice (some ⟨w.heap.size, 0, none⟩) 1 1)) (w.alloc (.cells #[.slice A0 1 c0] 35)) := fun A0 c0 w => by kernel_rfl
  rw [e0, hv] at he
  refine ⟨kgok h hl (.inr ⟨65, by kernel_rfl, by decide, rfl, by kernel_rfl, by kernel_rfl⟩), ow_value he (hK _ _ ((Below.refl _ _).alloc (Nat.le_refl _) _) ?_)⟩
  show RdII _ _ [[0]]
  exact rdII_lit [[0]] (heap_new rfl) fun j hj => match j, hj with | 0, _ => ⟨_, _, rfl, r0.below ((Below.refl _ _).alloc (Nat.le_refl _) _)⟩
theorem kq70 (H : ∀ j, (kqτ.kk j).holds (x j) w0) : KOK kqτ x w0 kqOps Q 70 (kqO 70) :=
  k_same (fun a w => by kernel_rfl) (src_op 67 120 (by decide) rfl rfl (by kernel_rfl)) (src_op 69 122 (by decide) rfl rfl (by kernel_rfl)) rfl (by decide) (by decide) (.inr ⟨65, by kernel_rfl, by decide, rfl, by kernel_rfl, by kernel_rfl⟩)
theorem kq71 (H : ∀ j, (kqτ.kk j).holds (x j) w0) : KOK kqτ x w0 kqOps Q 71 (kqO 71) :=
  k_pick (c := 118) (y := 123) (z := .const (.bool false)) (by kernel_rfl) (src_op 65 118 (by decide) rfl rfl (by kernel_rfl)) (src_op 70 123 (by decide) rfl rfl (by kernel_rfl)) rfl (.inl (by kernel_rfl))
theorem kq72 (H : ∀ j, (kqτ.kk j).holds (x j) w0) : KOK kqτ x w0 kqOps Q 72 (kqO 72) :=
  k_move (s := 124) (.inl (by kernel_rfl)) (src_op 71 124 (by decide) rfl rfl (by kernel_rfl)) rfl (.inl (by kernel_rfl))
theorem kq73 (H : ∀ j, (kqτ.kk j).holds (x j) w0) : KOK kqτ x w0 kqOps Q 73 (kqO 73) :=
  k_bools (cs := #[.bool true, .bool true]) (xs := [true, true]) (fun a w => by kernel_rfl) rfl rfl rfl (.inr ⟨72, by kernel_rfl, by decide, rfl, by kernel_rfl, by kernel_rfl⟩)
theorem kq74 (H : ∀ j, (kqτ.kk j).holds (x j) w0) : KOK kqτ x w0 kqOps Q 74 (kqO 74) :=
  k_end (ms := [true, true]) (by decide) (by decide +kernel) (fun a w => by kernel_rfl) (src_op 73 126 (by decide) rfl rfl (by kernel_rfl)) rfl (.inr ⟨72, by kernel_rfl, by decide, rfl, by kernel_rfl, by kernel_rfl⟩)
theorem kq75 (H : ∀ j, (kqτ.kk j).holds (x j) w0) : KOK kqτ x w0 kqOps Q 75 (kqO 75) :=
  k_ints (cs := #[.int .i64 0]) (xs := [0]) (fun a w => by kernel_rfl) rfl rfl rfl (.inr ⟨72, by kernel_rfl, by decide, rfl, by kernel_rfl, by kernel_rfl⟩)
theorem kq76 (H : ∀ j, (kqτ.kk j).holds (x j) w0) : KOK kqτ x w0 kqOps Q 76 (kqO 76) :=
  k_ints (cs := #[.int .i64 1]) (xs := [1]) (fun a w => by kernel_rfl) rfl rfl rfl (.inr ⟨72, by kernel_rfl, by decide, rfl, by kernel_rfl, by kernel_rfl⟩)
theorem kq77 (H : ∀ j, (kqτ.kk j).holds (x j) w0) : KOK kqτ x w0 kqOps Q 77 (kqO 77) := by
  intro l a w h hl K hK
  obtain ⟨A0, c0, e0, r0⟩ := (show KK.holds (.il [0]) _ _ from (src_op 75 128 (by decide) rfl rfl (by kernel_rfl)) l a w h hl)
  have e0 : a.tmps.getD 128 undef = .slice A0 1 c0 := e0
  obtain ⟨A1, c1, e1, r1⟩ := (show KK.holds (.il [1]) _ _ from (src_op 76 129 (by decide) rfl rfl (by kernel_rfl)) l a w h hl)
  have e1 : a.tmps.getD 129 undef = .slice A1 1 c1 := e1
  have he : (execOp a.eval (kqO 77)).run Tryz.prog w = (execOp (rhoL [(128, a.tmps.getD 128 undef), (129, a.tmps.getD 129 undef)]) (kqO 77)).run Tryz.prog w := by kernel_rfl
  have hv : ∀ (A0 A1 : Option Addr) (c0 c1 : Nat) (w : World), (execOp (rhoL [(128, .slice A0 1 c0), (129, .slice A1 1 c1)]) (kqO 77)).run Tryz.prog w = .ok (.value (.slice (some ⟨w.heap.size, 0, none⟩) 2 2)) (w.alloc (.cells #[.slice A0 1 c0, .slice A1 1 c1] 35)) := fun A0 A1 c0 c1 w => by kernel_rfl
  rw [e0, e1, hv] at he
  refine ⟨kgok h hl (.inr ⟨72, by kernel_rfl, by decide, rfl, by kernel_rfl, by kernel_rfl⟩), ow_value he (hK _ _ ((Below.refl _ _).alloc (Nat.le_refl _) _) ?_)⟩
  show RdII _ _ [[0], [1]]
  exact rdII_lit [[0], [1]] (heap_new rfl) fun j hj => match j, hj with | 0, _ => ⟨_, _, rfl, r0.below ((Below.refl _ _).alloc (Nat.le_refl _) _)⟩ | 1, _ => ⟨_, _, rfl, r1.below ((Below.refl _ _).alloc (Nat.le_refl _) _)⟩
theorem kq78 (H : ∀ j, (kqτ.kk j).holds (x j) w0) : KOK kqτ x w0 kqOps Q 78 (kqO 78) :=
  k_same (fun a w => by kernel_rfl) (src_op 74 127 (by decide) rfl rfl (by kernel_rfl)) (src_op 77 130 (by decide) rfl rfl (by kernel_rfl)) rfl (by decide) (by decide) (.inr ⟨72, by kernel_rfl, by decide, rfl, by kernel_rfl, by kernel_rfl⟩)
theorem kq79 (H : ∀ j, (kqτ.kk j).holds (x j) w0) : KOK kqτ x w0 kqOps Q 79 (kqO 79) :=
  k_pick (c := 125) (y := 131) (z := .const (.bool false)) (by kernel_rfl) (src_op 72 125 (by decide) rfl rfl (by kernel_rfl)) (src_op 78 131 (by decide) rfl rfl (by kernel_rfl)) rfl (.inl (by kernel_rfl))
theorem kq80 (H : ∀ j, (kqτ.kk j).holds (x j) w0) : KOK kqτ x w0 kqOps Q 80 (kqO 80) :=
  k_move (s := 132) (.inl (by kernel_rfl)) (src_op 79 132 (by decide) rfl rfl (by kernel_rfl)) rfl (.inl (by kernel_rfl))
theorem kq81 (H : ∀ j, (kqτ.kk j).holds (x j) w0) : KOK kqτ x w0 kqOps Q 81 (kqO 81) :=
  k_works (fun a w => by kernel_rfl) rfl (.inr ⟨80, by kernel_rfl, by decide, rfl, by kernel_rfl, by kernel_rfl⟩)
theorem kq82 (H : ∀ j, (kqτ.kk j).holds (x j) w0) : KOK kqτ x w0 kqOps Q 82 (kqO 82) :=
  k_pick (c := 133) (y := 134) (z := .const (.bool false)) (by kernel_rfl) (src_op 80 133 (by decide) rfl rfl (by kernel_rfl)) (src_op 81 134 (by decide) rfl rfl (by kernel_rfl)) rfl (.inl (by kernel_rfl))
theorem kq83 (H : ∀ j, (kqτ.kk j).holds (x j) w0) : KOK kqτ x w0 kqOps Q 83 (kqO 83) :=
  k_move (s := 135) (.inr (by kernel_rfl)) (src_op 82 135 (by decide) rfl rfl (by kernel_rfl)) rfl (.inl (by kernel_rfl))
theorem kqsteps (H : ∀ j, (kqτ.kk j).holds (x j) w0) : ∀ i, i < 84 → KOK kqτ x w0 kqOps Q i (kqO i) := fun i hi => match i, hi with
  | 0, _ => kq0 H
  | 1, _ => kq1 H
  | 2, _ => kq2 H
  | 3, _ => kq3 H
  | 4, _ => kq4 H
  | 5, _ => kq5 H
  | 6, _ => kq6 H
  | 7, _ => kq7 H
  | 8, _ => kq8 H
  | 9, _ => kq9 H
  | 10, _ => kq10 H
  | 11, _ => kq11 H
  | 12, _ => kq12 H
  | 13, _ => kq13 H
  | 14, _ => kq14 H
  | 15, _ => kq15 H
  | 16, _ => kq16 H
  | 17, _ => kq17 H
  | 18, _ => kq18 H
  | 19, _ => kq19 H
  | 20, _ => kq20 H
  | 21, _ => kq21 H
  | 22, _ => kq22 H
  | 23, _ => kq23 H
  | 24, _ => kq24 H
  | 25, _ => kq25 H
  | 26, _ => kq26 H
  | 27, _ => kq27 H
  | 28, _ => kq28 H
  | 29, _ => kq29 H
  | 30, _ => kq30 H
  | 31, _ => kq31 H
  | 32, _ => kq32 H
  | 33, _ => kq33 H
  | 34, _ => kq34 H
  | 35, _ => kq35 H
  | 36, _ => kq36 H
  | 37, _ => kq37 H
  | 38, _ => kq38 H
  | 39, _ => kq39 H
  | 40, _ => kq40 H
  | 41, _ => kq41 H
  | 42, _ => kq42 H
  | 43, _ => kq43 H
  | 44, _ => kq44 H
  | 45, _ => kq45 H
  | 46, _ => kq46 H
  | 47, _ => kq47 H
  | 48, _ => kq48 H
  | 49, _ => kq49 H
  | 50, _ => kq50 H
  | 51, _ => kq51 H
  | 52, _ => kq52 H
  | 53, _ => kq53 H
  | 54, _ => kq54 H
  | 55, _ => kq55 H
  | 56, _ => kq56 H
  | 57, _ => kq57 H
  | 58, _ => kq58 H
  | 59, _ => kq59 H
  | 60, _ => kq60 H
  | 61, _ => kq61 H
  | 62, _ => kq62 H
  | 63, _ => kq63 H
  | 64, _ => kq64 H
  | 65, _ => kq65 H
  | 66, _ => kq66 H
  | 67, _ => kq67 H
  | 68, _ => kq68 H
  | 69, _ => kq69 H
  | 70, _ => kq70 H
  | 71, _ => kq71 H
  | 72, _ => kq72 H
  | 73, _ => kq73 H
  | 74, _ => kq74 H
  | 75, _ => kq75 H
  | 76, _ => kq76 H
  | 77, _ => kq77 H
  | 78, _ => kq78 H
  | 79, _ => kq79 H
  | 80, _ => kq80 H
  | 81, _ => kq81 H
  | 82, _ => kq82 H
  | 83, _ => kq83 H
  | n + 84, h => absurd h (by omega)
theorem kqH (h1 : KK.holds (.box (3, s1_)) (x 1) w0) (h3 : KK.holds (.box (99, s0_)) (x 3) w0) (h5 : KK.holds (.ii [[0, 1], [2]]) (x 5) w0) (h6 : KK.holds (.as_ [(3, s1_), (1, s1_)]) (x 6) w0) (h7 : KK.holds (.ii [[1]]) (x 7) w0) (h8 : KK.holds (.as_ [(3, s1_)]) (x 8) w0) (h9 : KK.holds (.ii [[0, 1]]) (x 9) w0) (h11 : KK.holds (.ii []) (x 11) w0) : ∀ j, (kqτ.kk j).holds (x j) w0 := by
  intro j
  show KK.holds (kqkk j) _ _
  unfold kqkk
  split
  · exact h1
  · exact h3
  · exact h5
  · exact h6
  · exact h7
  · exact h8
  · exact h9
  · exact h11
  · trivial
theorem kqof {i : Nat} {o : Oper} (h : kqOps[i]? = some o) : i < 84 ∧ o = kqO i := by
  obtain ⟨h1, h2⟩ := Array.getElem?_eq_some_iff.1 h
  refine ⟨by rw [kqsize] at h1; exact h1, ?_⟩
  unfold kqO
  rw [Array.getD_eq_getD_getElem?, h]; rfl
theorem kqlow : ((List.range 84).all fun i => (kqO i).after.all fun e => !Region.binds .any e || decide (e.on < i)) = true := by kernel_rfl
theorem kqdst : ((List.range 84).all fun i => decide ((kqO i).dst = some (kqτ.D i))) = true := by kernel_rfl
theorem kqinj : ((List.range 84).all fun i => decide (kqτ.D i < 136) && (kqτ.ks.all fun k => decide (k ≠ kqτ.D i)) && (List.range 84).all fun j => decide (j = i) || decide (kqτ.D j ≠ kqτ.D i)) = true := by kernel_rfl
theorem kqregion {id : Nat} {a : Act} (he : ops = kqOps) (H : ∀ j, (kqτ.kk j).holds (x j) w0) (hd : a.defers = []) (ht : a.tmps.size = 136) (hkeep : ∀ j, j ∈ kqτ.ks → a.tmps.getD j undef = x j)
    (hdone : ∀ a' w', a'.defers = [] → a'.tmps.size = 136 → (∀ j, j ∈ kqτ.ks → a'.tmps.getD j undef = x j) → (∀ i, i < 84 → (kqτ.T i).holds (a'.tmps.getD (kqτ.D i) undef) w') → Below w0.heap.size w0 w' → Q .normal a' w') : (Code.region id ops true).wp Tryz.prog Q a w0 := by
  subst he
  refine region_told (τ := kqτ) (x := x) kqsize ?_ ?_ ?_ ?_ ?_ ?_ hd ht hkeep hdone
  · intro i o h e he hb
    obtain ⟨hi, rfl⟩ := kqof h
    have := List.all_eq_true.1 kqlow i (List.mem_range.2 hi)
    have := Array.all_eq_true_iff_forall_mem.1 this e he
    simpa [hb] using this
  · intro i o h
    obtain ⟨hi, rfl⟩ := kqof h
    exact of_decide_eq_true (List.all_eq_true.1 kqdst i (List.mem_range.2 hi))
  · intro i hi
    have := List.all_eq_true.1 kqinj i (List.mem_range.2 hi)
    simp only [Bool.and_eq_true, decide_eq_true_eq] at this
    exact this.1.1
  · intro i j hi hj e
    have := List.all_eq_true.1 kqinj i (List.mem_range.2 hi)
    simp only [Bool.and_eq_true] at this
    have := List.all_eq_true.1 this.2 j (List.mem_range.2 hj)
    simpa [e] using this
  · intro i hi j hj
    have := List.all_eq_true.1 kqinj i (List.mem_range.2 hi)
    simp only [Bool.and_eq_true] at this
    simpa using List.all_eq_true.1 this.1.2 j hj
  · intro i o h
    obtain ⟨hi, rfl⟩ := kqof h
    exact kqsteps H i hi
end
end Go.Proofs.YtfheoplcjeimdaaGreatDoor
