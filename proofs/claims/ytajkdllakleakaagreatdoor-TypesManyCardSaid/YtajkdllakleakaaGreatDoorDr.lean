/- A region that draws its order, walked one operation at a time on a frame whose slots are named, with a tail of operations behind all others. -/
import Derived.Test.YtajkdllakleakaaGreatDoorOrd
namespace Go.Proofs.YtajkdllakleakaaGreatDoor
open Go.RowKit
set_option linter.unusedVariables false
set_option linter.unusedSimpArgs false

/-- Slots set, one behind the other. -/
def setM (t : Array Value) : List Nat → List Value → Array Value
  | d :: D, y :: ys => setM (t.setIfInBounds d y) D ys
  | _, _ => t
theorem frame_set : ∀ (D : List Nat) (t t' : Array Value), t'.size = t.size → (∀ j, j ∉ D → t'.getD j undef = t.getD j undef) → t' = setM t D (D.map fun d => t'.getD d undef)
  | [], t, t', hs, h => by
    show t' = t
    refine Array.ext hs fun i h1 h2 => ?_
    have := h i (by simp)
    rw [Array.getD_eq_getD_getElem?, Array.getD_eq_getD_getElem?, Array.getElem?_eq_getElem h1, Array.getElem?_eq_getElem h2] at this
    simpa using this
  | d :: D, t, t', hs, h => by
    simp only [List.map_cons, setM]
    refine frame_set D _ t' (by simpa using hs) fun j hj => ?_
    by_cases e : j = d
    · subst e
      by_cases hlt : j < t.size
      · rw [getD_set_same hlt]
      · rw [Array.getD_eq_getD_getElem?, Array.getD_eq_getD_getElem?, Array.getElem?_eq_none (by omega), Array.getElem?_eq_none (by simp; omega)]
    · rw [getD_set_other e]
      exact h j (by simp [e, hj])
def nodupB : List Nat → Bool
  | [] => true
  | d :: D => !(D.contains d) && nodupB D
theorem nodupB_ne : ∀ (D : List Nat), nodupB D = true → ∀ i j, i < D.length → j < D.length → j ≠ i → D.getD j 0 ≠ D.getD i 0
  | [], _, i, j, hi, _, _ => absurd hi (by simp)
  | d :: D, h, i, j, hi, hj, hne => by
    simp only [nodupB, Bool.and_eq_true, Bool.not_eq_true', List.contains_eq_mem, decide_eq_false_iff_not] at h
    have key : ∀ k, k < D.length → D.getD k 0 ∈ D := fun k hk => by
      rw [List.getD_eq_getElem?_getD, List.getElem?_eq_getElem hk]; exact List.getElem_mem hk
    match i, j with
    | 0, 0 => exact absurd rfl hne
    | 0, j + 1 => intro e; exact h.1 (by rw [show (d :: D).getD 0 0 = d from rfl] at e; rw [← e]; exact key j (by simpa using hj))
    | i + 1, 0 => intro e; exact h.1 (by rw [show (d :: D).getD 0 0 = d from rfl] at e; rw [e]; exact key i (by simpa using hi))
    | i + 1, j + 1 => exact nodupB_ne D h.2 i j (by simpa using hi) (by simpa using hj) (by omega)
def drawnOne (ops : Array Oper) (n : Nat) (D : List Nat) (i : Nat) : Bool := match ops[i]? with
  | none => false
  | some o => (o.after.all fun e => !(Region.binds .any e) || decide (e.on < i)) && (if i < n then o.dst == some (D.getD i 0) else (List.range i).all fun j => o.after.any fun e => e.on == j && Region.binds .any e)
/-- The region is n operations, and a tail. -/
def drawnOK (ops : Array Oper) (n sz : Nat) (D : List Nat) : Bool :=
  decide (D.length = n) && decide (n ≤ ops.size) && (D.all fun d => decide (d < sz)) && nodupB D && (List.range ops.size).all (drawnOne ops n D)
structure RegF (ops : Array Oper) (n : Nat) (D : List Nat) (Φ : Nat → Value → World → Prop) (a0 : Act) (w0 : World) (l : Array Bool) (a : Act) (w : World) : Prop where
  defers : a.defers = a0.defers
  tsz : a.tmps.size = a0.tmps.size
  kept : ∀ j, j ∉ D → a.tmps.getD j undef = a0.tmps.getD j undef
  done : ∀ i, i < n → l.getD i false = true → Φ i (a.tmps.getD (D.getD i 0) undef) w
  below : Below w0.heap.size w0 w
variable {P : Program} {ops : Array Oper} {Q : Exit → Act → World → Prop}
theorem oper_lift {o : Oper} {a : Act} {w : World} {K K' : Act → World → Prop} {Q' : Exit → Act → World → Prop} (h : ∀ a w, K a w → K' a w) (hq : ∀ e a w, e ≠ .normal → Q' e a w → Q e a w) (hh : o.wp P a w K Q') : o.wp P a w K' Q := by
  unfold Oper.wp at *
  generalize (execOp a.eval o).run P w = r at *
  have hl : LetsOut Q' → LetsOut Q := fun ⟨a, w, h⟩ => ⟨a, w, hq _ _ _ (by simp) h⟩
  cases r with
  | ok n w' =>
    cases n <;> simp only [Oper.upon] at hh ⊢ <;>
      first
        | exact h _ _ hh
        | exact Calls.mono hh (fun e w'' he => by cases e <;> first | exact h _ _ he | exact hq _ _ _ (by simp) he | exact hl he)
        | exact Rows.mono hh (fun _ _ he => h _ _ he)
  | halt x w' => cases x <;> simp only [Oper.upon] at hh ⊢ <;> first | exact hh | exact hq _ _ _ (by simp) hh
/-- What one operation leaves. -/
def OneP (Φ : Nat → Value → World → Prop) (a : Act) (w : World) (d : Option Nat) (i : Nat) (e : Exit) (a' : Act) (w' : World) : Prop := e = .normal ∧ ∃ v, a' = a.put d v ∧ Below w.heap.size w w' ∧ Φ i v w'
theorem getD_lset (l : Array Bool) (i j : Nat) (hi : i < l.size) : (l.setIfInBounds i true).getD j false = if i = j then true else l.getD j false := by
  rw [Array.getD_eq_getD_getElem?, Array.getD_eq_getD_getElem?, Array.getElem?_setIfInBounds]
  by_cases e : i = j
  · subst e; simp [hi]
  · simp [e]
theorem wp_region_drawn {id : Nat} {a0 : Act} {w0 : World} (hm : P.follows .mixedOrders = true) (n sz : Nat) (D : List Nat) (Φ : Nat → Value → World → Prop) (hsz : a0.tmps.size = sz) (hchk : drawnOK ops n sz D = true)
    (mono : ∀ j v w w', Below w.heap.size w w' → Φ j v w → Φ j v w')
    (hstep : ∀ i o, i < n → ops[i]? = some o → ∀ (ys : List Value) (w : World), ys.length = n → Below w0.heap.size w0 w → (∀ j, j < n → (o.after.any fun e => e.on == j && Region.binds .any e) = true → Φ j (ys.getD j undef) w) → wpList P ops (OneP Φ ⟨setM a0.tmps D ys, a0.defers⟩ w o.dst i) [o] ⟨setM a0.tmps D ys, a0.defers⟩ w)
    (htail : ∀ (ys : List Value) (w : World), ys.length = n → Below w0.heap.size w0 w → (∀ j, j < n → Φ j (ys.getD j undef) w) → wpList P ops Q (ops.toList.drop n) ⟨setM a0.tmps D ys, a0.defers⟩ w) :
    (Code.region id ops true).wp P Q a0 w0 := by
  simp only [drawnOK, Bool.and_eq_true, decide_eq_true_eq, List.all_eq_true, List.mem_range] at hchk
  obtain ⟨⟨⟨⟨hD, hn⟩, hDs⟩, hnd⟩, hall⟩ := hchk
  have hone : ∀ i o, ops[i]? = some o → (o.after.all fun e => !(Region.binds .any e) || decide (e.on < i)) = true ∧ (if i < n then o.dst == some (D.getD i 0) else (List.range i).all fun j => o.after.any fun e => e.on == j && Region.binds .any e) = true := fun i o ho => by
    have := hall i (Array.getElem?_eq_some_iff.1 ho).1
    simp only [drawnOne, ho, Bool.and_eq_true] at this
    exact this
  have hlow : ∀ i o, ops[i]? = some o → ∀ e, e ∈ o.after → Region.binds .any e = true → e.on < i := fun i o ho e he hb => by
    have := (hone i o ho).1
    rw [Array.all_eq_true_iff_forall_mem] at this
    have := this e he
    simpa [hb] using this
  have hdst : ∀ i o, i < n → ops[i]? = some o → o.dst = some (D.getD i 0) := fun i o hi ho => by
    have := (hone i o ho).2
    rw [if_pos hi] at this
    exact eq_of_beq this
  have htl : ∀ i o, n ≤ i → ops[i]? = some o → ∀ j, j < i → (o.after.any fun e => e.on == j && Region.binds .any e) = true := fun i o hi ho j hj => by
    have := (hone i o ho).2
    rw [if_neg (by omega), List.all_eq_true] at this
    exact this j (List.mem_range.2 hj)
  have hDm : ∀ i, i < n → D.getD i 0 ∈ D := fun i hi => by
    rw [List.getD_eq_getElem?_getD, List.getElem?_eq_getElem (by omega)]; exact List.getElem_mem _
  have hDz : ∀ i, i < n → D.getD i 0 < a0.tmps.size := fun i hi => by rw [hsz]; exact hDs _ (hDm i hi)
  have hys : ∀ (a : Act) (l : Array Bool) (w : World), RegF ops n D Φ a0 w0 l a w → a = ⟨setM a0.tmps D (D.map fun d => a.tmps.getD d undef), a0.defers⟩ ∧ (D.map fun d => a.tmps.getD d undef).length = n ∧ ∀ j, j < n → (D.map fun d => a.tmps.getD d undef).getD j undef = a.tmps.getD (D.getD j 0) undef := fun a l w h => by
    refine ⟨?_, by simpa using hD, fun j hj => ?_⟩
    · have e1 := frame_set D a0.tmps a.tmps h.tsz h.kept
      have e2 := h.defers
      obtain ⟨t, d⟩ := a
      dsimp only at e1 e2 ⊢
      rw [← e1, e2]
    · rw [List.getD_eq_getElem?_getD, List.getElem?_map, List.getD_eq_getElem?_getD, List.getElem?_eq_getElem (by omega)]
      rfl
  have htailS : ∀ (l : Array Bool) (a : Act) (w : World) (k : Nat), l.size = ops.size → n ≤ k → k < ops.size → (∀ j, j < k → l.getD j false = true) → (∀ j, k ≤ j → l.getD j false = false) → wpList P ops Q (ops.toList.drop k) a w →
      wpOp P ops Q k (fun a' w' => (l.setIfInBounds k true).size = ops.size ∧ (((∀ j, n ≤ j → (l.setIfInBounds k true).getD j false = false) ∧ RegF ops n D Φ a0 w0 (l.setIfInBounds k true) a' w') ∨ ∃ k', n ≤ k' ∧ k' ≤ ops.size ∧ (∀ j, j < k' → (l.setIfInBounds k true).getD j false = true) ∧ (∀ j, k' ≤ j → (l.setIfInBounds k true).getD j false = false) ∧ wpList P ops Q (ops.toList.drop k') a' w')) a w := fun l a w k hs hnk hk h1 h2 hw => by
    have ho : ops[k]? = some ops[k] := Array.getElem?_eq_getElem hk
    refine wpOp_mono (K := wpList P ops Q (ops.toList.drop (k + 1))) (fun a' w' hq => ⟨by simpa using hs, .inr ⟨k + 1, by omega, by omega, fun j hj => ?_, fun j hj => ?_, hq⟩⟩) ?_
    · rw [getD_lset l k j (by omega)]
      split
      · rfl
      · exact h1 j (by omega)
    · rw [getD_lset l k j (by omega), if_neg (by omega)]
      exact h2 j (by omega)
    · rw [List.drop_eq_getElem_cons (by simpa using hk)] at hw
      unfold wpOp
      simp only [ho]
      have he : ops.toList[k]'(by simpa using hk) = ops[k] := by simp
      rw [he] at hw
      exact hw
  refine wp_region_any hm (wpAny_inv (fun l a' w' => l.size = ops.size ∧ (((∀ j, n ≤ j → l.getD j false = false) ∧ RegF ops n D Φ a0 w0 l a' w') ∨ ∃ k, n ≤ k ∧ k ≤ ops.size ∧ (∀ j, j < k → l.getD j false = true) ∧ (∀ j, k ≤ j → l.getD j false = false) ∧ wpList P ops Q (ops.toList.drop k) a' w')) (fun l a' w' h => h.1) ?_ ?_ _ _ _ _ ?_ (Nat.le_trans List.count_le_length (by simp)))
  · rintro l a' w' i ⟨hs, h⟩ hi
    obtain ⟨h1, h2, h3⟩ := ready_iff hi
    have ho : ops[i]? = some ops[i] := Array.getElem?_eq_getElem h1
    have hli : l.getD i false = false := by
      rw [Array.getD_eq_getD_getElem?, Array.getElem?_eq_getElem (by omega)] at h2 ⊢
      exact h2
    rcases h with ⟨hn0, h⟩ | ⟨k, hk1, hk2, hk3, hk4, hk5⟩
    · obtain ⟨ea, hlen, hget⟩ := hys a' l w' h
      by_cases hin : i < n
      · have hdep : ∀ j, j < n → (ops[i].after.any fun e => e.on == j && Region.binds .any e) = true → Φ j ((D.map fun d => a'.tmps.getD d undef).getD j undef) w' := fun j hj hd => by
          rw [hget j hj]
          exact h.done j hj (deps_of (h3 _ ho) j hd)
        have := hstep i _ hin ho _ w' hlen h.below hdep
        rw [← ea] at this
        have hput : ∀ v w'', Below w'.heap.size w' w'' → Φ i v w'' → (l.setIfInBounds i true).size = ops.size ∧ (((∀ j, n ≤ j → (l.setIfInBounds i true).getD j false = false) ∧ RegF ops n D Φ a0 w0 (l.setIfInBounds i true) (a'.put ops[i].dst v) w'') ∨ ∃ k, n ≤ k ∧ k ≤ ops.size ∧ (∀ j, j < k → (l.setIfInBounds i true).getD j false = true) ∧ (∀ j, k ≤ j → (l.setIfInBounds i true).getD j false = false) ∧ wpList P ops Q (ops.toList.drop k) (a'.put ops[i].dst v) w'') := fun v w'' hb hv => by
          refine ⟨by simpa using hs, .inl ⟨fun j hj => ?_, ?_⟩⟩
          · rw [getD_lset l i j (by omega), if_neg (by omega)]
            exact hn0 j hj
          · rw [hdst i _ hin ho]
            refine ⟨h.defers, by simpa [Act.put] using h.tsz, fun j hj => ?_, fun j hj hl => ?_, h.below.trans (hb.mono h.below.size)⟩
            · show (a'.tmps.setIfInBounds (D.getD i 0) v).getD j undef = a0.tmps.getD j undef
              rw [getD_set_other (fun e => hj (by rw [e]; exact hDm i hin))]
              exact h.kept j hj
            · show Φ j ((a'.tmps.setIfInBounds (D.getD i 0) v).getD (D.getD j 0) undef) w''
              by_cases e : j = i
              · subst e
                rw [getD_set_same (by rw [h.tsz]; exact hDz j hj)]; exact hv
              · rw [getD_set_other (nodupB_ne D hnd i j (by omega) (by omega) e)]
                refine mono j _ w' w'' hb (h.done j hj ?_)
                rw [getD_lset l i j (by omega), if_neg (fun e' => e e'.symm)] at hl
                exact hl
        unfold wpList at this
        unfold wpOp
        simp only [ho]
        split at this
        · rename_i hw
          rw [if_pos hw]
          rcases this with h4 | ⟨_, a2, w2, h5, _⟩
          · refine .inl (oper_lift (fun a'' w'' hq => ?_) (fun e a'' w'' hne hq => ?_) h4)
            · obtain ⟨_, v, rfl, hb, hv⟩ := hq
              exact hput v w'' hb hv
            · exact absurd hq.1 hne
          · cases h5
        · rename_i hw
          rw [if_neg hw]
          obtain ⟨_, v, e2, hb, hv⟩ := this
          rw [e2]
          exact hput v w' hb hv
      · have hall' : ∀ j, j < i → l.getD j false = true := fun j hj => deps_of (h3 _ ho) j (htl i _ (by omega) ho j hj)
        have hin : i = n := by
          rcases Nat.lt_or_ge n i with e | e
          · have := hall' n e
            rw [hn0 n (Nat.le_refl _)] at this; cases this
          · omega
        subst hin
        have hw := htail _ w' hlen h.below fun j hj => by rw [hget j hj]; exact h.done j hj (hall' j hj)
        rw [← ea] at hw
        exact htailS l a' w' i hs (Nat.le_refl _) h1 hall' hn0 hw
    · have hik : i = k := by
        have hge : k ≤ i := by
          rcases Nat.lt_or_ge i k with e | e
          · rw [hk3 i e] at hli; cases hli
          · exact e
        rcases Nat.lt_or_ge k i with e | e
        · have := deps_of (h3 _ ho) k (htl i _ (by omega) ho k e)
          rw [hk4 k (Nat.le_refl _)] at this; cases this
        · omega
      subst hik
      exact htailS l a' w' i hs hk1 h1 hk3 hk4 hk5
  · rintro l a' w' ⟨hs, h⟩ hr
    have hal := all_listed hlow hs hr
    rcases h with ⟨hn0, h⟩ | ⟨k, hk1, hk2, hk3, hk4, hk5⟩
    · obtain ⟨ea, hlen, hget⟩ := hys a' l w' h
      have hne : n = ops.size := by
        rcases Nat.lt_or_ge n ops.size with e | e
        · have := hal n e
          rw [hn0 n (Nat.le_refl _)] at this; cases this
        · omega
      have hw := htail _ w' hlen h.below fun j hj => by rw [hget j hj]; exact h.done j hj (hal j (by omega))
      rw [← ea, List.drop_of_length_le (by simp; omega)] at hw
      exact hw
    · have hke : k = ops.size := by
        rcases Nat.lt_or_ge k ops.size with e | e
        · have := hal k e
          rw [hk4 k (Nat.le_refl _)] at this; cases this
        · omega
      rw [List.drop_of_length_le (by simp; omega)] at hk5
      exact hk5
  · refine ⟨by simp, .inl ⟨fun j hj => ?_, rfl, rfl, fun j hj => rfl, fun i hi hl => ?_, ⟨rfl, rfl, rfl, Nat.le_refl _, fun _ _ => rfl⟩⟩⟩
    · rw [Array.getD_eq_getD_getElem?, Array.getElem?_replicate]
      split <;> rfl
    · rw [Array.getD_eq_getD_getElem?, Array.getElem?_replicate] at hl
      split at hl <;> cases hl
/-- .. with a store among its operations (number n), behind which some of them (late) may still come, and a tail behind all. -/
def drawnOne2 (ops : Array Oper) (n : Nat) (D late : List Nat) (i : Nat) : Bool := match ops[i]? with
  | none => false
  | some o => (o.after.all fun e => !(Region.binds .any e) || decide (e.on < i)) && (if i < n then o.dst == some (D.getD i 0) else if i = n then (o.dst == none) && o.guard.isNone && ((List.range n).all fun j => late.contains j || o.after.any fun e => e.on == j && Region.binds .any e) else (List.range i).all fun j => o.after.any fun e => e.on == j && Region.binds .any e)
def drawnOK2 (ops : Array Oper) (n sz : Nat) (D late : List Nat) : Bool :=
  decide (D.length = n) && decide (n < ops.size) && (D.all fun d => decide (d < sz)) && nodupB D && (List.range ops.size).all (drawnOne2 ops n D late)
def StoP (n : Nat) (Φ : Bool → Nat → Value → World → Prop) (a : Act) (ys : List Value) (w0 w : World) (e : Exit) (a' : Act) (w' : World) : Prop := e = .normal ∧ a' = a ∧ Below w0.heap.size w0 w' ∧ ∀ j, j < n → Φ false j (ys.getD j undef) w → Φ true j (ys.getD j undef) w'
theorem wp_region_drawn2 {id : Nat} {a0 : Act} {w0 : World} (hm : P.follows .mixedOrders = true) (n sz : Nat) (D late : List Nat) (Φ : Bool → Nat → Value → World → Prop) (hsz : a0.tmps.size = sz) (hchk : drawnOK2 ops n sz D late = true)
    (mono : ∀ s j v w w', Below w.heap.size w w' → Φ s j v w → Φ s j v w')
    (hstep : ∀ i o, i < n → ops[i]? = some o → ∀ (ys : List Value) (w : World), ys.length = n → Below w0.heap.size w0 w → (∀ j, j < n → (o.after.any fun e => e.on == j && Region.binds .any e) = true → Φ false j (ys.getD j undef) w) → wpList P ops (OneP (Φ false) ⟨setM a0.tmps D ys, a0.defers⟩ w o.dst i) [o] ⟨setM a0.tmps D ys, a0.defers⟩ w)
    (hlate : ∀ i o, i ∈ late → i < n → ops[i]? = some o → ∀ (ys : List Value) (w : World), ys.length = n → Below w0.heap.size w0 w → (∀ j, j < n → (o.after.any fun e => e.on == j && Region.binds .any e) = true → Φ true j (ys.getD j undef) w) → wpList P ops (OneP (Φ true) ⟨setM a0.tmps D ys, a0.defers⟩ w o.dst i) [o] ⟨setM a0.tmps D ys, a0.defers⟩ w)
    (hstore : ∀ o, ops[n]? = some o → ∀ (ys : List Value) (w : World), ys.length = n → Below w0.heap.size w0 w → (∀ j, j < n → (o.after.any fun e => e.on == j && Region.binds .any e) = true → Φ false j (ys.getD j undef) w) → wpList P ops (StoP n Φ ⟨setM a0.tmps D ys, a0.defers⟩ ys w0 w) [o] ⟨setM a0.tmps D ys, a0.defers⟩ w)
    (htail : ∀ (ys : List Value) (w : World), ys.length = n → Below w0.heap.size w0 w → (∀ j, j < n → Φ true j (ys.getD j undef) w) → wpList P ops Q (ops.toList.drop (n + 1)) ⟨setM a0.tmps D ys, a0.defers⟩ w) :
    (Code.region id ops true).wp P Q a0 w0 := by
  simp only [drawnOK2, Bool.and_eq_true, decide_eq_true_eq, List.all_eq_true, List.mem_range] at hchk
  obtain ⟨⟨⟨⟨hD, hn⟩, hDs⟩, hnd⟩, hall⟩ := hchk
  have hone : ∀ i o, ops[i]? = some o → (o.after.all fun e => !(Region.binds .any e) || decide (e.on < i)) = true ∧ (if i < n then o.dst == some (D.getD i 0) else if i = n then (o.dst == none) && o.guard.isNone && ((List.range n).all fun j => late.contains j || o.after.any fun e => e.on == j && Region.binds .any e) else (List.range i).all fun j => o.after.any fun e => e.on == j && Region.binds .any e) = true := fun i o ho => by
    have := hall i (Array.getElem?_eq_some_iff.1 ho).1
    simp only [drawnOne2, ho, Bool.and_eq_true] at this
    exact this
  have hlow : ∀ i o, ops[i]? = some o → ∀ e, e ∈ o.after → Region.binds .any e = true → e.on < i := fun i o ho e he hb => by
    have := (hone i o ho).1
    rw [Array.all_eq_true_iff_forall_mem] at this
    have := this e he
    simpa [hb] using this
  have hdst : ∀ i o, i < n → ops[i]? = some o → o.dst = some (D.getD i 0) := fun i o hi ho => by
    have := (hone i o ho).2
    rw [if_pos hi] at this
    exact eq_of_beq this
  have hsto : ∀ o, ops[n]? = some o → o.dst = none ∧ o.guard = none ∧ ∀ j, j < n → j ∉ late → (o.after.any fun e => e.on == j && Region.binds .any e) = true := fun o ho => by
    have := (hone n o ho).2
    rw [if_neg (by omega), if_pos rfl] at this
    simp only [Bool.and_eq_true, List.all_eq_true, List.mem_range, Bool.or_eq_true] at this
    refine ⟨eq_of_beq this.1.1, by simpa using this.1.2, fun j hj hl => ?_⟩
    rcases this.2 j hj with h | h
    · exact absurd (by simpa using h) hl
    · exact h
  have htl : ∀ i o, n < i → ops[i]? = some o → ∀ j, j < i → (o.after.any fun e => e.on == j && Region.binds .any e) = true := fun i o hi ho j hj => by
    have := (hone i o ho).2
    rw [if_neg (by omega), if_neg (by omega), List.all_eq_true] at this
    exact this j (List.mem_range.2 hj)
  have hDm : ∀ i, i < n → D.getD i 0 ∈ D := fun i hi => by
    rw [List.getD_eq_getElem?_getD, List.getElem?_eq_getElem (by omega)]; exact List.getElem_mem _
  have hDz : ∀ i, i < n → D.getD i 0 < a0.tmps.size := fun i hi => by rw [hsz]; exact hDs _ (hDm i hi)
  have hys : ∀ (s : Bool) (a : Act) (l : Array Bool) (w : World), RegF ops n D (Φ s) a0 w0 l a w → a = ⟨setM a0.tmps D (D.map fun d => a.tmps.getD d undef), a0.defers⟩ ∧ (D.map fun d => a.tmps.getD d undef).length = n ∧ ∀ j, j < n → (D.map fun d => a.tmps.getD d undef).getD j undef = a.tmps.getD (D.getD j 0) undef := fun s a l w h => by
    refine ⟨?_, by simpa using hD, fun j hj => ?_⟩
    · have e1 := frame_set D a0.tmps a.tmps h.tsz h.kept
      have e2 := h.defers
      obtain ⟨t, d⟩ := a
      dsimp only at e1 e2 ⊢
      rw [← e1, e2]
    · rw [List.getD_eq_getElem?_getD, List.getElem?_map, List.getD_eq_getElem?_getD, List.getElem?_eq_getElem (by omega)]
      rfl
  have main : ∀ (I : Array Bool → Act → World → Prop), (I = fun l a' w' => l.size = ops.size ∧ (((∀ j, n ≤ j → l.getD j false = false) ∧ RegF ops n D (Φ false) a0 w0 l a' w') ∨ (l.getD n false = true ∧ (∀ j, n < j → l.getD j false = false) ∧ (∀ j, j < n → j ∉ late → l.getD j false = true) ∧ RegF ops n D (Φ true) a0 w0 l a' w') ∨ ∃ k, n < k ∧ k ≤ ops.size ∧ (∀ j, j < k → l.getD j false = true) ∧ (∀ j, k ≤ j → l.getD j false = false) ∧ wpList P ops Q (ops.toList.drop k) a' w')) → (Code.region id ops true).wp P Q a0 w0 := fun I hI => by
    have told : ∀ (s : Bool) (l : Array Bool) (a' : Act) (w' : World) (i : Nat) (o : Oper), ops[i]? = some o → l.size = ops.size → i < n → RegF ops n D (Φ s) a0 w0 l a' w' → (∀ e, e ∈ o.after → Region.binds .any e = true → l.getD e.on false = true) →
        (∀ (ys : List Value) (w : World), ys.length = n → Below w0.heap.size w0 w → (∀ j, j < n → (o.after.any fun e => e.on == j && Region.binds .any e) = true → Φ s j (ys.getD j undef) w) → wpList P ops (OneP (Φ s) ⟨setM a0.tmps D ys, a0.defers⟩ w o.dst i) [o] ⟨setM a0.tmps D ys, a0.defers⟩ w) →
        (∀ a'' w'', RegF ops n D (Φ s) a0 w0 (l.setIfInBounds i true) a'' w'' → I (l.setIfInBounds i true) a'' w'') → wpOp P ops Q i (I (l.setIfInBounds i true)) a' w' := fun s l a' w' i o ho hs hin h h3 hst hfin => by
      obtain ⟨ea, hlen, hget⟩ := hys s a' l w' h
      have hdep : ∀ j, j < n → (o.after.any fun e => e.on == j && Region.binds .any e) = true → Φ s j ((D.map fun d => a'.tmps.getD d undef).getD j undef) w' := fun j hj hd => by
        rw [hget j hj]
        exact h.done j hj (deps_of h3 j hd)
      have h1 : i < ops.size := (Array.getElem?_eq_some_iff.1 ho).1
      have := hst _ w' hlen h.below hdep
      rw [← ea] at this
      have hput : ∀ v w'', Below w'.heap.size w' w'' → Φ s i v w'' → I (l.setIfInBounds i true) (a'.put o.dst v) w'' := fun v w'' hb hv => by
        refine hfin _ _ ?_
        rw [hdst i _ hin ho]
        refine ⟨h.defers, by simpa [Act.put] using h.tsz, fun j hj => ?_, fun j hj hl => ?_, h.below.trans (hb.mono h.below.size)⟩
        · show (a'.tmps.setIfInBounds (D.getD i 0) v).getD j undef = a0.tmps.getD j undef
          rw [getD_set_other (fun e => hj (by rw [e]; exact hDm i hin))]
          exact h.kept j hj
        · show Φ s j ((a'.tmps.setIfInBounds (D.getD i 0) v).getD (D.getD j 0) undef) w''
          by_cases e : j = i
          · subst e
            rw [getD_set_same (by rw [h.tsz]; exact hDz j hj)]; exact hv
          · rw [getD_set_other (nodupB_ne D hnd i j (by omega) (by omega) e)]
            refine mono s j _ w' w'' hb (h.done j hj ?_)
            rw [getD_lset l i j (by omega), if_neg (fun e' => e e'.symm)] at hl
            exact hl
      unfold wpList at this
      unfold wpOp
      simp only [ho]
      split at this
      · rename_i hw
        rw [if_pos hw]
        rcases this with h4 | ⟨_, a2, w2, h5, _⟩
        · refine .inl (oper_lift (fun a'' w'' hq => ?_) (fun e a'' w'' hne hq => ?_) h4)
          · obtain ⟨_, v, rfl, hb, hv⟩ := hq
            exact hput v w'' hb hv
          · exact absurd hq.1 hne
        · cases h5
      · rename_i hw
        rw [if_neg hw]
        obtain ⟨_, v, e2, hb, hv⟩ := this
        rw [e2]
        exact hput v w' hb hv
    have htailS : ∀ (l : Array Bool) (a : Act) (w : World) (k : Nat), l.size = ops.size → n < k → k < ops.size → (∀ j, j < k → l.getD j false = true) → (∀ j, k ≤ j → l.getD j false = false) → wpList P ops Q (ops.toList.drop k) a w → wpOp P ops Q k (I (l.setIfInBounds k true)) a w := fun l a w k hs hnk hk h1 h2 hw => by
      have ho : ops[k]? = some ops[k] := Array.getElem?_eq_getElem hk
      refine wpOp_mono (K := wpList P ops Q (ops.toList.drop (k + 1))) (fun a' w' hq => by rw [hI]; exact ⟨by simpa using hs, .inr (.inr ⟨k + 1, by omega, by omega, fun j hj => by
        rw [getD_lset l k j (by omega)]
        split
        · rfl
        · exact h1 j (by omega), fun j hj => by
        rw [getD_lset l k j (by omega), if_neg (by omega)]
        exact h2 j (by omega), hq⟩)⟩) ?_
      rw [List.drop_eq_getElem_cons (by simpa using hk)] at hw
      unfold wpOp
      simp only [ho]
      have he : ops.toList[k]'(by simpa using hk) = ops[k] := by simp
      rw [he] at hw
      exact hw
    refine wp_region_any hm (wpAny_inv I (fun l a' w' h => by rw [hI] at h; exact h.1) ?_ ?_ _ _ _ _ ?_ (Nat.le_trans List.count_le_length (by simp)))
    · intro l a' w' i hinv hi
      rw [hI] at hinv
      obtain ⟨hs, h⟩ := hinv
      obtain ⟨h1, h2, h3⟩ := ready_iff hi
      have ho : ops[i]? = some ops[i] := Array.getElem?_eq_getElem h1
      have hli : l.getD i false = false := by
        rw [Array.getD_eq_getD_getElem?, Array.getElem?_eq_getElem (by omega)] at h2 ⊢
        exact h2
      have h3' := h3 _ ho
      rcases h with ⟨hn0, h⟩ | ⟨hnt, hn1, hnl, h⟩ | ⟨k, hk1, hk2, hk3, hk4, hk5⟩
      · by_cases hin : i < n
        · refine told false l a' w' i _ ho hs hin h h3' (hstep i _ hin ho) fun a'' w'' hr => ?_
          rw [hI]
          refine ⟨by simpa using hs, .inl ⟨fun j hj => ?_, hr⟩⟩
          rw [getD_lset l i j (by omega), if_neg (by omega)]
          exact hn0 j hj
        · have hin : i = n := by
            rcases Nat.lt_or_ge n i with e | e
            · have := deps_of h3' n (htl i _ e ho n e)
              rw [hn0 n (Nat.le_refl _)] at this; cases this
            · omega
          subst hin
          obtain ⟨ea, hlen, hget⟩ := hys false a' l w' h
          obtain ⟨hd0, hg0, hdeps⟩ := hsto _ ho
          have := hstore _ ho _ w' hlen h.below fun j hj hd => by
            rw [hget j hj]
            exact h.done j hj (deps_of h3' j hd)
          rw [← ea] at this
          have hfin : ∀ a'' w'', StoP i Φ a' (D.map fun d => a'.tmps.getD d undef) w0 w' .normal a'' w'' → I (l.setIfInBounds i true) a'' w'' := fun a'' w'' hq => by
            obtain ⟨_, rfl, hb, hph⟩ := hq
            rw [hI]
            refine ⟨by simpa using hs, .inr (.inl ⟨by rw [getD_lset l i i (by omega), if_pos rfl], fun j hj => ?_, fun j hj hl' => ?_, ⟨h.defers, h.tsz, h.kept, fun j hj hl => ?_, hb⟩⟩)⟩
            · rw [getD_lset l i j (by omega), if_neg (by omega)]
              exact hn0 j (by omega)
            · rw [getD_lset l i j (by omega), if_neg (by omega)]
              exact deps_of h3' j (hdeps j hj hl')
            · rw [getD_lset l i j (by omega), if_neg (by omega)] at hl
              have := hph j hj (by rw [hget j hj]; exact h.done j hj hl)
              rw [hget j hj] at this
              exact this
          unfold wpList at this
          rw [if_pos (wanted_none hg0)] at this
          unfold wpOp
          simp only [ho]
          rw [if_pos (wanted_none hg0)]
          rcases this with h4 | ⟨_, a2, w2, h5, _⟩
          · exact .inl (oper_lift (fun a'' w'' hq => hfin a'' w'' hq) (fun e a'' w'' hne hq => absurd hq.1 hne) h4)
          · cases h5
      · by_cases hin : i < n
        · have hl : i ∈ late := by
            refine Classical.byContradiction fun hl => ?_
            rw [hnl i hin hl] at hli; cases hli
          refine told true l a' w' i _ ho hs hin h h3' (hlate i _ hl hin ho) fun a'' w'' hr => ?_
          rw [hI]
          refine ⟨by simpa using hs, .inr (.inl ⟨?_, fun j hj => ?_, fun j hj hl' => ?_, hr⟩)⟩
          · rw [getD_lset l i n (by omega), if_neg (by omega)]
            exact hnt
          · rw [getD_lset l i j (by omega), if_neg (by omega)]
            exact hn1 j hj
          · rw [getD_lset l i j (by omega)]
            split
            · rfl
            · exact hnl j hj hl'
        · have hne : i ≠ n := fun e => by rw [e, hnt] at hli; cases hli
          have hall' : ∀ j, j < i → l.getD j false = true := fun j hj => deps_of h3' j (htl i _ (by omega) ho j hj)
          have hin : i = n + 1 := by
            rcases Nat.lt_or_ge (n + 1) i with e | e
            · have := hall' (n + 1) e
              rw [hn1 (n + 1) (by omega)] at this; cases this
            · omega
          subst hin
          obtain ⟨ea, hlen, hget⟩ := hys true a' l w' h
          have hw := htail _ w' hlen h.below fun j hj => by rw [hget j hj]; exact h.done j hj (hall' j (by omega))
          rw [← ea] at hw
          exact htailS l a' w' (n + 1) hs (by omega) h1 hall' (fun j hj => hn1 j (by omega)) hw
      · have hik : i = k := by
          have hge : k ≤ i := by
            rcases Nat.lt_or_ge i k with e | e
            · rw [hk3 i e] at hli; cases hli
            · exact e
          rcases Nat.lt_or_ge k i with e | e
          · have := deps_of h3' k (htl i _ (by omega) ho k e)
            rw [hk4 k (Nat.le_refl _)] at this; cases this
          · omega
        subst hik
        exact htailS l a' w' i hs hk1 h1 hk3 hk4 hk5
    · intro l a' w' hinv hr
      rw [hI] at hinv
      obtain ⟨hs, h⟩ := hinv
      have hal := all_listed hlow hs hr
      rcases h with ⟨hn0, h⟩ | ⟨hnt, hn1, hnl, h⟩ | ⟨k, hk1, hk2, hk3, hk4, hk5⟩
      · have := hal n hn
        rw [hn0 n (Nat.le_refl _)] at this; cases this
      · obtain ⟨ea, hlen, hget⟩ := hys true a' l w' h
        have hne : n + 1 = ops.size := by
          rcases Nat.lt_or_ge (n + 1) ops.size with e | e
          · have := hal (n + 1) e
            rw [hn1 (n + 1) (by omega)] at this; cases this
          · omega
        have hw := htail _ w' hlen h.below fun j hj => by rw [hget j hj]; exact h.done j hj (hal j (by omega))
        rw [← ea, List.drop_of_length_le (by simp; omega)] at hw
        exact hw
      · have hke : k = ops.size := by
          rcases Nat.lt_or_ge k ops.size with e | e
          · have := hal k e
            rw [hk4 k (Nat.le_refl _)] at this; cases this
          · omega
        rw [List.drop_of_length_le (by simp; omega)] at hk5
        exact hk5
    · rw [hI]
      refine ⟨by simp, .inl ⟨fun j hj => ?_, rfl, rfl, fun j hj => rfl, fun i hi hl => ?_, ⟨rfl, rfl, rfl, Nat.le_refl _, fun _ _ => rfl⟩⟩⟩
      · rw [Array.getD_eq_getD_getElem?, Array.getElem?_replicate]
        split <;> rfl
      · rw [Array.getD_eq_getD_getElem?, Array.getElem?_replicate] at hl
        split at hl <;> cases hl
  exact main _ rfl
end Go.Proofs.YtajkdllakleakaaGreatDoor
