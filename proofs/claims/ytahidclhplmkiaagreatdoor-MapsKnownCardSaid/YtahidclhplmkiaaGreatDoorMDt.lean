/- Regions that draw: the operations on a frame that is not written out. -/
import Derived.Test.YtahidclhplmkiaaGreatDoorM14
namespace Go.Proofs.YtahidclhplmkiaaGreatDoor
open Go.RowKit
set_option linter.unusedVariables false
set_option linter.unusedSimpArgs false

variable {P : Program} {ops : Array Oper} {Q : Exit → Act → World → Prop}
theorem wpList_weak {Q' : Exit → Act → World → Prop} (h : ∀ e a w, Q' e a w → Q e a w) : ∀ (l : List Oper) {a : Act} {w : World}, wpList P ops Q' l a w → wpList P ops Q l a w
  | [], a, w, hh => h _ _ _ hh
  | o :: l, a, w, hh => by
    unfold wpList at hh ⊢
    split at hh
    · rename_i hw
      rw [if_pos hw]
      rcases hh with h4 | ⟨h5, a2, w2, h6⟩
      · exact .inl (oper_lift (fun a w hq => wpList_weak h l hq) (fun e a w _ hq => h e a w hq) h4)
      · exact .inr ⟨h5, a2, w2, h _ _ _ h6⟩
    · rename_i hw
      rw [if_neg hw]
      exact wpList_weak h l hh
theorem setM_other : ∀ (D : List Nat) (ys : List Value) (t : Array Value) (k : Nat), k ∉ D → (setM t D ys).getD k undef = t.getD k undef
  | [], _, t, k, _ => rfl
  | d :: D, [], t, k, _ => rfl
  | d :: D, y :: ys, t, k, h => by
    simp only [List.mem_cons, not_or] at h
    simp only [setM]
    rw [setM_other D ys _ k h.2, getD_set_other h.1]
theorem setM_size : ∀ (D : List Nat) (ys : List Value) (t : Array Value), (setM t D ys).size = t.size
  | [], _, t => rfl
  | d :: D, [], t => rfl
  | d :: D, y :: ys, t => by simp only [setM]; rw [setM_size D ys]; simp
theorem setM_at : ∀ (D : List Nat) (ys : List Value) (t : Array Value) (j : Nat), nodupB D = true → (∀ d, d ∈ D → d < t.size) → j < D.length → ys.length = D.length → (setM t D ys).getD (D.getD j 0) undef = ys.getD j undef
  | [], _, t, j, _, _, h, _ => absurd h (by simp)
  | d :: D, [], t, j, _, _, _, h => absurd h (by simp)
  | d :: D, y :: ys, t, j, hn, hb, hj, hl => by
    simp only [nodupB, Bool.and_eq_true, Bool.not_eq_true', List.contains_eq_mem, decide_eq_false_iff_not] at hn
    simp only [setM]
    cases j with
    | zero =>
      show (setM (t.setIfInBounds d y) D ys).getD d undef = y
      rw [setM_other D ys _ d hn.1, getD_set_same (hb d (List.mem_cons_self ..))]
    | succ j =>
      exact setM_at D ys _ j hn.2 (fun x hx => by simpa using hb x (List.mem_cons_of_mem _ hx)) (by simpa using hj) (by simpa using hl)
/-- .. the operations on a frame that is not written out: what is asked of it is told slot by slot. -/
def StoT (n : Nat) (D : List Nat) (Φ : Bool → Nat → Value → World → Prop) (T : Array Value) (a : Act) (w0 w : World) (e : Exit) (a' : Act) (w' : World) : Prop := e = .normal ∧ a' = a ∧ Below w0.heap.size w0 w' ∧ ∀ j, j < n → Φ false j (T.getD (D.getD j 0) undef) w → Φ true j (T.getD (D.getD j 0) undef) w'
theorem drawn_nd {ops : Array Oper} {n sz : Nat} {D : List Nat} (h : drawnOK ops n sz D = true) : D.length = n ∧ nodupB D = true ∧ ∀ d, d ∈ D → d < sz := by
  simp only [drawnOK, Bool.and_eq_true, decide_eq_true_eq, List.all_eq_true] at h
  exact ⟨h.1.1.1.1, h.1.2, h.1.1.2⟩
theorem drawn_nd2 {ops : Array Oper} {n sz : Nat} {D late : List Nat} (h : drawnOK2 ops n sz D late = true) : D.length = n ∧ nodupB D = true ∧ ∀ d, d ∈ D → d < sz := by
  simp only [drawnOK2, Bool.and_eq_true, decide_eq_true_eq, List.all_eq_true] at h
  exact ⟨h.1.1.1.1, h.1.2, h.1.1.2⟩
theorem wp_region_drawnT {id : Nat} {a0 : Act} {w0 : World} (hm : P.follows .mixedOrders = true) (n sz : Nat) (D : List Nat) (Φ : Nat → Value → World → Prop) (hsz : a0.tmps.size = sz) (hchk : drawnOK ops n sz D = true)
    (mono : ∀ j v w w', Below w.heap.size w w' → Φ j v w → Φ j v w')
    (hstep : ∀ (T : Array Value), (∀ k, k ∉ D → T.getD k undef = a0.tmps.getD k undef) → ∀ i o, i < n → ops[i]? = some o → ∀ (w : World), Below w0.heap.size w0 w → (∀ j, j < n → (o.after.any fun e => e.on == j && Region.binds .any e) = true → Φ j (T.getD (D.getD j 0) undef) w) → wpList P ops (OneP Φ ⟨T, a0.defers⟩ w o.dst i) [o] ⟨T, a0.defers⟩ w)
    (htail : ∀ (ys : List Value) (w : World), ys.length = n → Below w0.heap.size w0 w → (∀ j, j < n → Φ j (ys.getD j undef) w) → wpList P ops Q (ops.toList.drop n) ⟨setM a0.tmps D ys, a0.defers⟩ w) :
    (Code.region id ops true).wp P Q a0 w0 := by
  obtain ⟨hD, hnd, hDs⟩ := drawn_nd hchk
  refine wp_region_drawn hm n sz D Φ hsz hchk mono (fun i o hi ho ys w hys hb hdep => ?_) htail
  refine hstep _ (fun k hk => setM_other D ys _ k hk) i o hi ho w hb fun j hj hd => ?_
  rw [setM_at D ys _ j hnd (by rw [hsz]; exact hDs) (by omega) (by omega)]
  exact hdep j hj hd
theorem wp_region_drawnT2 {id : Nat} {a0 : Act} {w0 : World} (hm : P.follows .mixedOrders = true) (n sz : Nat) (D late : List Nat) (Φ : Bool → Nat → Value → World → Prop) (hsz : a0.tmps.size = sz) (hchk : drawnOK2 ops n sz D late = true)
    (mono : ∀ s j v w w', Below w.heap.size w w' → Φ s j v w → Φ s j v w')
    (hstep : ∀ (T : Array Value), (∀ k, k ∉ D → T.getD k undef = a0.tmps.getD k undef) → ∀ i o, i < n → ops[i]? = some o → ∀ (w : World), Below w0.heap.size w0 w → (∀ j, j < n → (o.after.any fun e => e.on == j && Region.binds .any e) = true → Φ false j (T.getD (D.getD j 0) undef) w) → wpList P ops (OneP (Φ false) ⟨T, a0.defers⟩ w o.dst i) [o] ⟨T, a0.defers⟩ w)
    (hlate : ∀ (T : Array Value), (∀ k, k ∉ D → T.getD k undef = a0.tmps.getD k undef) → ∀ i o, i ∈ late → i < n → ops[i]? = some o → ∀ (w : World), Below w0.heap.size w0 w → (∀ j, j < n → (o.after.any fun e => e.on == j && Region.binds .any e) = true → Φ true j (T.getD (D.getD j 0) undef) w) → wpList P ops (OneP (Φ true) ⟨T, a0.defers⟩ w o.dst i) [o] ⟨T, a0.defers⟩ w)
    (hstore : ∀ (T : Array Value), (∀ k, k ∉ D → T.getD k undef = a0.tmps.getD k undef) → ∀ o, ops[n]? = some o → ∀ (w : World), Below w0.heap.size w0 w → (∀ j, j < n → (o.after.any fun e => e.on == j && Region.binds .any e) = true → Φ false j (T.getD (D.getD j 0) undef) w) → wpList P ops (StoT n D Φ T ⟨T, a0.defers⟩ w0 w) [o] ⟨T, a0.defers⟩ w)
    (htail : ∀ (ys : List Value) (w : World), ys.length = n → Below w0.heap.size w0 w → (∀ j, j < n → Φ true j (ys.getD j undef) w) → wpList P ops Q (ops.toList.drop (n + 1)) ⟨setM a0.tmps D ys, a0.defers⟩ w) :
    (Code.region id ops true).wp P Q a0 w0 := by
  obtain ⟨hD, hnd, hDs⟩ := drawn_nd2 hchk
  have hat : ∀ (ys : List Value), ys.length = n → ∀ j, j < n → (setM a0.tmps D ys).getD (D.getD j 0) undef = ys.getD j undef := fun ys hys j hj => setM_at D ys _ j hnd (by rw [hsz]; exact hDs) (by omega) (by omega)
  refine wp_region_drawn2 hm n sz D late Φ hsz hchk mono (fun i o hi ho ys w hys hb hdep => ?_) (fun i o hl hi ho ys w hys hb hdep => ?_) (fun o ho ys w hys hb hdep => ?_) htail
  · refine hstep _ (fun k hk => setM_other D ys _ k hk) i o hi ho w hb fun j hj hd => ?_
    rw [hat ys hys j hj]
    exact hdep j hj hd
  · refine hlate _ (fun k hk => setM_other D ys _ k hk) i o hl hi ho w hb fun j hj hd => ?_
    rw [hat ys hys j hj]
    exact hdep j hj hd
  · have := hstore _ (fun k hk => setM_other D ys _ k hk) o ho w hb fun j hj hd => by
      rw [hat ys hys j hj]
      exact hdep j hj hd
    refine wpList_weak (fun e a' w' hq => ?_) _ this
    obtain ⟨h1, h2, h3, h4⟩ := hq
    refine ⟨h1, h2, h3, fun j hj h => ?_⟩
    have := h4 j hj (by rw [hat ys hys j hj]; exact h)
    rw [hat ys hys j hj] at this
    exact this
theorem wp_region_drawnF {id : Nat} {t0 : Array Value} {d0 : List Deferred} {w0 : World} (hm : P.follows .mixedOrders = true) (n sz : Nat) (D : List Nat) (Φ : Nat → Value → World → Prop) (hsz : t0.size = sz) (hchk : drawnOK ops n sz D = true)
    (mono : ∀ j v w w', Below w.heap.size w w' → Φ j v w → Φ j v w')
    (hstep : ∀ (T : Array Value), (∀ k, k ∉ D → T.getD k undef = t0.getD k undef) → ∀ i o, i < n → ops[i]? = some o → ∀ (w : World), Below w0.heap.size w0 w → (∀ j, j < n → (o.after.any fun e => e.on == j && Region.binds .any e) = true → Φ j (T.getD (D.getD j 0) undef) w) → wpList P ops (OneP Φ ⟨T, d0⟩ w o.dst i) [o] ⟨T, d0⟩ w)
    (htail : ∀ (ys : List Value) (w : World), ys.length = n → Below w0.heap.size w0 w → (∀ j, j < n → Φ j (ys.getD j undef) w) → wpList P ops Q (ops.toList.drop n) ⟨setM t0 D ys, d0⟩ w) :
    (Code.region id ops true).wp P Q ⟨t0, d0⟩ w0 :=
  wp_region_drawnT (a0 := ⟨t0, d0⟩) hm n sz D Φ hsz hchk mono hstep htail
theorem wp_region_drawnF2 {id : Nat} {t0 : Array Value} {d0 : List Deferred} {w0 : World} (hm : P.follows .mixedOrders = true) (n sz : Nat) (D late : List Nat) (Φ : Bool → Nat → Value → World → Prop) (hsz : t0.size = sz) (hchk : drawnOK2 ops n sz D late = true)
    (mono : ∀ s j v w w', Below w.heap.size w w' → Φ s j v w → Φ s j v w')
    (hstep : ∀ (T : Array Value), (∀ k, k ∉ D → T.getD k undef = t0.getD k undef) → ∀ i o, i < n → ops[i]? = some o → ∀ (w : World), Below w0.heap.size w0 w → (∀ j, j < n → (o.after.any fun e => e.on == j && Region.binds .any e) = true → Φ false j (T.getD (D.getD j 0) undef) w) → wpList P ops (OneP (Φ false) ⟨T, d0⟩ w o.dst i) [o] ⟨T, d0⟩ w)
    (hlate : ∀ (T : Array Value), (∀ k, k ∉ D → T.getD k undef = t0.getD k undef) → ∀ i o, i ∈ late → i < n → ops[i]? = some o → ∀ (w : World), Below w0.heap.size w0 w → (∀ j, j < n → (o.after.any fun e => e.on == j && Region.binds .any e) = true → Φ true j (T.getD (D.getD j 0) undef) w) → wpList P ops (OneP (Φ true) ⟨T, d0⟩ w o.dst i) [o] ⟨T, d0⟩ w)
    (hstore : ∀ (T : Array Value), (∀ k, k ∉ D → T.getD k undef = t0.getD k undef) → ∀ o, ops[n]? = some o → ∀ (w : World), Below w0.heap.size w0 w → (∀ j, j < n → (o.after.any fun e => e.on == j && Region.binds .any e) = true → Φ false j (T.getD (D.getD j 0) undef) w) → wpList P ops (StoT n D Φ T ⟨T, d0⟩ w0 w) [o] ⟨T, d0⟩ w)
    (htail : ∀ (ys : List Value) (w : World), ys.length = n → Below w0.heap.size w0 w → (∀ j, j < n → Φ true j (ys.getD j undef) w) → wpList P ops Q (ops.toList.drop (n + 1)) ⟨setM t0 D ys, d0⟩ w) :
    (Code.region id ops true).wp P Q ⟨t0, d0⟩ w0 :=
  wp_region_drawnT2 (a0 := ⟨t0, d0⟩) hm n sz D late Φ hsz hchk mono hstep hlate hstore htail
theorem wanted_false {o : Oper} {tmps : Array Value} {j d : Nat} (h : o.guard = some (j, false)) (hj : (ops[j]?).bind (·.dst) = some d) (he : tmps.getD d undef = .bool false) : Region.wanted o (yielded ops tmps) = true := by
  have : yielded ops tmps j = some false := by
    unfold yielded
    rw [hj]
    simp only [Option.bind_some]
    rw [Array.getD_eq_getD_getElem?] at he
    cases hq : tmps[d]? with
    | none => rw [hq] at he; simp [undef] at he
    | some x => rw [hq] at he; simp only [Option.getD_some] at he; subst he; rfl
  simp [Region.wanted, h, this]
/-- A guarded operation whose guard holds is as one with no guard. -/
theorem wpList_guard {o o' : Oper} {a : Act} {w : World} (hw : Region.wanted o (yielded ops a.tmps) = true) (ho : o' = { o with guard := none }) (h : wpList P ops Q [o'] a w) : wpList P ops Q [o] a w := by
  subst ho
  unfold wpList at h ⊢
  rw [if_pos hw]
  rw [if_pos (wanted_none rfl)] at h
  exact h
end Go.Proofs.YtahidclhplmkiaaGreatDoor
