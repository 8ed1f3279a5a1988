/- A region that draws its order: one proof an operation, whatever the order. What each operation leaves is told by a property that new memory does not turn. -/
import Derived.Below
import Derived.Orders
import Derived.WalkKit
namespace Go.Proofs.YtajkdllakleakaaGreatDoor
open Go.RowKit
set_option linter.unusedVariables false
set_option linter.unusedSimpArgs false

theorem ready_iff {md : Region.Mode} {ops : Array Oper} {l : Array Bool} {i : Nat} (h : i ∈ Region.ready md ops l) :
    i < ops.size ∧ l.getD i true = false ∧ ∀ o, ops[i]? = some o → ∀ e, e ∈ o.after → Region.binds md e = true → l.getD e.on false = true := by
  unfold Region.ready at h
  rw [List.mem_filter] at h
  obtain ⟨h1, h2⟩ := h
  rw [List.mem_range] at h1
  simp only [Bool.and_eq_true, Bool.not_eq_true'] at h2
  refine ⟨h1, h2.1, fun o ho e he hb => ?_⟩
  have h3 := h2.2
  rw [ho] at h3
  simp only [Option.map_some, Option.getD_some, Array.all_eq_true_iff_forall_mem] at h3
  have := h3 e he
  simpa [hb] using this

theorem ready_nil {md : Region.Mode} {ops : Array Oper} {l : Array Bool} (hs : l.size = ops.size) (h : l.toList.count false = 0) : Region.ready md ops l = [] := by
  rw [List.eq_nil_iff_forall_not_mem]
  intro i hi
  obtain ⟨h1, h2, _⟩ := ready_iff hi
  have hm : false ∈ l.toList := by
    rw [Array.getD_eq_getD_getElem?, Array.getElem?_eq_getElem (by omega)] at h2
    simp only [Option.getD_some] at h2
    rw [← h2]; simp
  exact absurd (List.count_pos_iff.2 hm) (by omega)

theorem count_set {l : Array Bool} {i : Nat} (h : l.getD i true = false) : (l.setIfInBounds i true).toList.count false + 1 = l.toList.count false := by
  have hi : i < l.size := by
    rcases Nat.lt_or_ge i l.size with e | e
    · exact e
    · rw [Array.getD_eq_getD_getElem?, Array.getElem?_eq_none e] at h; simp at h
  rw [Array.getD_eq_getD_getElem?, Array.getElem?_eq_getElem hi] at h
  simp only [Option.getD_some] at h
  have hm : false ∈ l.toList := by rw [← h]; simp
  have hp := List.count_pos_iff.2 hm
  have e := List.count_set (b := false) (a := true) (l := l.toList) (i := i) (by simpa using hi)
  rw [Array.toList_setIfInBounds, e]
  have h' : l.toList[i]'(by simpa using hi) = false := by simpa using h
  rw [h']
  have e2 : (if (true == false) = true then 1 else 0) = 0 := rfl
  have e3 : (if (false == false) = true then 1 else 0) = 1 := rfl
  rw [e2, e3]
  omega

variable {P : Program} {md : Region.Mode} {ops : Array Oper} {Q : Exit → Act → World → Prop}

theorem wpAny_inv (Inv : Array Bool → Act → World → Prop) (hsz : ∀ l a w, Inv l a w → l.size = ops.size)
    (hstep : ∀ l a w i, Inv l a w → i ∈ Region.ready md ops l → wpOp P ops Q i (fun a' w' => Inv (l.setIfInBounds i true) a' w') a w)
    (hdone : ∀ l a w, Inv l a w → Region.ready md ops l = [] → Q .normal a w) :
    ∀ (fuel : Nat) (l : Array Bool) (a : Act) (w : World), Inv l a w → l.toList.count false ≤ fuel → wpAny P md ops Q fuel l a w
  | 0, l, a, w, h, hc => by
    have hn := ready_nil (md := md) (hsz _ _ _ h) (by omega)
    exact ⟨hn, hdone l a w h hn⟩
  | fuel + 1, l, a, w, h, hc => by
    refine ⟨fun hn => hdone l a w h hn, fun i hi => ?_⟩
    refine wpOp_mono (fun a' w' h' => wpAny_inv Inv hsz hstep hdone fuel _ a' w' h' ?_) (hstep l a w i h hi)
    have := count_set (ready_iff hi).2.1
    omega

theorem all_listed {l : Array Bool} (hlow : ∀ i o, ops[i]? = some o → ∀ e, e ∈ o.after → Region.binds md e = true → e.on < i) (hs : l.size = ops.size) (hr : Region.ready md ops l = []) :
    ∀ i, i < ops.size → l.getD i false = true := by
  intro i
  induction i using Nat.strongRecOn with
  | _ i ih =>
    intro hi
    cases hb : l.getD i false with
    | true => rfl
    | false =>
      exfalso
      have hm : i ∈ Region.ready md ops l := by
        unfold Region.ready
        rw [List.mem_filter]
        refine ⟨List.mem_range.2 hi, ?_⟩
        have hb' : l.getD i true = false := by
          rw [Array.getD_eq_getD_getElem?, Array.getElem?_eq_getElem (by omega)] at hb ⊢
          exact hb
        rw [hb', Array.getElem?_eq_getElem hi]
        simp only [Bool.not_false, Bool.true_and, Option.map_some, Option.getD_some]
        rw [Array.all_eq_true_iff_forall_mem]
        intro e he
        cases hbe : Region.binds md e with
        | false => rfl
        | true =>
          have hlt := hlow i _ (Array.getElem?_eq_getElem hi) e he hbe
          simpa using ih e.on hlt (by omega)
      rw [hr] at hm
      cases hm

/-- What holds while a region is run in an order that is not known: what each operation that has come up left is as 'Φ' tells. -/
structure RegI (n : Nat) (dst : Nat → Nat) (Φ : Nat → Value → World → Prop) (keep : List (Nat × Value)) (sz : Nat) (w0 : World) (l : Array Bool) (a : Act) (w : World) : Prop where
  lsz : l.size = n
  defers : a.defers = []
  tsz : a.tmps.size = sz
  kept : ∀ p, p ∈ keep → a.tmps.getD p.1 undef = p.2
  done : ∀ i, i < n → l.getD i false = true → Φ i (a.tmps.getD (dst i) undef) w
  below : Below w0.heap.size w0 w

theorem getD_set_same {xs : Array Value} {d : Nat} {v : Value} (h : d < xs.size) : (xs.setIfInBounds d v).getD d undef = v := by
  rw [Array.getD_eq_getD_getElem?, Array.getElem?_setIfInBounds_self_of_lt h]; rfl
theorem getD_set_other {xs : Array Value} {d t : Nat} {v : Value} (h : t ≠ d) : (xs.setIfInBounds d v).getD t undef = xs.getD t undef := by
  rw [Array.getD_eq_getD_getElem?, Array.getD_eq_getD_getElem?, Array.getElem?_setIfInBounds_ne (fun e => h e.symm)]

theorem RegI.step {n : Nat} {dst : Nat → Nat} {Φ : Nat → Value → World → Prop} {keep : List (Nat × Value)} {sz : Nat} {w0 w w' : World} {l : Array Bool} {a : Act} {i : Nat} {v : Value}
    (h : RegI n dst Φ keep sz w0 l a w) (hi : i < n) (hd : dst i < sz) (hinj : ∀ j, j < n → j ≠ i → dst j ≠ dst i) (hk : ∀ p, p ∈ keep → p.1 ≠ dst i)
    (mono : ∀ j v w w', Below w.heap.size w w' → Φ j v w → Φ j v w') (hw : Below w.heap.size w w') (hv : Φ i v w') :
    RegI n dst Φ keep sz w0 (l.setIfInBounds i true) (a.put (some (dst i)) v) w' := by
  refine ⟨by simpa using h.lsz, h.defers, by simpa [Act.put] using h.tsz, fun p hp => ?_, fun j hj hl => ?_, h.below.trans (hw.mono h.below.size)⟩
  · show (a.tmps.setIfInBounds (dst i) v).getD p.1 undef = p.2
    rw [getD_set_other (hk p hp)]; exact h.kept p hp
  · show Φ j ((a.tmps.setIfInBounds (dst i) v).getD (dst j) undef) w'
    by_cases e : j = i
    · subst e
      rw [getD_set_same (by rw [h.tsz]; exact hd)]; exact hv
    · rw [getD_set_other (hinj j hj e)]
      refine mono j _ w w' hw (h.done j hj ?_)
      rw [Array.getD_eq_getD_getElem?] at hl ⊢
      rwa [Array.getElem?_setIfInBounds_ne (fun e' => e e'.symm)] at hl

/-- One operation: whatever has come up, it comes to a value of which Φ holds. -/
def StepOK (P : Program) (ops : Array Oper) (Q : Exit → Act → World → Prop) (n : Nat) (dst : Nat → Nat) (Φ : Nat → Value → World → Prop) (keep : List (Nat × Value)) (sz : Nat) (w0 : World) (i : Nat) (o : Oper) : Prop :=
  ∀ l a w, RegI n dst Φ keep sz w0 l a w → (∀ e, e ∈ o.after → Region.binds .any e = true → l.getD e.on false = true) →
    ∀ K : Act → World → Prop, (∀ v w', Below w.heap.size w w' → Φ i v w' → K (a.put o.dst v) w') →
      Region.wanted o (yielded ops a.tmps) = true ∧ Oper.wp P o a w K Q

theorem wp_region_told {id : Nat} {a : Act} {w : World} (hm : P.follows .mixedOrders = true) (n : Nat) (dst : Nat → Nat) (Φ : Nat → Value → World → Prop) (keep : List (Nat × Value)) (sz : Nat)
    (hlow : ∀ i o, ops[i]? = some o → ∀ e, e ∈ o.after → Region.binds .any e = true → e.on < i) (hn : ops.size = n) (hdst : ∀ i o, ops[i]? = some o → o.dst = some (dst i)) (hsz : ∀ i, i < n → dst i < sz) (hinj : ∀ i j, i < n → j < n → j ≠ i → dst j ≠ dst i) (hk : ∀ i, i < n → ∀ p, p ∈ keep → p.1 ≠ dst i)
    (mono : ∀ j v w w', Below w.heap.size w w' → Φ j v w → Φ j v w')
    (hstep : ∀ i o, ops[i]? = some o → StepOK P ops Q n dst Φ keep sz w i o)
    (hd : a.defers = []) (ht : a.tmps.size = sz) (hkeep : ∀ p, p ∈ keep → a.tmps.getD p.1 undef = p.2)
    (hdone : ∀ a' w', a'.defers = [] → a'.tmps.size = sz → (∀ p, p ∈ keep → a'.tmps.getD p.1 undef = p.2) → (∀ i, i < n → Φ i (a'.tmps.getD (dst i) undef) w') → Below w.heap.size w w' → Q .normal a' w') :
    (Code.region id ops true).wp P Q a w := by
  refine wp_region_any hm (wpAny_inv (fun l a' w' => RegI n dst Φ keep sz w l a' w') (fun l a' w' h => h.lsz.trans hn.symm) ?_ ?_ _ _ _ _ ?_ (Nat.le_trans List.count_le_length (by simp)))
  · intro l a' w' i h hi
    obtain ⟨h1, h2, h3⟩ := ready_iff hi
    have ho : ops[i]? = some ops[i] := Array.getElem?_eq_getElem h1
    obtain ⟨hw, hwp⟩ := hstep i _ ho l a' w' h (h3 _ ho) (fun a'' w'' => RegI n dst Φ keep sz w (l.setIfInBounds i true) a'' w'') (fun v w'' hb hv => by
      rw [hdst i _ ho]
      exact h.step (by omega) (hsz i (by omega)) (fun j hj e => hinj i j (by omega) hj e) (hk i (by omega)) mono hb hv)
    unfold wpOp
    simp only [ho, hw, if_true]
    exact .inl hwp
  · intro l a' w' h hr
    refine hdone a' w' h.defers h.tsz h.kept (fun i hi => h.done i hi ?_) h.below
    exact all_listed hlow (h.lsz.trans hn.symm) hr i (by omega)
  · exact ⟨by simp [hn], hd, ht, hkeep, fun i hi hl => by rw [Array.getD_eq_getD_getElem?] at hl; simp [hn, hi] at hl, ⟨rfl, rfl, rfl, Nat.le_refl _, fun _ _ => rfl⟩⟩

theorem deps_of {o : Oper} {l : Array Bool} (hl : ∀ e, e ∈ o.after → Region.binds .any e = true → l.getD e.on false = true) (k : Nat) (h : (o.after.any fun e => e.on == k && Region.binds .any e) = true) : l.getD k false = true := by
  rw [Array.any_eq_true] at h
  obtain ⟨j, hj, h⟩ := h
  simp only [Bool.and_eq_true, beq_iff_eq] at h
  have := hl o.after[j] (Array.getElem_mem hj) h.2
  rwa [h.1] at this
theorem wanted_none {o : Oper} {y : Nat → Option Bool} (h : o.guard = none) : Region.wanted o y = true := by simp [Region.wanted, h]
theorem wanted_true {o : Oper} {tmps : Array Value} {j d : Nat} (h : o.guard = some (j, true)) (hj : (ops[j]?).bind (·.dst) = some d) (he : tmps.getD d undef = .bool true) : Region.wanted o (yielded ops tmps) = true := by
  have : yielded ops tmps j = some true := by
    unfold yielded
    rw [hj]
    simp only [Option.bind_some]
    rw [Array.getD_eq_getD_getElem?] at he
    cases hq : tmps[d]? with
    | none => rw [hq] at he; simp [undef] at he
    | some x => rw [hq] at he; simp only [Option.getD_some] at he; subst he; rfl
  simp [Region.wanted, h, this]
theorem ow_value {o : Oper} {a : Act} {w w' : World} {K : Act → World → Prop} {v : Value} (hr : (execOp a.eval o).run P w = .ok (.value v) w') (h : K (a.put o.dst v) w') : Oper.wp P o a w K Q := by
  unfold Oper.wp; rw [hr]; exact h
theorem run_move {o : Oper} {a : Act} {w : World} {x : Operand} (ho : o.op = .move x ∨ o.op = .assign x) : (execOp a.eval o).run P w = .ok (.value (a.eval x)) w := by
  rcases ho with ho | ho <;> simp [execOp, ho]
theorem run_pick {o : Oper} {a : Act} {w : World} {c x y : Operand} (ho : o.op = .pick c x y) (hc : a.eval c = .bool true) : (execOp a.eval o).run P w = .ok (.value (a.eval x)) w := by
  simp [execOp, ho, hc, asBool]
end Go.Proofs.YtajkdllakleakaaGreatDoor
