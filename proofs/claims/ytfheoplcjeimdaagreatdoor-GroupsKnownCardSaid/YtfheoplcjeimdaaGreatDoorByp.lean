/- groups.By: plain laws and the memory of its two results. -/
import Derived.Test.YtfheoplcjeimdaaGreatDoorAdj
import Derived.Deep.RegionLaw
import Derived.Deep.RegionLawGrows
namespace Go.Proofs.YtfheoplcjeimdaaGreatDoor
open Go.RowKit
set_option linter.unusedVariables false
set_option linter.unusedSimpArgs false

theorem info_atom : (Tryz.prog.info? 38).map (fun i => (i.zero, i.size, i.bytes)) = some (some (.agg #[.int .i64 0, .string ⟨#[]⟩]), 2, 24) := by kernel_rfl

/-- A guard for a region's arm: the operation that writes slot d. -/
theorem at_dst (d : Nat) {P : Program} {ops : Array Oper} {op : Op} {ty : TypeId} {pos : String} {after : Array Edge} {g : Option (Nat × Bool)} {a : Act} {w : World} {K : Act → World → Prop} {Q : Exit → Act → World → Prop} {E : Prop}
    (h : if Region.wanted ⟨some d, op, ty, pos, after, g⟩ (yielded ops a.tmps) = true then Oper.wp P ⟨some d, op, ty, pos, after, g⟩ a w K Q else E) :
    if Region.wanted ⟨some d, op, ty, pos, after, g⟩ (yielded ops a.tmps) = true then Oper.wp P ⟨some d, op, ty, pos, after, g⟩ a w K Q else E := h

/-- A list of atoms, cell by cell. -/
def flatA : List Atm → List Value
  | [] => []
  | x :: l => .int .i64 x.1 :: .string x.2 :: flatA l
theorem flatA_len : ∀ l, (flatA l).length = l.length * 2
  | [] => rfl
  | x :: l => by simp [flatA, flatA_len l]; omega
theorem flatA_append : ∀ a b, flatA (a ++ b) = flatA a ++ flatA b
  | [], b => rfl
  | x :: a, b => by simp [flatA, flatA_append a b]
theorem flatA_get : ∀ (l : List Atm) (j : Nat), j < l.length → (flatA l)[j * 2]? = some (.int .i64 (l.getD j atm0).1) ∧ (flatA l)[j * 2 + 1]? = some (.string (l.getD j atm0).2)
  | [], j, h => absurd h (by simp)
  | x :: l, 0, _ => by simp [flatA]
  | x :: l, j + 1, h => by
    have := flatA_get l j (by simpa using h)
    rw [show (j + 1) * 2 = j * 2 + 2 by omega]
    simpa [flatA] using this

/-- A row of atoms of the call's own. -/
def OwnAt (w : World) (base : Nat) (u : Value) (l : List Atm) : Prop := w.ownsRow base 38 2 u l.length (flatA l)
theorem OwnAt.reads {w : World} {base : Nat} {u : Value} {l : List Atm} (h : OwnAt w base u l) (hl : l.length ≤ 1000000) : ∃ A c, u = .slice A l.length c ∧ RdAtoms w A l.length l := by
  rcases Nat.eq_zero_or_pos l.length with h0 | h0
  · rcases h.2 with ⟨rfl, h1⟩ | ⟨g, cap, cur, rfl, _⟩
    · exact ⟨none, 0, by rw [h1], rfl, by omega, fun hp => absurd hp (by omega)⟩
    · exact ⟨_, cap, rfl, rfl, by omega, fun hp => absurd hp (by omega)⟩
  · obtain ⟨g, c, rfl, _, hlt⟩ := World.ownsRow.form h h0
    refine ⟨_, c, rfl, rfl, by omega, fun _ => ⟨g, 0, rfl, hlt, fun j hj => ?_⟩⟩
    obtain ⟨h1, h2⟩ := flatA_get l j hj
    constructor
    · rw [Nat.zero_add]; exact (World.ownsRow.cellAt h (j * 2) (by omega)).trans h1
    · rw [Nat.zero_add]; exact (World.ownsRow.cellAt h (j * 2 + 1) (by omega)).trans h2

/-- Rows of elements of a type are kept. -/
def Keeps (e : TypeId) (w w' : World) : Prop := ∀ (base size : Nat) (v : Value) (n : Nat) (xs : List Value), w.ownsRow base e size v n xs → w'.ownsRow base e size v n xs
theorem Keeps.refl (e : TypeId) (w : World) : Keeps e w w := fun _ _ _ _ _ h => h
theorem Keeps.trans {e : TypeId} {a b c : World} (h : Keeps e a b) (k : Keeps e b c) : Keeps e a c := fun _ _ _ _ _ x => k _ _ _ _ _ (h _ _ _ _ _ x)
theorem Keeps.alloc {e : TypeId} {a b : World} (h : Keeps e a b) (o : Obj) : Keeps e a (b.alloc o) := fun _ _ _ _ _ x => (h _ _ _ _ _ x).alloc o
theorem Keeps.drew {e : TypeId} {a b : World} (h : Keeps e a b) : Keeps e a b.drew := fun _ _ _ _ _ x => (h _ _ _ _ _ x).drew
theorem Keeps.app {e e' : TypeId} {a b c : World} (h : Keeps e a b) {base size : Nat} {v : Value} {n : Nat} {xs : List Value} (ho : b.ownsRow base e' size v n xs) (hg : b.grownBy c v.ownBlock) (hne : e ≠ e') : Keeps e a c :=
  fun _ _ _ _ _ x => (h _ _ _ _ _ x).kept hg (own_type_ne (h _ _ _ _ _ x) ho hne)

theorem Keeps.own {e : TypeId} {a b : World} (h : Keeps e a b) {base size : Nat} {v : Value} {n : Nat} {xs : List Value} (ho : a.ownsRow base e size v n xs) : b.ownsRow base e size v n xs := h _ _ _ _ _ ho

/-- New blocks stay as they are. -/
def Fresh (N : Nat) (w w' : World) : Prop := ∀ (k : Nat) (o : Obj), N ≤ k → w.heap[k]? = some o → w'.heap[k]? = some o
theorem Fresh.of_grown {N : Nat} {w w' : World} {v : Value} (hg : w.grownBy w' v.ownBlock) (hv : ∀ k, v.ownBlock = some k → k < N) : Fresh N w w' := by
  intro k o hk h
  have hlt := (Array.getElem?_eq_some_iff.1 h).1
  rw [hg.block k hlt (fun e => by have := hv k e.symm; omega)]
  exact h
theorem heap_new {w : World} {o : Obj} {B : Nat} (h : w.heap.size = B) : (w.alloc o).heap[B]? = some o := by subst h; exact heap_alloc_new w o
theorem heap_past {w : World} {o x : Obj} {B : Nat} (h : w.heap[B]? = some x) : (w.alloc o).heap[B]? = some x := by
  have hlt := (Array.getElem?_eq_some_iff.1 h).1
  rw [Below.heap_alloc _ _ _ hlt]; exact h
theorem heap_drewn {w : World} {x : Obj} {B : Nat} (h : w.heap[B]? = some x) : w.drew.heap[B]? = some x := h
theorem Fresh.at_ {N : Nat} {w w' : World} {o : Obj} {B : Nat} (h : Fresh N w w') (hB : N ≤ B) (k : w.heap[B]? = some o) : w'.heap[B]? = some o := h B o hB k

theorem Fresh.cell {N : Nat} {w w' : World} {b o : Nat} {x : Value} (h : Fresh N w w') (hB : N ≤ b) (hc : w.cell? ⟨b, o, none⟩ = some x) : w'.cell? ⟨b, o, none⟩ = some x := by
  have hlt := World.block_lt_of_cell? w ⟨b, o, none⟩ hc
  have e : w.heap[b]? = some w.heap[b] := Array.getElem?_eq_getElem hlt
  have e' := h b _ hB e
  rw [World.cell?_of_block (w := w) (w' := w') (a := ⟨b, o, none⟩) (e'.trans e.symm)]
  exact hc
/-- The two rows while they are appended to. -/
structure TwoR (N : Nat) (w2 w W : World) (base : Nat) (v : Value) (n : Nat) (xs : List Value) (u : Value) (m : Nat) (ys : List Value) : Prop where
  r1 : W.ownsRow base 35 1 v n xs
  r2 : W.ownsRow base 38 2 u m ys
  k : Keeps 3 w2 W
  b : Below base w W
  z : w2.heap.size ≤ W.heap.size
  zb : base ≤ w2.heap.size
  fr : Fresh N w2 W
theorem TwoR.alloc {N : Nat} {w2 w W : World} {base n m : Nat} {v u : Value} {xs ys : List Value} {o : Obj} (h : TwoR N w2 w W base v n xs u m ys) : TwoR N w2 w (W.alloc o) base v n xs u m ys :=
  ⟨h.r1.alloc o, h.r2.alloc o, h.k.alloc o, h.b.alloc (Nat.le_trans h.zb h.z) o, by have := h.z; simp; omega, h.zb, fun k x hk hx => heap_past (h.fr k x hk hx)⟩
theorem TwoR.drew {N : Nat} {w2 w W : World} {base n m : Nat} {v u : Value} {xs ys : List Value} (h : TwoR N w2 w W base v n xs u m ys) : TwoR N w2 w W.drew base v n xs u m ys :=
  ⟨h.r1.drew, h.r2.drew, h.k.drew, h.b.drew, h.z, h.zb, h.fr⟩
theorem TwoR.appA {N : Nat} {w2 w W wa : World} {base n m n' : Nat} {v u v' : Value} {xs ys xs' : List Value} (ho : wa.ownsRow base 35 1 v' n' xs') (hg : W.grownBy wa v.ownBlock) (hv : ∀ k, v.ownBlock = some k → k < N) (h : TwoR N w2 w W base v n xs u m ys) : TwoR N w2 w wa base v' n' xs' u m ys :=
  ⟨ho, h.r2.kept hg (own_type_ne h.r2 h.r1 (by decide)), h.k.app h.r1 hg (by decide), below_grown h.b (Nat.le_trans h.zb h.z) hg h.r1 (Nat.le_refl _), Nat.le_trans h.z hg.size, h.zb, fun k x hk hx => Fresh.of_grown hg hv k x hk (h.fr k x hk hx)⟩
theorem TwoR.appB {N : Nat} {w2 w W wa : World} {base n m m' : Nat} {v u u' : Value} {xs ys ys' : List Value} (ho : wa.ownsRow base 38 2 u' m' ys') (hg : W.grownBy wa u.ownBlock) (hv : ∀ k, u.ownBlock = some k → k < N) (h : TwoR N w2 w W base v n xs u m ys) : TwoR N w2 w wa base v n xs u' m' ys' :=
  ⟨h.r1.kept hg (own_type_ne h.r1 h.r2 (by decide)), ho, h.k.app h.r2 hg (by decide), below_grown h.b (Nat.le_trans h.zb h.z) hg h.r2 (Nat.le_refl _), Nat.le_trans h.z hg.size, h.zb, fun k x hk hx => Fresh.of_grown hg hv k x hk (h.fr k x hk hx)⟩
theorem at_dstR (d : Nat) {P : Program} {ops : Array Oper} {op : Op} {ty : TypeId} {pos : String} {after : Array Edge} {g : Option (Nat × Bool)} {a : Act} {w : World} {K : Act → World → Prop} {Q : Exit → Act → World → Prop} {E : Prop}
    {N : Nat} {w2 w' : World} {base n m : Nat} {v u : Value} {xs ys : List Value} (hT : TwoR N w2 w' w base v n xs u m ys)
    (h : TwoR N w2 w' w base v n xs u m ys → if Region.wanted ⟨some d, op, ty, pos, after, g⟩ (yielded ops a.tmps) = true then Oper.wp P ⟨some d, op, ty, pos, after, g⟩ a w K Q else E) :
    if Region.wanted ⟨some d, op, ty, pos, after, g⟩ (yielded ops a.tmps) = true then Oper.wp P ⟨some d, op, ty, pos, after, g⟩ a w K Q else E := h hT
theorem own_of_heap {W : World} {base b : Nat} {i : Int} (h : W.heap[b]? = some (.cells #[.int .i64 i] 3 (0, 0))) (hb : base ≤ b) : W.ownsRow base 3 1 (.slice (some ⟨b, 0, none⟩) 1 1) 1 (ints [i]) :=
  ⟨by simp [ints], .inr ⟨b, 1, _, rfl, hb, h, Nat.le_refl _, by decide, rfl, by simp [ints]⟩⟩
/-- Both rows have grown by one. -/
theorem TwoR.done {N : Nat} {w2 w W : World} {base b : Nat} {v v' u' : Value} {gs : List (List Int)} {vs : List Value} {l : List Atm} {x : Atm} {i : Int} (hO : OwnII w2 base v gs vs)
    (h : TwoR N w2 w W base v' (gs.length + 1) (vs ++ [.slice (some ⟨b, 0, none⟩) 1 1]) u' (l.length + 1) (flatA l ++ [.int .i64 x.1, .string x.2]))
    (hh : W.heap[b]? = some (.cells #[.int .i64 i] 3 (0, 0))) (hb : w2.heap.size ≤ b) :
    (∃ vs', OwnII W base v' (gs ++ [[i]]) vs') ∧ OwnAt W base u' (l ++ [x]) ∧ Below base w W := by
  have hl := hO.len
  have hu := own_of_heap (base := base) hh (Nat.le_trans h.zb hb)
  refine ⟨⟨_, ⟨by simpa using h.r1, fun j hj => ?_, fun j q hj hq hne => ?_⟩⟩, ?_, h.b⟩
  · rw [List.length_append, List.length_singleton] at hj
    rcases Nat.lt_or_ge j gs.length with e | e
    · rw [getD_left _ _ _ _ (by omega), getD_left _ _ _ _ e]
      exact h.k.own (hO.inner j e)
    · rw [getD_last _ _ _ _ (by omega), getD_last _ _ _ _ (by omega)]; exact hu
  · have far : ∀ t, t < gs.length → (vs.getD t undef).ownBlock = none ∨ (vs.getD t undef).ownBlock ≠ some b := by
      intro t ht
      cases hq : (vs.getD t undef).ownBlock with
      | none => exact .inl rfl
      | some c => right; intro e; have := ((hO.inner t ht).lt c hq).2; injection e with e; omega
    rw [List.length_append, List.length_singleton] at hj hq
    rcases Nat.lt_or_ge j gs.length with e | e
    · rw [getD_left _ _ _ _ (by omega)]
      rcases Nat.lt_or_ge q gs.length with e' | e'
      · rw [getD_left _ _ _ _ (by omega)]; exact hO.apart j q e e' hne
      · rw [getD_last _ _ _ _ (by omega)]; exact far j e
    · rw [getD_last _ _ _ _ (by omega), getD_left _ _ _ _ (by omega)]
      right
      rcases far q (by omega) with e2 | e2
      · rw [e2]; simp [Value.ownBlock]
      · exact fun e3 => e2 e3.symm
  · have := h.r2
    unfold OwnAt
    rw [flatA_append, List.length_append]
    exact this

section
variable {S : Int → ByteArray → Prop} {I : World → Prop} (va : Int → ByteArray → Bool) (sa : Int → ByteArray → Int → ByteArray → Bool)

/-- One key of an item. -/
def byKey (i : Nat) (st : List (List Int) × List Atm) (key : Atm) : List (List Int) × List Atm :=
  if va key.1 key.2 then
    let g := idxB (fun x => gsB va sa x.1 x.2 key.1 key.2) st.2 0
    if g < 0 then (st.1 ++ [[(i : Int)]], st.2 ++ [key])
    else if (st.1.getD g.toNat []).getD ((st.1.getD g.toNat []).length - 1) 0 ≠ i then (st.1.set g.toNat (st.1.getD g.toNat [] ++ [(i : Int)]), st.2)
    else st
  else st
def byItem (st : List (List Int) × List Atm) (i : Nat) (keys : List Atm) : List (List Int) × List Atm := keys.foldl (byKey va sa i) st
/-- The first n items. -/
def byF (ls : List (List Atm)) : Nat → List (List Int) × List Atm
  | 0 => ([], [])
  | n + 1 => byItem va sa (byF ls n) n (ls.getD n [])
end

theorem idxB_range (p : Atm → Bool) : ∀ (l : List Atm) (i : Int), idxB p l i = -1 ∨ (i ≤ idxB p l i ∧ idxB p l i < i + l.length)
  | [], i => .inl rfl
  | x :: l, i => by
    unfold idxB
    split
    · right; simp; omega
    · rcases idxB_range p l (i + 1) with h | h
      · exact .inl h
      · right; simp; omega
end Go.Proofs.YtfheoplcjeimdaaGreatDoor
