/- The law MapsFlat: append of read items; facts about arrays of two sequences. -/
import Derived.Test.YtlfjhglhjepbpaaGreatDoorMLj
namespace Go.Proofs.YtlfjhglhjepbpaaGreatDoor
open Go.RowKit
set_option linter.unusedVariables false
set_option linter.unusedSimpArgs false

theorem iflat_len (l : List IRow) : (iflat l).length = l.length * 8 := by
  have := flat_len (l.map IRow.cells) (cells_all8 l)
  simpa [iflat] using this
theorem iflat_one (l : List IRow) (h1 : ∀ r, r ∈ l → ROk r) : ∀ u, u ∈ iflat l → u.oneCell' = true := fun u hu => by
  obtain ⟨c, hc, hu⟩ := List.mem_flatten.1 hu
  obtain ⟨r, hr, rfl⟩ := List.mem_map.1 hc
  have hok := h1 r hr
  simp only [IRow.cells, List.mem_cons, List.not_mem_nil, or_false] at hu
  rcases hu with rfl | rfl | rfl | rfl | rfl | rfl | rfl | rfl
  · rfl
  · rfl
  · rfl
  · rfl
  · rfl
  · exact hok.ps
  · exact hok.ms
  · exact hok.fn
theorem RdI.cells {w : World} {l : List IRow} {b off n c : Nat} (h : RdI w l (.slice (some ⟨b, off, none⟩) n c)) : ∀ j u, (iflat l)[j]? = some u → w.cell? ⟨b, off + j, none⟩ = some u :=
  RdRows.cells h (cells_all8 l) (by decide)
/-- append of items that are read to a row of the call's own. -/
theorem appIs {ops : Array Oper} {rest : List Oper} {o : Oper} {a : Act} {Q : Exit → Act → World → Prop} {W : World} (base : Nat) (hgd : o.guard = none) (s x : Operand)
    (ho : o.op = .call { callee := .builtin .append, args := #[s, x], argTypes := #[22, 22] })
    (v : Value) (l ms : List IRow) (hs : a.eval s = v) (u : Value) (hx : a.eval x = u) (hu : RdI W ms u) (h1 : ∀ r, r ∈ ms → ROk r)
    (HO : OwnI W base v l) (hbase : base ≤ W.heap.size) (hl : l.length + ms.length ≤ 1000000)
    (h : ∀ v' w1, OwnI w1 base v' (l ++ ms) → W.grownBy w1 v.ownBlock → wpList Tryz.prog ops Q rest (a.put o.dst v') w1) :
    wpList Tryz.prog ops Q (o :: rest) a W := by
  obtain ⟨i0, hi, hz0, hz1, hz2⟩ := info_parts info_item
  obtain ⟨A, c, rfl, hm⟩ := RdI.form hu
  have hcap := RdRows.capd hu
  rcases A with _ | ad
  · have h0 : ms.length = 0 := by
      rcases Nat.eq_zero_or_pos ms.length with e | e
      · exact e
      · obtain ⟨b, off, _, e2, _⟩ := RdI.row hu (Below.refl _ _) e; cases e2
    obtain rfl : ms = [] := List.length_eq_zero_iff.1 h0
    obtain rfl := hcap.1 rfl
    refine wpList_append_own_none hgd s x 22 ho base 31 i0 8 Tryz.underlying22 hi v l.length (iflat l) hs HO hx ?_
    exact h v W (by rw [List.append_nil]; exact HO) (World.grownBy.refl _ _)
  · refine wpList_append_own _ hgd s x 22 ho base 31 i0 _ 8 104 Tryz.underlying22 hi hz0 hz1 hz2 rfl (by decide) v l.length (iflat l) hs HO ad ms.length c (iflat ms) hx (iflat_len ms) ?_ (iflat_one ms h1) (by simp only [maxLen]; omega) (by omega) hbase ?_
    · intro j y hj
      have hjn : j < (iflat ms).length := (List.getElem?_eq_some_iff.1 hj).1
      obtain ⟨b, off, _, e, hlt, _⟩ := RdI.row hu (Below.refl _ _) (show 0 < ms.length by rw [iflat_len] at hjn; omega)
      cases e
      rw [Addr.add_lit]
      exact RdI.cells hu j y hj
    · intro v' w' ho hg _
      refine h v' w' ?_ hg
      unfold OwnI
      rw [List.length_append, iflat_append]
      exact ho
/-- Two sequences as members, k times. -/
def abs (va vb : Value) : Nat → List Value
  | 0 => []
  | k + 1 => va :: vb :: abs va vb k
theorem abs_len (va vb : Value) : ∀ k, (abs va vb k).length = 2 * k
  | 0 => rfl
  | k + 1 => by simp only [abs, List.length_cons, abs_len va vb k]; omega
theorem abs_mem {w : World} {d : Nat} {va vb : Value} {na ba nb bb : Nat} {fa fb : List IRow} (ha : SqR w d va na ba fa) (hb : SqR w d vb nb bb fb) : ∀ k, ∃ n b f, MemS w d (abs va vb k) n b f ∧ n = k * (2 + na + nb) ∧ b = k * (ba + bb)
  | 0 => ⟨0, 0, [], .nil, by simp, by simp⟩
  | k + 1 => by
    obtain ⟨n, b, f, h, rfl, rfl⟩ := abs_mem ha hb k
    have P1 : ∃ n', SqR w d va n' ba fa ∧ 1 + na = 1 + n' := ⟨na, ha, rfl⟩
    have P2 : ∃ n', SqR w d vb n' bb fb ∧ 1 + nb = 1 + n' := ⟨nb, hb, rfl⟩
    refine ⟨_, _, _, SumR.cons P1 (SumR.cons P2 h), ?_, ?_⟩
    · rw [Nat.succ_mul]; omega
    · rw [Nat.succ_mul]; omega
end Go.Proofs.YtlfjhglhjepbpaaGreatDoor
/- The law MapsFlat: joins of arrays of two sequences; flattening again; literals of items and of members. -/
namespace Go.Proofs.YtlfjhglhjepbpaaGreatDoor
open Go.RowKit
set_option linter.unusedVariables false
set_option linter.unusedSimpArgs false

theorem abs_add (va vb : Value) : ∀ i j, abs va vb i ++ abs va vb j = abs va vb (i + j)
  | 0, j => by rw [Nat.zero_add]; rfl
  | i + 1, j => by
    rw [show i + 1 + j = (i + j) + 1 by omega]
    simp only [abs, List.cons_append, abs_add va vb i j]
theorem abs_flat (va vb : Value) : ∀ ks : List Nat, (ks.map (abs va vb)).flatten = abs va vb ks.sum
  | [] => rfl
  | k :: ks => by simp only [List.map_cons, List.flatten_cons, List.sum_cons, abs_flat va vb ks, abs_add]
theorem abs_in {va vb : Value} : ∀ {k : Nat} {p : Value}, p ∈ abs va vb k → p = va ∨ p = vb
  | 0, p, h => by simp [abs] at h
  | k + 1, p, h => by
    simp only [abs, List.mem_cons] at h
    rcases h with rfl | rfl | h
    · exact .inl rfl
    · exact .inr rfl
    · exact abs_in h
/-- Rows of arrays whose members are two sequences, k times. -/
inductive AbsL (w : World) (va vb : Value) : List IRow → List Nat → Prop
  | nil : AbsL w va vb [] []
  | cons {u : Value} {k : Nat} {l : List IRow} {ks : List Nat} : RdM w (abs va vb k) u → AbsL w va vb l ks → AbsL w va vb (aR u :: l) (k :: ks)
theorem AbsL.jl {w : World} {va vb : Value} (h1 : va.oneCell' = true) (h2 : vb.oneCell' = true) {l : List IRow} {ks : List Nat} (h : AbsL w va vb l ks) : JL w l (ks.map (abs va vb)) := by
  induction h with
  | nil => exact .nil
  | cons hr _ ih => exact .cons rfl hr (fun m hm => by rcases abs_in hm with rfl | rfl <;> assumption) ih
theorem AbsL.ok {w : World} {va vb : Value} {l : List IRow} {ks : List Nat} (h : AbsL w va vb l ks) : ∀ r, r ∈ l → ROk r := by
  induction h with
  | nil => exact fun r hr => nomatch hr
  | cons hr _ ih =>
    intro r hr'
    rcases List.mem_cons.1 hr' with rfl | hr'
    · exact .aR hr
    · exact ih r hr'
theorem AbsL.len {w : World} {va vb : Value} {l : List IRow} {ks : List Nat} (h : AbsL w va vb l ks) : l.length = ks.length := by
  induction h with
  | nil => rfl
  | cons hr _ ih => simp [ih]
/-- Two sequences that are looked at. -/
structure Duo (w : World) (d : Nat) (va vb : Value) (na ba nb bb : Nat) (fa fb : List IRow) : Prop where
  a : SqR w d va na ba fa
  b : SqR w d vb nb bb fb
  n : na + nb ≤ 1000
  t : ba + bb ≤ 100000
theorem Duo.below {w W : World} {d : Nat} {va vb : Value} {na ba nb bb : Nat} {fa fb : List IRow} (h : Duo w d va vb na ba nb bb fa fb) (hb : Below w.heap.size w W) : Duo W d va vb na ba nb bb fa fb :=
  ⟨SqR.below hb _ h.a, SqR.below hb _ h.b, h.n, h.t⟩
def JAP (va vb : Value) (k n : Nat) (w : World) (e : Ending) (w' : World) : Prop := ∃ A c, e = .returned (.tuple #[itV (aR (.slice A n c)), .int .i64 0]) ∧ RdM w' (abs va vb k) (.slice A n c) ∧ Below w.heap.size w w'
theorem joinAbs {w : World} {d : Nat} {va vb : Value} {na ba nb bb : Nat} {fa fb : List IRow} (h : Duo w d va vb na ba nb bb fa fb) {l : List IRow} {ks : List Nat} (hl : AbsL w va vb l ks) (k n : Nat) (hks : ks.sum = k) (hn2 : 2 * k = n) (hk3 : k ≤ 3) (hlen : ks.length ≤ 3) (v : Value) (hv : RdI w l v) :
    Calls Tryz.prog 7 #[v] w (JAP va vb k n w) := by
  subst hks
  subst hn2
  obtain ⟨n, b, f, hs, rfl, rfl⟩ := abs_mem h.a h.b ks.sum
  have hn := h.n
  have ht := h.t
  have m1 : ks.sum * (2 + na + nb) ≤ 3 * 1002 := Nat.mul_le_mul hk3 (by omega)
  have m2 : ks.sum * (ba + bb) ≤ 3 * 100000 := Nat.mul_le_mul hk3 ht
  have ho : ovB (1 + ks.sum * (2 + na + nb)) (ks.sum * (ba + bb)) = false := by simp only [ovB, Bool.or_eq_false_iff, decide_eq_false_iff_not]; omega
  refine (join_any v w hv hl.ok (hl.jl h.a.one h.b.one) (by rw [abs_flat]; exact hs) ho (by rw [hl.len]; omega)).mono ?_
  rintro e w' ⟨hb', ⟨_, u, rfl, hu⟩ | ⟨hx, _⟩⟩
  · rw [abs_flat] at hu
    obtain ⟨A, c, rfl, _⟩ := RdM.form hu
    rw [abs_len] at *
    exact ⟨A, c, rfl, hu, hb'⟩
  · rw [abs_flat, abs_len] at hx; omega
theorem abs_eq {w : World} {d : Nat} {va vb : Value} {na ba nb bb : Nat} {fa fb : List IRow} (h : Duo w d va vb na ba nb bb fa fb) {k : Nat} {u u' : Value} (hu : RdM w (abs va vb k) u) (hu' : RdM w (abs va vb k) u') : EqI w d (aR u) (aR u') :=
  ⟨.aR hu, .aR hu', .arr rfl (.inr (.inr rfl)) hu hu' fun p hp => by
    rcases abs_in hp with rfl | rfl
    · exact ⟨_, _, _, h.a⟩
    · exact ⟨_, _, _, h.b⟩⟩
theorem flat_again {w W : World} {d : Nat} {v c : Value} {n b : Nat} {f : List IRow} (h : SqR w (d + 1) v n b f) (hW : Below w.heap.size w W) (hc : RdI W f c) : ∃ n' b', n' ≤ n ∧ b' ≤ b ∧ SqR W (d + 2) c n' b' f := by
  obtain ⟨_, n', b', h1, h2, h3⟩ := SqR.flat _ h
  exact ⟨n', b', h1, h2, f, hc, h3.mono fun r n b f hr => (hr.below hW).mono fun v n b f hq => SqR.below hW _ hq⟩
theorem flat_eqI {w W : World} {d : Nat} {v : Value} {n b : Nat} {f : List IRow} (h : SqR w (d + 1) v n b f) (hW : Below w.heap.size w W) : ∀ r, r ∈ f → EqI W (d + 1) r r := fun r hr => by
  obtain ⟨_, n', b', _, _, hs⟩ := SqR.flat _ h
  obtain ⟨_, _, _, hi, _⟩ := hs.mem r hr
  exact ItP.eqI ((hi.below hW).mono fun v n b f hq => SqR.below hW _ hq)
theorem flat_ok {w : World} {d : Nat} {v : Value} {n b : Nat} {f : List IRow} (h : SqR w (d + 1) v n b f) : ∀ r, r ∈ f → ROk r := fun r hr => (flat_eqI h (Below.refl _ _) r hr).1
theorem rows_len {w : World} {d : Nat} {l : List IRow} {n b : Nat} {f : List IRow} (h : SumR (ItP w (SqR w d)) l n b f) : l.length ≤ n :=
  h.len fun x n b f hx => by
    rcases hx.2 with H | H | ⟨_, _, _, _, _, _, _, H⟩ | ⟨_, _, _, _, _, H⟩ | ⟨_, _, H | ⟨_, _, _, _, _, _, _, _, _, _, _, H⟩⟩ | H
    · omega
    · omega
    · omega
    · omega
    · omega
    · omega
    · omega
theorem rows_ok {w : World} {d : Nat} {l : List IRow} {n b : Nat} {f : List IRow} (h : SumR (ItP w (SqR w d)) l n b f) : ∀ r, r ∈ l → ROk r := fun r hr => by
  obtain ⟨_, _, _, h3, _⟩ := h.mem r hr
  exact h3.1
theorem rdI_lit (w : World) (l : List IRow) (n : Nat) (hn : l.length = n) (hm : n ≤ 1000) : RdI (w.alloc (.cells (iflat l).toArray 31)) l (.slice (some ⟨w.heap.size, 0, none⟩) n n) :=
  rows_of_own (rows := l.map IRow.cells) (World.ownsRow_lit (base := 0) (e := 31) (size := 8) w (iflat l).toArray n (Nat.zero_le _) (by simp only [maxLen]; omega) (by simp [iflat_len, hn])) (by simpa using hn) (cells_all8 _) (by simp only [maxLen]; omega)
theorem rdM_lit (w : World) (l : List Value) (n : Nat) (hn : l.length = n) (hm : n ≤ 1000) : RdM (w.alloc (.cells l.toArray 22)) l (.slice (some ⟨w.heap.size, 0, none⟩) n n) :=
  OwnM.reads (base := 0) (by subst hn; exact World.ownsRow_lit (base := 0) (e := 22) (size := 1) w l.toArray l.length (Nat.zero_le _) (by simp only [maxLen]; omega) (by simp)) (by simp only [maxLen]; omega)
end Go.Proofs.YtlfjhglhjepbpaaGreatDoor
/- The law MapsFlat: always true. -/
namespace Go.Proofs.YtlfjhglhjepbpaaGreatDoor
open Go.RowKit
set_option linter.unusedVariables false
set_option linter.unusedSimpArgs false

theorem ovB_no {n b : Nat} (hn : n ≤ 4000) (hb : b ≤ 400000) : ovB n b = false := by simp only [ovB, Bool.or_eq_false_iff, decide_eq_false_iff_not]; omega
theorem flat_small {w : World} {d : Nat} {v : Value} {n b : Nat} {f : List IRow} (h : SqR w d v n b f) (hn : n ≤ 4000) (hb : b ≤ 400000) : Calls Tryz.prog 11 #[v] w (FlatP f w) := by
  have hfl : f.take 65536 = f := List.take_of_length_le (by have := SqR.flen h; omega)
  have := flatten_any h (ovB_no hn hb) (by omega) (by omega)
  rwa [hfl] at this
theorem ownI_lit (w : World) : OwnI (w.alloc (.cells #[] 31)) w.heap.size (.slice (some ⟨w.heap.size, 0, none⟩) 0 0) [] :=
  World.ownsRow_lit (base := w.heap.size) (e := 31) (size := 8) w #[] 0 (Nat.le_refl _) (by simp [maxLen]) rfl
/-- The rows of two sequences, one behind the other. -/
theorem sq_two {W w : World} {d : Nat} {v : Value} {la lb : List IRow} {na ba nb bb : Nat} {fa fb : List IRow} (ha : SumR (ItP w (SqR w d)) la na ba fa) (hb : SumR (ItP w (SqR w d)) lb nb bb fb) (hW : Below w.heap.size w W) (h : RdI W (la ++ lb) v) : SqR W (d + 1) v (na + nb) (ba + bb) (fa ++ fb) :=
  ⟨la ++ lb, h, (SumR.append ha hb).mono fun r n b f hr => (hr.below hW).mono fun v n b f hq => SqR.below hW _ hq⟩
theorem duo_sq {W : World} {d : Nat} {va vb : Value} {na ba nb bb : Nat} {fa fb : List IRow} (h : Duo W d va vb na ba nb bb fa fb) {u : Value} (hu : RdM W (abs va vb 1) u) : ItP W (SqR W d) (aR u) (3 + na + nb) (ba + bb) (fa ++ fb) := by
  have P1 : ∃ n', SqR W d va n' ba fa ∧ 1 + na = 1 + n' := ⟨na, h.a, rfl⟩
  have P2 : ∃ n', SqR W d vb n' bb fb ∧ 1 + nb = 1 + n' := ⟨nb, h.b, rfl⟩
  have hs : MemS W d (abs va vb 1) ((1 + na) + (1 + nb)) (ba + bb) (fa ++ fb) := SumR.cons P1 (SumR.one P2)
  have := aR_it hu hs
  rwa [show 1 + ((1 + na) + (1 + nb)) = 3 + na + nb by omega] at this
/-- What stands at each point behind the flattenings. -/
structure FlT (w W : World) (d : Nat) (va vb c : Value) (na ba nb bb : Nat) (fa fb : List IRow) : Prop where
  b : Below w.heap.size w W
  d : Duo W (d + 1) va vb na ba nb bb fa fb
  r : RdI W (fa ++ fb) c
theorem FlT.go {w W W' : World} {d : Nat} {va vb c : Value} {na ba nb bb : Nat} {fa fb : List IRow} (h : FlT w W d va vb c na ba nb bb fa fb) (hb : Below W.heap.size W W') : FlT w W' d va vb c na ba nb bb fa fb :=
  ⟨h.b.trans (hb.mono h.b.size), h.d.below hb, RdRows.below h.r hb⟩
theorem FlT.eqI {w W : World} {d : Nat} {va vb c : Value} {na ba nb bb : Nat} {fa fb : List IRow} (h : FlT w W d va vb c na ba nb bb fa fb) : ∀ r, r ∈ fa ++ fb → EqI W (d + 1) r r := fun r hr => by
  rcases List.mem_append.1 hr with hr | hr
  · exact flat_eqI h.d.a (Below.refl _ _) r hr
  · exact flat_eqI h.d.b (Below.refl _ _) r hr
/-- A box with an array of two sequences, k times. -/
structure BxS (W : World) (X : Nat) (va vb : Value) (k : Nat) (u : Value) : Prop where
  m : RdM W (abs va vb k) u
  x : W.heap[X]? = some (.cells #[.int .i64 3, .int .i64 0, .string { data := #[] }, .int .i64 0, .int .i64 0, .slice none 0 0, u, .pointer none] 31)
theorem BxS.go {W W' : World} {X : Nat} {va vb : Value} {k : Nat} {u : Value} (h : BxS W X va vb k u) (hb : Below W.heap.size W W') : BxS W' X va vb k u :=
  ⟨RdRows.below h.m hb, (hb.block X (lt_of_block h.x)).trans h.x⟩
theorem BxS.cells {W : World} {X : Nat} {va vb : Value} {k : Nat} {u : Value} (h : BxS W X va vb k u) : (W.cell? ⟨X, 0, none⟩ = some (.int .i64 3) ∧ W.cell? ⟨X, 1, none⟩ = some (.int .i64 0) ∧ W.cell? ⟨X, 2, none⟩ = some (.string { data := #[] }) ∧ W.cell? ⟨X, 3, none⟩ = some (.int .i64 0) ∧ W.cell? ⟨X, 4, none⟩ = some (.int .i64 0) ∧ W.cell? ⟨X, 5, none⟩ = some (.slice none 0 0) ∧ W.cell? ⟨X, 6, none⟩ = some u ∧ W.cell? ⟨X, 7, none⟩ = some (.pointer none)) ∧ X < W.heap.size :=
  ⟨blk8c h.x, lt_of_block h.x⟩
theorem BxS.new {W : World} {va vb : Value} {k : Nat} {u : Value} (h : RdM W (abs va vb k) u) : BxS (W.alloc (.cells #[.int .i64 3, .int .i64 0, .string { data := #[] }, .int .i64 0, .int .i64 0, .slice none 0 0, u, .pointer none] 31)) W.heap.size va vb k u :=
  ⟨RdRows.below h (box1 _ _ _), hp_new rfl⟩
def JLP (va vb : Value) (k n : Nat) (w : World) (e : Ending) (w' : World) : Prop := ∃ A c, e = .returned (.tuple #[.agg #[.int .i64 3, .int .i64 0, .string { data := #[] }, .int .i64 0, .int .i64 0, .slice none 0 0, .slice A n c, .pointer none], .int .i64 0]) ∧ RdM w' (abs va vb k) (.slice A n c) ∧ Below w.heap.size w w'
theorem AbsL.kept {w W : World} {va vb : Value} {l : List IRow} {ks : List Nat} (h : AbsL w va vb l ks) (hb : Below w.heap.size w W) : AbsL W va vb l ks := by
  induction h with
  | nil => exact .nil
  | cons hr _ ih => exact .cons (RdRows.below hr hb) ih
theorem joinLit {w W : World} {d : Nat} {va vb c : Value} {na ba nb bb : Nat} {fa fb : List IRow} (h : FlT w W d va vb c na ba nb bb fa fb) {l : List IRow} {ks : List Nat} (hl : AbsL W va vb l ks) (q k n : Nat) (hq : l.length = q) (hks : ks.sum = k) (hn2 : 2 * k = n) (hk3 : k ≤ 3) (hlen : ks.length ≤ 3) (cs : Array Value) (hcs : (iflat l).toArray = cs) :
    Calls Tryz.prog 7 #[.slice (some ⟨W.heap.size, 0, none⟩) q q] (W.alloc (.cells cs 31)) (JLP va vb k n W) := by
  subst hcs
  have hb := box1 W 31 (iflat l).toArray
  have hl' := hl.kept hb
  refine (joinAbs (h.go hb).d hl' k n hks hn2 hk3 hlen _ (rdI_lit W l q hq (by have := hl.len; omega))).mono ?_
  rintro e w' ⟨A, c, rfl, hm, hb'⟩
  exact ⟨A, c, rfl, hm, hb.trans (hb'.mono hb.size)⟩
theorem flat_box {w W : World} {d : Nat} {va vb c u : Value} {na ba nb bb : Nat} {fa fb : List IRow} (h : FlT w W d va vb c na ba nb bb fa fb) (hu : RdM W (abs va vb 1) u) :
    Calls Tryz.prog 11 #[.slice (some ⟨W.heap.size, 0, none⟩) 1 1] (W.alloc (.cells #[.int .i64 3, .int .i64 0, .string { data := #[] }, .int .i64 0, .int .i64 0, .slice none 0 0, u, .pointer none] 31)) (FlatP (fa ++ fb) (W.alloc (.cells #[.int .i64 3, .int .i64 0, .string { data := #[] }, .int .i64 0, .int .i64 0, .slice none 0 0, u, .pointer none] 31))) := by
  have hb := box1 W 31 #[.int .i64 3, .int .i64 0, .string { data := #[] }, .int .i64 0, .int .i64 0, .slice none 0 0, u, .pointer none]
  have hd := (h.go hb).d
  exact flat_small (d := d + 2) (n := 3 + na + nb) (b := ba + bb) ⟨[aR u], rdI_lit W [aR u] 1 rfl (by omega), SumR.one (duo_sq hd (RdRows.below hu hb))⟩ (by have := hd.n; omega) (by have := hd.t; omega)
set_option maxRecDepth 100000 in
set_option maxHeartbeats 4000000 in
theorem lawFlat_any {w : World} {d : Nat} {va vb : Value} {na ba nb bb : Nat} {fa fb : List IRow} (ha : SqR w (d + 1) va na ba fa) (hb : SqR w (d + 1) vb nb bb fb) (hna : na ≤ 4000000) (hba : ba ≤ 40000000) (hnb : nb ≤ 4000000) (hbb : bb ≤ 40000000) :
    Calls Tryz.prog 4 #[va, vb] w fun e w' => e = .returned (.bool true) ∧ Below w.heap.size w w' := by
  obtain ⟨A, ma, ca, rfl⟩ : ∃ A m c, va = .slice A m c := by
    obtain ⟨l, h1, _⟩ := ha
    obtain ⟨A, c, rfl, _⟩ := RdI.form h1
    exact ⟨A, _, c, rfl⟩
  obtain ⟨B, mb, cb, rfl⟩ : ∃ A m c, vb = .slice A m c := by
    obtain ⟨l, h1, _⟩ := hb
    obtain ⟨A, c, rfl, _⟩ := RdI.form h1
    exact ⟨A, _, c, rfl⟩
  have hbx := box1 w 22 #[.slice A ma ca, .slice B mb cb]
  have hL := light_any [(na, ba), (nb, bb)] [.slice A ma ca, .slice B mb cb] (.slice (some ⟨w.heap.size, 0, none⟩) 2 2) (w.alloc (.cells #[.slice A ma ca, .slice B mb cb] 22)) (rdM_lit w [.slice A ma ca, .slice B mb cb] 2 rfl (by omega)) ⟨rfl, fun j hj => by
    have : j = 0 ∨ j = 1 := by simp at hj; omega
    rcases this with rfl | rfl
    · exact ⟨d + 1, fa, SqR.below hbx _ ha, hna, hba⟩
    · exact ⟨d + 1, fb, SqR.below hbx _ hb, hnb, hbb⟩⟩ (by simp)
  have HA := Lib.hid ha
  have HVB := Lib.hid hb
  have HL := Lib.hid hL
  have HBX := Lib.hid hbx
  clear ha hb hL hbx hna hba hnb hbb
  go_enter Tryz.func4, Tryz.ntmps4
  go_wp2_with fail
  refine HL.out.mono ?_
  rintro e w1 ⟨rfl, hb1⟩
  have HB1 := Lib.hid (HBX.out.trans (hb1.mono HBX.out.size))
  clear hb1 HL HBX
  cases hl : lightB [(na, ba), (nb, bb)] with
  | false =>
    clear hl
    go_wp2_with fail
    refine (works_any _).mono ?_
    rintro e w2 ⟨rfl, hb2⟩
    have HB2 := Lib.hid (HB1.out.trans (hb2.mono HB1.out.size))
    clear hb2
    go_wp2
    go_ret
    exact ⟨rB rfl, HB2.out⟩
  | true =>
    have hnb : na + nb ≤ 1000 ∧ ba + bb ≤ 100000 := by simpa [lightB] using hl
    have hd : Duo w (d + 1) (.slice A ma ca) (.slice B mb cb) na ba nb bb fa fb := ⟨HA.out, HVB.out, hnb.1, hnb.2⟩
    have HD1 := Lib.hid (hd.below HB1.out)
    have HNN := Lib.hid hnb
    clear hl hnb hd HA HVB
    go_wp2_with fail
    refine (flat_small HD1.out.a (by have := HNN.out; omega) (by have := HNN.out; omega)).mono ?_
    rintro e w2 ⟨ua, rfl, hua, hb2⟩
    have HB2 := Lib.hid (HB1.out.trans (hb2.mono HB1.out.size))
    have HD2 := Lib.hid (HD1.out.below hb2)
    have HU2 := Lib.hid hua
    clear hb2 hua HB1 HD1
    go_wp2_with fail
    refine (flat_small HD2.out.b (by have := HNN.out; omega) (by have := HNN.out; omega)).mono ?_
    rintro e w3 ⟨ub, rfl, hub, hb3⟩
    have HB3 := Lib.hid (HB2.out.trans (hb3.mono HB2.out.size))
    have HD3 := Lib.hid (HD2.out.below hb3)
    have HU3 := Lib.hid (And.intro (RdRows.below HU2.out hb3) hub)
    clear hb3 hub HB2 HD2 HU2
    obtain ⟨la, hla, hsa⟩ := HD3.out.a
    obtain ⟨lb, hlb, hsb⟩ := HD3.out.b
    have HLA := Lib.hid (And.intro hla hsa)
    have HLB := Lib.hid (And.intro hlb hsb)
    have HLN := Lib.hid (show la.length + lb.length ≤ 1000 by have := rows_len hsa; have := rows_len hsb; have := HNN.out; omega)
    clear hla hsa hlb hsb
    have h30 := box1 w3 31 #[]
    have H30 := Lib.hid h30
    clear h30
    go_wp2_with (at_builtin; refine appIs w3.heap.size rfl (.tmp 28) (.tmp 29) rfl _ [] la rfl _ rfl (RdRows.below HLA.out.1 H30.out) (rows_ok HLA.out.2) (ownI_lit w3) (by simp) (by have := HLN.out; simp; omega) ?_)
    intro v4 w4 ho4 hg4
    have HB4 := Lib.hid (belG (B := w3.heap.size) (w := w3) H30.out (by simp) hg4 (ownI_lit w3) (Nat.le_refl _))
    have HO4 := Lib.hid ho4
    clear ho4 hg4
    go_wp2_with (at_builtin; refine appIs w3.heap.size rfl (.tmp 30) (.tmp 31) rfl _ la lb rfl _ rfl (RdRows.below HLB.out.1 HB4.out) (rows_ok HLB.out.2) HO4.out HB4.out.size (by have := HLN.out; omega) ?_)
    intro v5 w5 ho5 hg5
    have hb5 := belG HB4.out HB4.out.size hg5 HO4.out (Nat.le_refl _)
    have HS5 := Lib.hid (sq_two HLA.out.2 HLB.out.2 hb5 (ho5.reads (by have := HLN.out; simp only [List.length_append, maxLen]; omega)))
    have HB5 := Lib.hid hb5
    clear ho5 hg5 hb5 HO4 HB4 H30 HLA HLB HLN
    go_wp2_with fail
    refine (flat_small HS5.out (by have := HNN.out; omega) (by have := HNN.out; omega)).mono ?_
    rintro e w6 ⟨v6, rfl, hr6, hb6⟩
    have hb36 := HB5.out.trans (hb6.mono HB5.out.size)
    have HB6 := Lib.hid (HB3.out.trans (hb36.mono HB3.out.size))
    have HD6 := Lib.hid (HD3.out.below hb36)
    have HU6 := Lib.hid (And.intro (RdRows.below HU3.out.1 hb36) (RdRows.below HU3.out.2 hb36))
    have HS6 := Lib.hid (SqR.below hb6 _ HS5.out)
    obtain ⟨A6, c6, rfl, _⟩ := RdI.form hr6
    have HR6 := Lib.hid hr6
    have HK6 := Lib.hid (SqR.flat _ HS6.out).1
    have HFO := Lib.hid (And.intro (flat_ok HD6.out.a) (flat_ok HD6.out.b))
    have HFN := Lib.hid (show fa.length + fb.length ≤ 1000 by have := SqR.flen HD6.out.a; have := SqR.flen HD6.out.b; have := HNN.out; omega)
    clear hb6 hr6 hb36 HB5 HS5 HB3 HD3 HU3
    generalize hm : (fa ++ fb).length = m6 at *
    have hm6 : m6 ≤ 1000 := by rw [← hm, List.length_append]; exact HFN.out
    have HM6 := Lib.hid hm
    clear hm
    go_wp2
    go_loop [8] (fun i => ∃ k : Nat, k ≤ m6 ∧ i = .int .i64 k) (fun i => m6 - (intOf i).toNat)
    case atStart => exact ⟨0, Nat.zero_le _, rfl⟩
    case round =>
      obtain ⟨k, hk, rfl⟩ := hrel
      by_cases hlt : k < m6
      · obtain ⟨bI, off, r, rfl, hbI, hget, hdrop, g0, g1, g2, g3, g4, g5, g6, g7⟩ := RdI.row HR6.out (Below.refl _ _) hlt
        have t1 : (r.k == 3) = false := by simpa using HK6.out r (List.mem_of_getElem? hget)
        clear hget hdrop
        go_wp2
        go_round
        case rel => exact ⟨k + 1, by omega, by go_num⟩
        case measure => simp [intOf]; omega
      · obtain rfl : k = m6 := by omega
        clear hlt hk
        have H60 := Lib.hid (box1 w6 31 #[])
        go_wp2_with (at_builtin; refine appIs w6.heap.size rfl (.tmp 47) (.tmp 48) rfl _ [] fa rfl _ rfl (RdRows.below HU6.out.1 H60.out) HFO.out.1 (ownI_lit w6) (by simp) (by have := HFN.out; simp; omega) ?_)
        intro v7 w7 ho7 hg7
        have HB7 := Lib.hid (belG (B := w6.heap.size) (w := w6) H60.out (by simp) hg7 (ownI_lit w6) (Nat.le_refl _))
        have HO7 := Lib.hid ho7
        clear ho7 hg7
        go_wp2_with (at_builtin; refine appIs w6.heap.size rfl (.tmp 49) (.tmp 50) rfl _ fa fb rfl _ rfl (RdRows.below HU6.out.2 HB7.out) HFO.out.2 HO7.out HB7.out.size (by have := HFN.out; omega) ?_)
        intro v8 w8 ho8 hg8
        have hb8 := belG HB7.out HB7.out.size hg8 HO7.out (Nat.le_refl _)
        have HR8 := Lib.hid (ho8.reads (by have := HFN.out; simp only [List.length_append, maxLen]; omega))
        have HB8 := Lib.hid hb8
        clear ho8 hg8 hb8 HO7 HB7 H60 HFN HFO HU6 HK6
        go_wp2_with fail
        refine (sameAll_any (RdRows.below HR6.out HB8.out) HR8.out (flat_eqI HS6.out HB8.out)).mono ?_
        rintro e w9 ⟨rfl, hb9⟩
        have HB9 := Lib.hid (HB8.out.trans (hb9.mono HB8.out.size))
        obtain ⟨n', b', hn', hb', hq⟩ := flat_again HS6.out HB9.out (RdRows.below HR6.out HB9.out)
        have HQ9 := Lib.hid hq
        have HN9 := Lib.hid (And.intro hn' hb')
        clear hb9 HB8 HR8 hn' hb' hq
        go_wp2_with fail
        refine (flat_small HQ9.out (by have := HNN.out; have := HN9.out; omega) (by have := HNN.out; have := HN9.out; omega)).mono ?_
        rintro e w10 ⟨v10, rfl, hr10, hb10⟩
        have HB10 := Lib.hid (HB9.out.trans (hb10.mono HB9.out.size))
        have HR10 := Lib.hid hr10
        clear hr10 hb10 HB9 HQ9 HN9
        go_wp2_with fail
        refine (sameAll_any HR10.out (RdRows.below HR6.out HB10.out) (flat_eqI HS6.out HB10.out)).mono ?_
        rintro e w11 ⟨rfl, hb11⟩
        have hb := HB10.out.trans (hb11.mono HB10.out.size)
        have HB11 := Lib.hid (HB6.out.trans (hb.mono HB6.out.size))
        have HD11 := Lib.hid (HD6.out.below hb)
        have HR11 := Lib.hid (RdRows.below HR6.out hb)
        have HE11 := Lib.hid (fun W (hW : Below w11.heap.size w11 W) => flat_eqI HS6.out (hb.trans (hW.mono hb.size)))
        clear hb hb11 HB10 HR10 HB6 HD6 HR6 HS6
        go_wp2_with fail
        obtain ⟨W12, hW12⟩ : ∃ W12, (w11.alloc (.cells #[.slice A ma ca, .slice B mb cb] 22)).alloc (.cells #[.int .i64 3, .int .i64 0, .string { data := #[] }, .int .i64 0, .int .i64 0, .slice none 0 0, .slice (some ⟨w11.heap.size, 0, none⟩) 2 2, .pointer none] 31) = W12 := ⟨_, rfl⟩
        have hb12 : Below w11.heap.size w11 W12 := hW12 ▸ (box1 w11 22 #[.slice A ma ca, .slice B mb cb]).alloc (by simp) _
        have S12 := Lib.hid (FlT.go ⟨HB11.out, HD11.out, HR11.out⟩ hb12)
        have X12 := Lib.hid (show BxS W12 (w11.heap.size + 1) (.slice A ma ca) (.slice B mb cb) 1 (.slice (some ⟨w11.heap.size, 0, none⟩) 2 2) from hW12 ▸ ⟨RdRows.below (rdM_lit w11 [.slice A ma ca, .slice B mb cb] 2 rfl (by omega)) (box1 _ _ _), hp_new (by simp)⟩)
        have hz12 : w11.heap.size + 1 + 1 = W12.heap.size := by rw [← hW12]; simp
        rw [hW12, hz12]
        clear hW12 hz12 hb12 HB11 HD11 HR11 HE11 HNN
        generalize w11.heap.size + 1 = BX at *
        obtain ⟨U, hU⟩ : ∃ U, U = Value.slice (some ⟨w11.heap.size, 0, none⟩) 2 2 := ⟨_, rfl⟩
        have oU : U.oneCell' = true := by rw [hU]; rfl
        have sU := fun w a m => run_store Tryz.prog w a U m oU
        rw [← hU] at X12 ⊢
        clear hU
        refine (joinLit S12.out (.cons X12.out.m (.cons X12.out.m .nil)) 2 2 4 rfl rfl rfl (by omega) (by decide) _ rfl).mono ?_
        rintro e w13 ⟨A13, c13, rfl, hm13, hb13⟩
        have S13 := Lib.hid (S12.out.go hb13)
        have X13 := Lib.hid (X12.out.go hb13)
        have M13 := Lib.hid hm13
        clear S12 X12 hm13 hb13
        obtain ⟨⟨c0, c1, c2, c3, c4, c5, c6', c7⟩, hltX⟩ := X13.out.cells
        go_wp2_with fail
        obtain ⟨W14, hW14⟩ : ∃ W14, w13.alloc (.cells #[.int .i64 3, .int .i64 0, .string { data := #[] }, .int .i64 0, .int .i64 0, .slice none 0 0, .slice A13 4 c13, .pointer none] 31) = W14 := ⟨_, rfl⟩
        have hb14 : Below w13.heap.size w13 W14 := hW14 ▸ box1 _ _ _
        have S14 := Lib.hid (S13.out.go hb14)
        have X14 := Lib.hid (X13.out.go hb14)
        have Y14 := Lib.hid (show BxS W14 w13.heap.size (.slice A ma ca) (.slice B mb cb) 2 (.slice A13 4 c13) from hW14 ▸ BxS.new M13.out)
        have hz14 : w13.heap.size + 1 = W14.heap.size := by rw [← hW14]; simp
        rw [hW14, hz14]
        clear hW14 hz14 hb14 M13 S13 X13 c0 c1 c2 c3 c4 c5 c6' c7 hltX
        generalize w13.heap.size = BY at *
        refine (joinLit S14.out (.cons X14.out.m (.cons Y14.out.m .nil)) 2 3 6 rfl rfl rfl (by omega) (by decide) _ rfl).mono ?_
        rintro e w15 ⟨A15, c15, rfl, hm15, hb15⟩
        have S15 := Lib.hid (S14.out.go hb15)
        have X15 := Lib.hid (X14.out.go hb15)
        have M15 := Lib.hid hm15
        clear S14 X14 Y14 hm15 hb15
        obtain ⟨⟨c0, c1, c2, c3, c4, c5, c6', c7⟩, hltX⟩ := X15.out.cells
        go_wp2_with fail
        obtain ⟨W16, hW16⟩ : ∃ W16, w15.alloc (.cells #[.int .i64 3, .int .i64 0, .string { data := #[] }, .int .i64 0, .int .i64 0, .slice none 0 0, .slice A15 6 c15, .pointer none] 31) = W16 := ⟨_, rfl⟩
        have hb16 : Below w15.heap.size w15 W16 := hW16 ▸ box1 _ _ _
        have S16 := Lib.hid (S15.out.go hb16)
        have X16 := Lib.hid (X15.out.go hb16)
        have Z16 := Lib.hid (show BxS W16 w15.heap.size (.slice A ma ca) (.slice B mb cb) 3 (.slice A15 6 c15) from hW16 ▸ BxS.new M15.out)
        have hz16 : w15.heap.size + 1 = W16.heap.size := by rw [← hW16]; simp
        rw [hW16, hz16]
        clear hW16 hz16 hb16 M15 S15 X15 c0 c1 c2 c3 c4 c5 c6' c7 hltX
        generalize w15.heap.size = BZ at *
        refine (joinLit S16.out (.cons X16.out.m (.cons X16.out.m (.cons X16.out.m .nil))) 3 3 6 rfl rfl rfl (by omega) (by decide) _ rfl).mono ?_
        rintro e w17 ⟨A17, c17, rfl, hm17, hb17⟩
        have S17 := Lib.hid (S16.out.go hb17)
        have X17 := Lib.hid (X16.out.go hb17)
        have Z17 := Lib.hid (Z16.out.go hb17)
        have M17 := Lib.hid hm17
        clear S16 X16 Z16 hm17 hb17
        obtain ⟨⟨c0, c1, c2, c3, c4, c5, c6', c7⟩, hltX⟩ := X17.out.cells
        go_wp2_with fail
        obtain ⟨W18, hW18⟩ : ∃ W18, w17.alloc (.cells #[.int .i64 3, .int .i64 0, .string { data := #[] }, .int .i64 0, .int .i64 0, .slice none 0 0, .slice A17 6 c17, .pointer none] 31) = W18 := ⟨_, rfl⟩
        have hb18 : Below w17.heap.size w17 W18 := hW18 ▸ box1 _ _ _
        have S18 := Lib.hid (S17.out.go hb18)
        have X18 := Lib.hid (X17.out.go hb18)
        have Z18 := Lib.hid (Z17.out.go hb18)
        have V18 := Lib.hid (show BxS W18 w17.heap.size (.slice A ma ca) (.slice B mb cb) 3 (.slice A17 6 c17) from hW18 ▸ BxS.new M17.out)
        have hz18 : w17.heap.size + 1 = W18.heap.size := by rw [← hW18]; simp
        rw [hW18, hz18]
        clear hW18 hz18 hb18 M17 S17 X17 Z17 c0 c1 c2 c3 c4 c5 c6' c7 hltX
        generalize w17.heap.size = BV at *
        refine (joinLit S18.out (.cons X18.out.m .nil) 1 1 2 rfl rfl rfl (by omega) (by decide) _ rfl).mono ?_
        rintro e w19 ⟨A19, c19, rfl, hm19, hb19⟩
        have S19 := Lib.hid (S18.out.go hb19)
        have X19 := Lib.hid (X18.out.go hb19)
        have Z19 := Lib.hid (Z18.out.go hb19)
        have V19 := Lib.hid (V18.out.go hb19)
        have M19 := Lib.hid hm19
        clear S18 X18 Z18 V18 hm19 hb19
        obtain ⟨⟨c0, c1, c2, c3, c4, c5, c6', c7⟩, hltX⟩ := X19.out.cells
        obtain ⟨⟨zc0, zc1, zc2, zc3, zc4, zc5, zc6', zc7⟩, zhltX⟩ := Z19.out.cells
        obtain ⟨⟨vc0, vc1, vc2, vc3, vc4, vc5, vc6', vc7⟩, vhltX⟩ := V19.out.cells
        go_wp2_with fail
        obtain ⟨W20, hW20⟩ : ∃ W20, w19.alloc (.cells #[.int .i64 3, .int .i64 0, .string { data := #[] }, .int .i64 0, .int .i64 0, .slice none 0 0, .slice A19 2 c19, .pointer none] 31) = W20 := ⟨_, rfl⟩
        have hb20 : Below w19.heap.size w19 W20 := hW20 ▸ box1 _ _ _
        have S20 := Lib.hid (S19.out.go hb20)
        have X20 := Lib.hid (X19.out.go hb20)
        have Z20 := Lib.hid (Z19.out.go hb20)
        have V20 := Lib.hid (V19.out.go hb20)
        have O20 := Lib.hid (show BxS W20 w19.heap.size (.slice A ma ca) (.slice B mb cb) 1 (.slice A19 2 c19) from hW20 ▸ BxS.new M19.out)
        have hz20 : w19.heap.size + 1 = W20.heap.size := by rw [← hW20]; simp
        rw [hW20]
        clear hW20 hz20 hb20 M19 S19 X19 Z19 V19 c0 c1 c2 c3 c4 c5 c6' c7 hltX zc0 zc1 zc2 zc3 zc4 zc5 zc6' zc7 zhltX vc0 vc1 vc2 vc3 vc4 vc5 vc6' vc7 vhltX
        generalize w19.heap.size = BO at *
        refine (same_any (x := aR (.slice A15 6 c15)) (y := aR (.slice A17 6 c17)) (abs_eq S20.out.d Z20.out.m V20.out.m)).mono ?_
        rintro e w21 ⟨rfl, hb21⟩
        have S21 := Lib.hid (S20.out.go hb21)
        have X21 := Lib.hid (X20.out.go hb21)
        have O21 := Lib.hid (O20.out.go hb21)
        have V21 := Lib.hid (V20.out.go hb21)
        clear S20 X20 O20 V20 Z20 hb21
        obtain ⟨⟨c0, c1, c2, c3, c4, c5, c6', c7⟩, hltX⟩ := X21.out.cells
        obtain ⟨⟨oc0, oc1, oc2, oc3, oc4, oc5, oc6', oc7⟩, ohltX⟩ := O21.out.cells
        go_wp2_with fail
        refine (same_any (x := aR (.slice A19 2 c19)) (y := aR U) (abs_eq S21.out.d O21.out.m X21.out.m)).mono ?_
        rintro e w22 ⟨rfl, hb22⟩
        have S22 := Lib.hid (S21.out.go hb22)
        have X22 := Lib.hid (X21.out.go hb22)
        have V22 := Lib.hid (V21.out.go hb22)
        clear S21 X21 O21 V21 hb22 c0 c1 c2 c3 c4 c5 c6' c7 hltX oc0 oc1 oc2 oc3 oc4 oc5 oc6' oc7 ohltX
        obtain ⟨⟨c0, c1, c2, c3, c4, c5, c6', c7⟩, hltX⟩ := X22.out.cells
        go_wp2_with fail
        have hb23 := box1 w22 31 #[.int .i64 3, .int .i64 0, .string { data := #[] }, .int .i64 0, .int .i64 0, .slice none 0 0, U, .pointer none]
        have hS := flat_box S22.out X22.out.m
        refine hS.mono ?_
        rintro e w24 ⟨v24, rfl, hr24, hb24⟩
        have hb := hb23.trans (hb24.mono hb23.size)
        have S24 := Lib.hid (S22.out.go hb)
        have V24 := Lib.hid (V22.out.go hb)
        have R24 := Lib.hid hr24
        clear S22 X22 V22 hb hb24 hb23 hS hr24 c0 c1 c2 c3 c4 c5 c6' c7 hltX
        go_wp2_with fail
        refine (sameAll_any R24.out S24.out.r S24.out.eqI).mono ?_
        rintro e w25 ⟨rfl, hb25⟩
        have S25 := Lib.hid (S24.out.go hb25)
        have V25 := Lib.hid (V24.out.go hb25)
        clear S24 V24 R24 hb25
        obtain ⟨⟨c0, c1, c2, c3, c4, c5, c6', c7⟩, hltX⟩ := V25.out.cells
        go_wp2_with fail
        refine (works_any _).mono ?_
        rintro e w26 ⟨rfl, hb26⟩
        have HB26 := Lib.hid (S25.out.go hb26).b
        clear hb26
        go_wp2
        go_ret
        exact ⟨rB rfl, HB26.out⟩
end Go.Proofs.YtlfjhglhjepbpaaGreatDoor
