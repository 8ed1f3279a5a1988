/- The law MapsLong: what is made, and what each call answers. -/
import Derived.Test.YtahidclhplmkiaaGreatDoorM13
import Derived.Test.YtahidclhplmkiaaGreatDoorM4
import Derived.Test.YtahidclhplmkiaaGreatDoorMMp
import Derived.Test.YtahidclhplmkiaaGreatDoorM11
import Derived.Test.YtahidclhplmkiaaGreatDoorMIjb
import Derived.Test.YtahidclhplmkiaaGreatDoorMIwc
namespace Go.Proofs.YtahidclhplmkiaaGreatDoor
open Go.RowKit Go.WideMaps
set_option linter.unusedVariables false
set_option linter.unusedSimpArgs false

def z8 : Array Value := #[.int .i64 0, .int .i64 0, .string { data := #[] }, .int .i64 0, .int .i64 0, .slice none 0 0, .slice none 0 0, .pointer none]
theorem made8 : ∀ n, (madeCells z8 (n * 8)).toList = iflat (List.replicate n z0)
  | 0 => by simp [madeCells, iflat]
  | n + 1 => by
    have ih := made8 n
    unfold madeCells at ih ⊢
    simp only [Array.toList_map, Array.toList_range] at ih ⊢
    rw [Nat.succ_mul, List.range_add, List.map_append, ih, List.replicate_succ', iflat_append, List.map_map]
    congr 1
    have e : ∀ i, (n * 8 + i) % z8.size = i % 8 := fun i => by show (n * 8 + i) % 8 = i % 8; omega
    simp only [Function.comp_def, e]
    rfl
theorem make_items (n : Nat) (hn : n ≤ 100000) (W : World) : (Instr.makeSlice 22 (.int .i64 (n : Int)) (.int .i64 (n : Int))).run Tryz.prog W = .ok (.slice (some ⟨W.heap.size, 0, none⟩) n n) (W.alloc (.cells (madeCells z8 (n * 8)) 30)) := by
  obtain ⟨i0, hi, hz0, hz1, hz2⟩ := info_parts info_item
  have h := run_make (P := Tryz.prog) W 22 30 i0 _ Tryz.underlying22 hi hz0 .i64 .i64 n n (by omega) (Int.le_refl _) (by rw [hz2]; omega) (by omega)
  rw [hz1] at h
  exact h
theorem rd_items (n : Nat) (hn : n ≤ 100000) (W : World) : RdI (W.alloc (.cells (madeCells z8 (n * 8)) 30)) (List.replicate n z0) (.slice (some ⟨W.heap.size, 0, none⟩) n n) := by
  refine OwnI.reads (base := 0) ?_ (by rw [List.length_replicate]; simp only [maxLen]; omega)
  have h := World.ownsRow_lit (base := 0) (e := 30) (size := 8) W (madeCells z8 (n * 8)) n (Nat.zero_le _) (by simp only [maxLen]; omega) (size_madeCells _ _)
  rw [made8] at h
  unfold OwnI
  rw [List.length_replicate]
  exact h
theorem info_sl : (Tryz.prog.info? 22).map (fun i => (i.zero, i.size, i.bytes)) = some (some (.slice none 0 0), 1, 24) := by kernel_rfl
theorem make_mems (n : Nat) (hn : n ≤ 100000) (W : World) : (Instr.makeSlice 23 (.int .i64 (n : Int)) (.int .i64 (n : Int))).run Tryz.prog W = .ok (.slice (some ⟨W.heap.size, 0, none⟩) n n) (W.alloc (.cells (madeCells #[nilS] n) 22)) :=
  run_make_row' 23 22 nilS 24 Tryz.underlying23 info_sl rfl .i64 .i64 n (by omega) (by omega) W
theorem rd_mems (n : Nat) (hn : n ≤ 100000) (W : World) : RdM (W.alloc (.cells (madeCells #[nilS] n) 22)) (List.replicate n nilS) (.slice (some ⟨W.heap.size, 0, none⟩) n n) := by
  refine OwnM.reads (base := 0) ?_ (by rw [List.length_replicate]; simp only [maxLen]; omega)
  have h := World.ownsRow_lit (base := 0) (e := 22) (size := 1) W (madeCells #[nilS] n) n (Nat.zero_le _) (by simp only [maxLen]; omega) (by rw [size_madeCells]; omega)
  rw [toList_madeCells_one] at h
  unfold OwnM
  rw [List.length_replicate]
  exact h
theorem RdRows.take {w : World} {wd : Nat} {rows : List (List Value)} {A : Option Addr} {n c k : Nat} (h : RdRows w wd rows (.slice A n c)) (hk : k ≤ n) : RdRows w wd (rows.take k) (.slice A k c) := by
  obtain ⟨A', c', e, hc, hr⟩ := h
  cases e
  have hlk : (rows.take k).length = k := by simp; omega
  refine ⟨A, c, by rw [hlk], ⟨hc.1, by rw [hlk]; have := hc.2.1; omega, hc.2.2⟩, fun h0 => ?_⟩
  rw [hlk] at h0 ⊢
  obtain ⟨b, off, e, hlt, hcell⟩ := hr (by omega)
  refine ⟨b, off, e, hlt, fun j hj i hi => ?_⟩
  rw [hcell j (by omega) i hi]
  congr 2
  simp only [List.getD_eq_getElem?_getD, List.getElem?_take_of_lt hj]
theorem take_items {w : World} {A : Option Addr} {n c k : Nat} (h : RdI w (List.replicate n z0) (.slice A n c)) (hk : k ≤ n) : RdI w (List.replicate k z0) (.slice A k c) := by
  have := RdRows.take h hk
  rw [← List.map_take, List.take_replicate, Nat.min_eq_left hk] at this
  exact this
theorem take_mems {w : World} {A : Option Addr} {n c k : Nat} (h : RdM w (List.replicate n nilS) (.slice A n c)) (hk : k ≤ n) : RdM w (List.replicate k nilS) (.slice A k c) := by
  have := RdRows.take h hk
  rw [← List.map_take, List.take_replicate, Nat.min_eq_left hk] at this
  exact this
theorem zeros_ok {k : Nat} : ∀ r, r ∈ List.replicate k z0 → ROk r ∧ r.k = 0 := fun r hr => by
  rw [List.eq_of_mem_replicate hr]
  exact ⟨.z0, rfl⟩
theorem flatB_zeros : ∀ k, flatB (List.replicate k z0) = 0
  | 0 => rfl
  | k + 1 => by
    have := flatB_zeros k
    simp only [flatB, List.replicate_succ, List.map_cons, List.sum_cons] at this ⊢
    rw [this]; rfl
/-- What is wanted. -/
def wantE (n : Nat) : Int := if n ≤ 65536 then 0 else 2
def LgE (c : Int) (w : World) (e : Ending) (w' : World) : Prop := (∃ x, e = .returned (.tuple #[itV x, .int .i64 c]) ∧ ROk x) ∧ Below w.heap.size w w'
/-- An array of n members, or nothing. -/
def LgX (n : Nat) (x : IRow) : Prop := ROk x ∧ (n ≤ 65536 → ∃ A c, x = aR (.slice A n c))
def LgA (n : Nat) (c : Int) (w : World) (e : Ending) (w' : World) : Prop := (∃ x, e = .returned (.tuple #[itV x, .int .i64 c]) ∧ LgX n x) ∧ Below w.heap.size w w'
def lgP (A : Option Addr) (k c : Nat) : PRow := ⟨3, d1, .slice A k c⟩
theorem lg_E {W : World} {A : Option Addr} {k c : Nat} {u : Value} (h : RdP W [lgP A k c] u) : MapE W (mapR u) [lgP A k c] := by
  obtain ⟨A', c', rfl, _⟩ := h.form
  exact ⟨h, ⟨rfl, rfl, rfl⟩, rfl, fun p hp => by rw [List.mem_singleton.1 hp]; exact ⟨⟨.inl rfl, .inl rfl⟩, rfl⟩, List.Pairwise.cons (fun q hq => by cases hq) .nil, by simp⟩
theorem d21 : d1 ≠ d2 := by decide +kernel
set_option maxHeartbeats 1000000 in
theorem putLg {n : Nat} {A : Option Addr} {c : Nat} {u : Value} (w : World) (hn : 1 ≤ n) (hn2 : n ≤ 65537) (h : RdP w [lgP A 1 c] u) (hr : RdI w (List.replicate n z0) (.slice A n c)) :
    Calls Tryz.prog 6 #[itV (mapR u), .agg #[.int .i64 3, .string d2], .slice A n c] w (LgE (wantE n) w) := by
  have hw : whr (keyAt d2) [lgP A 1 c] 0 = -1 := by simp only [lgP, whr, keyAt, k12]; rfl
  by_cases hle : n ≤ 65536
  · have he : putL [lgP A 1 c] ⟨3, d2, .slice A n c⟩ = [lgP A 1 c, ⟨3, d2, .slice A n c⟩] := by simp only [putL, hw]; rfl
    have hS := ents_flat (W := w) [lgP A 1 c, ⟨3, d2, .slice A n c⟩] [⟨3, d1, List.replicate 1 z0⟩, ⟨3, d2, List.replicate n z0⟩] rfl (fun i p s hp hs => by
      match i with
      | 0 => cases hp; cases hs; exact ⟨take_items hr hn, zeros_ok⟩
      | 1 => cases hp; cases hs; exact ⟨hr, zeros_ok⟩
      | k + 2 => cases hp)
    rw [← he] at hS
    refine (put_any (mapR u) [lgP A 1 c] 3 d2 A n c w (lg_E h) ⟨.inl rfl, .inr (.inl rfl)⟩ hle hS ?_).mono ?_
    · have e1 : entN [⟨3, d1, List.replicate 1 z0⟩, ⟨3, d2, List.replicate n z0⟩] = 3 + n := by simp [entN]; omega
      have e2 : entB [⟨3, d1, List.replicate 1 z0⟩, ⟨3, d2, List.replicate n z0⟩] = 2 := by simp only [entB, List.map_cons, List.map_nil, List.sum_cons, List.sum_nil, flatB_zeros]; rfl
      rw [e1, e2]
      simp only [ovB, Bool.or_eq_false_iff, decide_eq_false_iff_not]
      omega
    · rintro e w' ⟨hb, u', rfl, ho⟩
      obtain ⟨A', c', rfl⟩ := OwnP.form ho
      exact ⟨⟨mapR _, by rw [wantE, if_pos hle], rfl, rfl, rfl⟩, hb⟩
  · refine (putLong_any (mapR u) [lgP A 1 c] 3 d2 A n c w (lg_E h) ⟨.inl rfl, .inr (.inl rfl)⟩ (by omega) (by omega) hw).mono ?_
    rintro e w' ⟨rfl, hb⟩
    exact ⟨⟨z0, by rw [wantE, if_neg hle], .z0⟩, hb⟩
def rwZ (p : PRow) : List IRow := match p.v with
  | .slice _ n _ => List.replicate n z0
  | _ => []
theorem cmb_fold (A : Option Addr) (c n : Nat) (hn : 1 ≤ n) : foldS cmbT rwZ [lgP A (n - 1) c, lgP A 1 c] = if n ≤ 65536 then .ok [⟨3, d1, List.replicate n z0⟩] else .error 2 := by
  have e : foldS cmbT rwZ [lgP A (n - 1) c, lgP A 1 c] = cmbT [⟨3, d1, List.replicate (n - 1) z0⟩] 0 ⟨3, d1, List.replicate 1 z0⟩ := by
    simp only [foldS, List.map_cons, List.map_nil, List.foldl_cons, List.foldl_nil, sp, stepS, lgP, rwZ, whr, keyS, k11, List.nil_append, if_true]
    rfl
  rw [e]
  simp only [cmbT, List.getElem?_cons_zero, List.length_replicate]
  rw [show n - 1 + 1 = n by omega]
  split
  · rw [List.replicate_append_replicate, show n - 1 + 1 = n by omega]; rfl
  · rfl
set_option maxHeartbeats 1000000 in
theorem mergeLg {n : Nat} {A : Option Addr} {c : Nat} {u1 u2 v : Value} (w : World) (hn : 2 ≤ n) (hn2 : n ≤ 65537) (hv : RdI w [mapR u1, mapR u2] v) (h1 : RdP w [lgP A (n - 1) c] u1) (h2 : RdP w [lgP A 1 c] u2) (hr : RdI w (List.replicate n z0) (.slice A n c)) :
    Calls Tryz.prog 7 #[v, .string sCombine] w (LgE (wantE n) w) := by
  have hfl : ([[lgP A (n - 1) c], [lgP A 1 c]] : List (List PRow)).flatten = [lgP A (n - 1) c, lgP A 1 c] := rfl
  have hag : AgP 27 cmbT rwZ (cmbC 1) w [lgP A (n - 1) c, lgP A 1 c] := by
    refine ag_combine rwZ w _ 1 (fun p hp => ?_) fun cs r p S i hP hf hi => ?_
    · simp only [List.mem_cons, List.not_mem_nil, or_false] at hp
      rcases hp with rfl | rfl
      · simp only [rwZ, lgP, List.length_replicate]; omega
      · simp only [rwZ, lgP, List.length_replicate]; omega
    · match cs, hP with
      | [], hP =>
        have hS : S = [] := by simpa [foldS] using hf.symm
        rw [hS] at hi
        simp only [whr] at hi
        omega
      | [q], hP =>
        simp only [List.cons_append, List.nil_append, List.cons.injEq] at hP
        obtain ⟨rfl, rfl, rfl⟩ := hP
        refine ⟨rfl, by simp [rwZ, lgP], fun s hs => ?_⟩
        have hS : S = [⟨3, d1, List.replicate (n - 1) z0⟩] := by
          simp only [foldS, List.map_cons, List.map_nil, List.foldl_cons, List.foldl_nil, sp, stepS, lgP, rwZ, whr, List.nil_append, if_true] at hf
          exact (Except.ok.inj hf).symm
        rw [hS] at hs
        match i, hs with
        | 0, hs => cases hs; simp only [List.length_replicate]; omega
        | k + 1, hs => cases hs
      | q :: q' :: cs, hP =>
        have := congrArg List.length hP
        simp at this
  have H := mergeAll_any 27 sCombine (by decide) eg_combine (fun v' ps h => fElem_func (h.trans (congrArg (fun x => some (x, ps)) mode_combine))) cmbT rwZ (cmbC 1) [mapR u1, mapR u2] [[lgP A (n - 1) c], [lgP A 1 c]] v w hv rfl
    (fun k r E hk hE => by
      match k with
      | 0 => cases hk; cases hE; exact lg_E h1
      | 1 => cases hk; cases hE; exact lg_E h2
      | k + 2 => cases hk)
    (fun p hp => by
      rw [hfl] at hp
      simp only [List.mem_cons, List.not_mem_nil, or_false] at hp
      rcases hp with rfl | rfl
      · exact ⟨A, n - 1, c, rfl, by simp [rwZ, lgP], by omega, fun r hr => (zeros_ok r hr).1, take_items hr (by omega)⟩
      · exact ⟨A, 1, c, rfl, by simp [rwZ, lgP], by omega, fun r hr => (zeros_ok r hr).1, take_items hr (by omega)⟩)
    (fun _ => rfl) (fun cs p Do h hle => h (by rw [List.length_append] at hle; omega)) (by rw [hfl]; exact hag) (by simp) (by simp)
    (fun S hS => by
      rw [hfl, cmb_fold A c n (by omega)] at hS
      by_cases hle : n ≤ 65536
      · rw [if_pos hle] at hS
        obtain rfl := (Except.ok.inj hS).symm
        refine ⟨fun s hs => ?_, fun W base lv L hb hvr => ⟨1, _, _, hvr.ents fun s hs r hr => ?_, ?_⟩⟩
        · rw [List.mem_singleton.1 hs]
          simp only [List.length_replicate]
          exact ⟨hle, .inl trivial⟩
        · rw [List.mem_singleton.1 hs] at hr
          exact (zeros_ok r hr).2
        · have e1 : entN [⟨3, d1, List.replicate n z0⟩] = 1 + n := by simp [entN]
          have e2 : entB [⟨3, d1, List.replicate n z0⟩] = 1 := by simp only [entB, List.map_cons, List.map_nil, List.sum_cons, List.sum_nil, flatB_zeros]; rfl
          rw [e1, e2]
          simp only [ovB, Bool.or_eq_false_iff, decide_eq_false_iff_not]
          omega
      · rw [if_neg hle] at hS
        cases hS)
  rw [hfl, cmb_fold A c n (by omega)] at H
  refine H.mono ?_
  by_cases hle : n ≤ 65536
  · rw [if_pos hle]
    rintro e w' ⟨L, u, rfl, hrd, _, _, hb⟩
    obtain ⟨A', c', rfl, _⟩ := RdP.form hrd
    exact ⟨⟨mapR _, by rw [wantE, if_pos hle], rfl, rfl, rfl⟩, hb⟩
  · rw [if_neg hle]
    rintro e w' ⟨rfl, hb⟩
    exact ⟨⟨z0, by rw [wantE, if_neg hle], .z0⟩, hb⟩
theorem nil_one {k : Nat} : ∀ m, m ∈ List.replicate k nilS → m.oneCell' = true := fun m hm => by rw [List.eq_of_mem_replicate hm]; rfl
theorem aop_lg {n : Nat} {c0 : Int} {M : List Value} {w : World} {e : Ending} {w' : World} (h : AOP c0 M w e w') (hc : c0 = wantE n) (hM : n ≤ 65536 → M.length = n) : LgA n (wantE n) w e w' := by
  obtain ⟨x, c, rfl, h2, hb⟩ := h
  have hok := h2.ok
  obtain ⟨rfl, h2⟩ := h2
  subst hc
  refine ⟨⟨x, rfl, hok, fun hle => ?_⟩, hb⟩
  rw [if_pos (by rw [wantE, if_pos hle])] at h2
  obtain ⟨v, rfl, h3⟩ := h2
  obtain ⟨A, c, rfl, _⟩ := RdM.form h3
  exact ⟨A, c, by rw [hM hle]⟩
set_option maxHeartbeats 1000000 in
theorem insLg1 {n : Nat} {B : Option Addr} {cB : Nat} (w : World) (hn : 1 ≤ n) (hn2 : n ≤ 65537) (h : RdM w (List.replicate (n - 1) nilS) (.slice B (n - 1) cB)) :
    Calls Tryz.prog 8 #[itV (aR (.slice B (n - 1) cB)), .int .i64 1, .slice none 0 0] w (LgA n (wantE n) w) := by
  by_cases hle : n ≤ 65536
  · have he : insL (List.replicate (n - 1) nilS) 0 nilS = List.replicate n nilS := by
      obtain ⟨k, rfl⟩ : ∃ k, n = k + 1 := ⟨n - 1, by omega⟩
      simp [insL, List.replicate_succ]
    refine (insertAt_any (aR (.slice B (n - 1) cB)) (List.replicate (n - 1) nilS) 0 none 0 0 w (d := 1) (n := n) (b := 0) (f := []) h (.aR h) rfl nil_one (Nat.zero_le _) (by rw [List.length_replicate]; omega) (by omega) (by rw [he]; exact nils_mem w 0 n) ?_).mono ?_
    · simp only [ovB, Bool.or_eq_false_iff, decide_eq_false_iff_not]
      omega
    · intro e w' h
      exact aop_lg h (by rw [wantE, if_pos hle]) fun _ => by rw [he, List.length_replicate]
  · refine (insertLong_any (aR (.slice B (n - 1) cB)) 1 B (n - 1) cB none 0 0 [] w (.aR h) (fun _ => rfl) ⟨by omega, by omega⟩ (by simp only [maxLen]; omega) rfl (chkE_ok (by omega) (by omega)) (by omega) (by omega) (.inr (by omega))).mono ?_
    intro e w' h
    exact aop_lg h (by rw [wantE, if_neg hle]) fun h' => absurd h' hle
set_option maxHeartbeats 1000000 in
theorem insLg2 {n : Nat} {A : Option Addr} {c : Nat} (w : World) (hn : 1 ≤ n) (hn2 : n ≤ 65537) (hr : RdI w (List.replicate n z0) (.slice A n c)) :
    Calls Tryz.prog 8 #[itV (aR (.slice none 0 0)), .int .i64 1, .slice A n c] w (LgE (wantE n) w) := by
  have h0 : RdM w [] nilS := RdRows.nil w 1 none 0 ⟨fun _ => rfl, Nat.le_refl _, by simp [maxLen]⟩
  by_cases hle : n ≤ 65536
  · have hm : MemS w 1 (insL [] 0 (.slice A n c)) (1 + n) 0 (List.replicate n z0) := SumR.one (P := fun (v : Value) n b f => ∃ n', SqR w 1 v n' b f ∧ n = 1 + n') ⟨n, zeros_sq hr 0, rfl⟩
    refine (insertAt_any (aR (.slice none 0 0)) [] 0 A n c w (d := 1) h0 (.aR h0) rfl (fun m hm => by cases hm) (Nat.zero_le _) (by simp) hle hm ?_).mono ?_
    · simp only [ovB, Bool.or_eq_false_iff, decide_eq_false_iff_not]
      omega
    · rintro e w' ⟨x, c', rfl, h2, hb⟩
      have hok := h2.ok
      obtain ⟨rfl, _⟩ := h2
      exact ⟨⟨x, by rw [wantE, if_pos hle], hok⟩, hb⟩
  · refine (insertLong_any (aR (.slice none 0 0)) 1 none 0 0 A n c [] w (.aR h0) (fun _ => rfl) ⟨by omega, by omega⟩ (by simp only [maxLen]; omega) rfl (chkE_ok (by omega) (by omega)) (by omega) (by omega) (.inl (by omega))).mono ?_
    rintro e w' ⟨x, c', rfl, h2, hb⟩
    have hok := h2.ok
    obtain ⟨rfl, _⟩ := h2
    exact ⟨⟨x, by rw [wantE, if_neg hle], hok⟩, hb⟩
set_option maxHeartbeats 1000000 in
theorem joinLg {n : Nat} {B : Option Addr} {cB : Nat} {v : Value} (w : World) (hn : 1 ≤ n) (hn2 : n ≤ 65537) (hv : RdI w [aR (.slice B (n - 1) cB), aR (.slice B 1 cB)] v) (h : RdM w (List.replicate n nilS) (.slice B n cB)) :
    Calls Tryz.prog 9 #[v] w (LgA n (wantE n) w) := by
  have h1 := take_mems h (k := n - 1) (by omega)
  have h2 := take_mems h (k := 1) (by omega)
  have hf : ([List.replicate (n - 1) nilS, List.replicate 1 nilS] : List (List Value)).flatten = List.replicate n nilS := by
    rw [List.flatten_cons, List.flatten_cons, List.flatten_nil, List.append_nil, List.replicate_append_replicate, show n - 1 + 1 = n by omega]
  refine (join_any (d := 1) (n := n) (b := 0) (f := []) (mss := [List.replicate (n - 1) nilS, List.replicate 1 nilS]) v w hv (fun r hr => ?_) (.cons rfl h1 nil_one (.cons rfl h2 nil_one .nil)) (by rw [hf]; exact nils_mem w 0 n) ?_ (by simp)).mono ?_
  · simp only [List.mem_cons, List.not_mem_nil, or_false] at hr
    rcases hr with rfl | rfl
    · exact .aR h1
    · exact .aR h2
  · simp only [ovB, Bool.or_eq_false_iff, decide_eq_false_iff_not]
    omega
  · rintro e w' ⟨hb, ⟨hle, v', rfl, hrd⟩ | ⟨hgt, rfl⟩⟩
    · rw [hf] at hle hrd
      rw [List.length_replicate] at hle
      obtain ⟨A', c', rfl, _⟩ := hrd.form
      rw [List.length_replicate] at *
      exact ⟨⟨_, by rw [wantE, if_pos hle], ⟨rfl, rfl, rfl⟩, fun _ => ⟨_, _, rfl⟩⟩, hb⟩
    · rw [hf, List.length_replicate] at hgt
      exact ⟨⟨_, by rw [wantE, if_neg (by omega)], .z0, fun h => by omega⟩, hb⟩
set_option maxHeartbeats 1000000 in
theorem flatLg {n : Nat} {A B Q : Option Addr} {c cB cQ : Nat} {v : Value} (w : World) (hn : 1 ≤ n) (hn2 : n ≤ 65537) (hv : RdI w [aR (.slice Q 1 cQ), aR (.slice B n cB)] v) (hq : RdM w [.slice A n c] (.slice Q 1 cQ)) (hr : RdI w (List.replicate n z0) (.slice A n c)) (h : RdM w (List.replicate n nilS) (.slice B n cB)) :
    Calls Tryz.prog 10 #[v] w fun e w' => (∃ A' c', e = .returned (.slice A' (min n 65536) c')) ∧ Below w.heap.size w w' := by
  have hm : MemS w 1 [.slice A n c] (1 + n) 0 (List.replicate n z0) := SumR.one (P := fun (v : Value) n b f => ∃ n', SqR w 1 v n' b f ∧ n = 1 + n') ⟨n, zeros_sq hr 0, rfl⟩
  have i1 := aR_it hq hm
  have i2 := aR_it h (nils_mem w 0 n)
  refine (flatten_any (d := 2) (n := 1 + (1 + n) + (1 + n)) (b := 0 + 0) (f := List.replicate n z0 ++ []) ⟨[aR (.slice Q 1 cQ), aR (.slice B n cB)], hv, SumR.cons (P := ItP w (SqR w 1)) i1 (SumR.one i2)⟩ ?_ (by omega) (by omega)).mono ?_
  · simp only [ovB, Bool.or_eq_false_iff, decide_eq_false_iff_not]
    omega
  · rintro e w' ⟨v', rfl, hv', hb⟩
    obtain ⟨A', c', rfl, _⟩ := RdI.form hv'
    refine ⟨⟨A', c', ?_⟩, hb⟩
    rw [List.append_nil, List.length_take, List.length_replicate, Nat.min_comm]
end Go.Proofs.YtahidclhplmkiaaGreatDoor
