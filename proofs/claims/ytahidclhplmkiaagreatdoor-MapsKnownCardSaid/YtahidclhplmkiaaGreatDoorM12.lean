/- The merger's method combine, at an entry whose value is not the merger's own yet. -/
import Derived.StillTailTactics
import Derived.Deep.RegionLaw
import Derived.Test.YtahidclhplmkiaaGreatDoorM9
import Derived.Test.YtahidclhplmkiaaGreatDoorMIkx
import Derived.Test.YtahidclhplmkiaaGreatDoorM4
namespace Go.Proofs.YtahidclhplmkiaaGreatDoor
open Go.RowKit Go.WideMaps
set_option linter.unusedVariables false
set_option linter.unusedSimpArgs false

theorem pflat_val : ∀ (l : List PRow) (j : Nat) (v : Value) (h : j < l.length), pflat (l.set j ⟨l[j].ak, l[j].tx, v⟩) = (pflat l).set (j * 3 + 2) v
  | [], j, v, h => absurd h (by simp)
  | x :: l, 0, v, h => by simp [pflat, PRow.cells]
  | x :: l, j + 1, v, h => by
    have := pflat_val l j v (by simpa using h)
    have e : ∀ l : List PRow, pflat (x :: l) = x.cells ++ pflat l := fun l => rfl
    rw [List.set_cons_succ, e, e, List.getElem_cons_succ, this]
    have h3 : x.cells.length = 3 := rfl
    rw [List.set_append_right _ _ (by omega)]
    simp only [h3]
    rw [show (j + 1) * 3 + 2 - 3 = j * 3 + 2 by omega]
theorem OwnP.val {W : World} {base g m c : Nat} {l : List PRow} (h : OwnP W base (.slice (some ⟨g, 0, none⟩) m c) l) (j : Nat) (v : Value) (hj : j < l.length) (hm : l.length = m) :
    OwnP (W.setCell ⟨g, j * 3 + 2, none⟩ v) base (.slice (some ⟨g, 0, none⟩) m c) (l.set j ⟨l[j].ak, l[j].tx, v⟩) := by
  subst hm
  unfold OwnP
  rw [List.length_set, pflat_val l j v hj]
  exact (World.ownsRow.stored h _ _).1
theorem OwnP.grown {W W' : World} {base : Nat} {v : Value} {l : List PRow} {row : Option Nat} (h : OwnP W base v l) (hg : W.grownBy W' row) (hne : v.ownBlock = none ∨ v.ownBlock ≠ row) : OwnP W' base v l := World.ownsRow.kept h hg hne
/-- The literal of an int. -/
theorem law_int : Maps.Keyed Tryz.prog 3 := Maps.int_keyed Tryz.underlying3
theorem ilit_is (i : Nat) (hi : i < 1000000) : keyOf Tryz.prog 3 (.int .i64 (i : Int)) = some (.int .i64 (i : Int)) := by
  have h : (Lit.int .i64 (i : Int)).wf = true := by
    simp only [Lit.wf, Bool.and_eq_true, decide_eq_true_eq]
    exact ⟨(show (-9223372036854775808 : Int) ≤ (i : Int) by omega), (show (i : Int) ≤ 9223372036854775807 by omega)⟩
  simp [keyOf, mapKey, Tryz.underlying3, h]
theorem GrB.more {a b c : World} {S : Nat → Prop} {row : Option Nat} (h : GrB a b S) (hg : b.grownBy c row) (hs : ∀ k, row = some k → S k ∨ a.heap.size ≤ k) : GrB a c S :=
  ⟨hg.os.trans h.os, hg.tape.trans h.tape, hg.output.trans h.output, Nat.le_trans h.size hg.size, fun k hk hn => (hg.block k (Nat.lt_of_lt_of_le hk h.size) (fun e => by
    rcases hs k e.symm with h1 | h1
    · exact hn h1
    · omega)).trans (h.block k hk hn)⟩
/-- append whose run is known, as one step of a region that draws. -/
theorem step_append_runI {P : Program} {ops : Array Oper} {o : Oper} {a : Act} {w : World} {K : Act → World → Prop} {Q : Exit → Act → World → Prop} {E : Prop}
    (hg : o.guard = none) (d x : Operand) (t : TypeId) (hop : o.op = Op.call { callee := Callee.builtin Builtin.append, args := #[d, x], argTypes := #[t, t] })
    (v u : Value) (hd : a.eval d = v) (hx : a.eval x = u) {v' : Value} {w' : World} (hr : (Builtin.append_ #[t, t] o.type #[v, u]).run P w = .ok v' w') (hK : K (a.put o.dst v') w') :
    if Region.wanted o (yielded ops a.tmps) = true then Oper.wp P o a w K Q else E := by
  have hw : Region.wanted o (yielded ops a.tmps) = true := by simp [Region.wanted, hg]
  rw [if_pos hw]
  unfold Oper.wp
  simp [execOp, hop, resolve, invoke, builtin, hd, hx, hr, Result.andThen]
  exact hK
/-- What combine leaves. -/
def CmbP (w : World) (M g O base m c i n0 : Nat) (L : List PRow) (ak : Int) (tx : ByteArray) (rows : List IRow) (e : Ending) (w' : World) : Prop :=
  e = .returned (.tuple #[]) ∧ GrB w w' (fun k => k = g ∨ k = O) ∧ ∃ v, OwnP w' base (.slice (some ⟨g, 0, none⟩) m c) (L.set i ⟨ak, tx, v⟩) ∧ RdI w' rows v ∧ v.oneCell' = true ∧ (∀ x, v.ownBlock = some x → w.heap.size ≤ x) ∧ ∃ (n' : Nat) (D' : DataW Unit), n' ≤ n0 + 1 ∧ w'.ownsMap Tryz.prog 3 (plainElem Tryz.prog 3) O n' D'
set_option maxRecDepth 100000 in
set_option maxHeartbeats 4000000 in
theorem combine_any (M O g m c i base n0 : Nat) (D : DataW Unit) (L : List PRow) (p q : PRow) (Aq : Option Addr) (bp op nq cq np cp : Nat) (lq lp : List IRow) (w : World) (h : MgB w M (.slice (some ⟨g, 0, none⟩) m c) 0 O) (ho : OwnP w base (.slice (some ⟨g, 0, none⟩) m c) L) (hm : L.length = m) (hi : i < m) (hn : m ≤ 100000)
    (hq : L[i]? = some q) (hqv : q.v = .slice Aq nq cq) (hpv : p.v = .slice (some ⟨bp, op, none⟩) np cp) (hrq : ∀ W, GrB w W (fun k => k = g ∨ k = O) → RdI W lq (.slice Aq nq cq)) (hrp : ∀ W, GrB w W (fun k => k = g ∨ k = O) → RdI W lp (.slice (some ⟨bp, op, none⟩) np cp)) (hokq : ∀ r, r ∈ lq → ROk r) (hokp : ∀ r, r ∈ lp → ROk r) (hsum : nq + np ≤ 65536)
    (hO : w.ownsMap Tryz.prog 3 (plainElem Tryz.prog 3) O n0 D) (hn0 : n0 ≤ 1000) (hD : D.atKey (.int .i64 (i : Int)) (.lit (.int .i64 0)) = .lit (.int .i64 0)) (hMg : M ≠ g) (hOg : O ≠ g) (hMO : M ≠ O) (hbase : base ≤ g) (hgO : O < base) (hgM : M < base) :
    Calls Tryz.prog 27 #[.pointer (some ⟨M, 0, none⟩), .int .i64 (i : Int), pV p] w (CmbP w M g O base m c i n0 L q.ak q.tx (lq ++ lp)) := by
  obtain ⟨pak, ptx, pv⟩ := p
  obtain ⟨qak, qtx, qv⟩ := q
  dsimp only at hqv hpv
  subst hqv
  subst hpv
  obtain ⟨W0, hW0⟩ : ∃ W0, w.alloc (.cells #[.int .i64 pak, .string ptx, .slice (some ⟨bp, op, none⟩) np cp] 33) = W0 := ⟨_, rfl⟩
  have hb0 : Below w.heap.size w W0 := hW0 ▸ box1 _ _ _
  have HG0 := Lib.hid (show GrB w W0 (fun k => k = g ∨ k = O) from GrB.of_below hb0)
  have xP : W0.heap[w.heap.size]? = some (.cells #[.int .i64 pak, .string ptx, .slice (some ⟨bp, op, none⟩) np cp] 33) := hW0 ▸ hp_new rfl
  have xM := (hb0.block M (lt_of_block h)).trans h
  have ho0 := ho.below hb0
  have hO0 := map_below hO hb0 hO.lt
  have hrd := ho0.reads (by rw [hm]; simp only [maxLen]; omega)
  obtain ⟨bI, off, r, e3, hbI, hget, hdrop, g0, g1, g2⟩ := RdP.row (by rw [← hm] at hrd ⊢; exact hrd) (Below.refl _ _) (k := i) hi
  cases e3
  rw [Nat.zero_add] at g0 g1 g2
  obtain rfl : (⟨qak, qtx, .slice Aq nq cq⟩ : PRow) = r := by rw [hq] at hget; injection hget
  dsimp only at g0 g1 g2
  have HOm : W0.ownsRow base 33 3 (.slice (some ⟨g, 0, none⟩) m c) m (pflat L) := by have := ho0; unfold OwnP at this; rw [hm] at this; exact this
  have f2 := World.ownsRow.frozenAt HOm (i * 3 + 2)
  have hc := (own_capd HOm).2.2
  obtain ⟨c0, c1, c2⟩ := blk3c xM
  obtain ⟨d0, d1, d2⟩ := blk3c xP
  have t1 : decide ((65536 : Int) < (nq : Int) + (np : Int)) = false := by simp; omega
  have hw1 : IntKind.i64.wrap ((nq : Int) + (np : Int)) = (nq : Int) + (np : Int) := by rw [IntKind.wrap_i64]; omega
  have hgw : g < w.heap.size := (World.ownsRow.lt ho g rfl).2
  have hgl : g < W0.heap.size := (World.ownsRow.lt HOm g rfl).2
  have hMl : M < W0.heap.size := lt_of_block xM
  have hsz : W0.heap.size = w.heap.size + 1 := by rw [← hW0]; simp
  simp only [pV]
  go_enter Tryz.func27, Tryz.ntmps27
  go_wp2
  clear hW0
  refine still_tail_d 13 (by kernel_rfl) (by kernel_rfl) ?_
  simp only [List.take_succ_cons, List.take_zero, List.drop_succ_cons, List.drop_zero]
  repeat still_step
  refine wpStill_nil ?_
  have HOD := Lib.hid (World.ownsMap.drew hO0)
  have HIL := Lib.hid (ilit_is i (by omega))
  have HDD := Lib.hid hD
  have hn0' : n0 < maxLen := by simp only [maxLen]; omega
  clear hD hO hO0
  go_wp2_with (first
    | (at_lookup; refine wpList_lookup_own_int _ rfl _ _ 64 rfl 3 3 .i64 law_int Tryz.underlying64 Tryz.underlying3 (zero_int _) O n0 _ rfl HOD.out _ _ rfl HIL.out ?_; intro x hat hwc; obtain rfl : x = 0 := (by rw [HDD.out] at hat; simpa using hat.symm); clear hat hwc)
    | (at_mapUpdate; refine wpList_mapUpdate_own _ rfl _ _ _ 64 rfl 3 3 law_int Tryz.underlying64 _ O n0 _ rfl HOD.out hn0' _ _ _ rfl rfl HIL.out _ [] (plainElem_int Tryz.underlying3 (by decide)) ?_; intro w3 hown3 hgrow3)
    | fail)
  have xM3 := (hgrow3.block M hMl (by simp; omega)).trans xM
  have xP3 := (hgrow3.block w.heap.size (by simp; omega) (by simp; omega)).trans xP
  have ho3 := (show OwnP W0.drew base (.slice (some ⟨g, 0, none⟩) m c) L from World.ownsRow.drew ho0).grown hgrow3 (.inr (by simp [Value.ownBlock]; omega))
  have HG3 := Lib.hid ((HG0.out.trans (GrB.drew _)).trans (GrB.of_grown hgrow3 (fun k hk => by cases hk; exact .inr rfl)))
  have hs3 : W0.heap.size ≤ w3.heap.size := hgrow3.size
  have HW3 := Lib.hid (show ∃ (n' : Nat) (D' : DataW Unit), n' ≤ n0 + 1 ∧ w3.ownsMap Tryz.prog 3 (plainElem Tryz.prog 3) O n' D' from ⟨_, _, Nat.le_refl _, hown3⟩)
  have hOl3 : O < w3.heap.size := hown3.lt
  clear hown3 hgrow3 c0 c1 c2 d0 d1 d2 g0 g1 g2 f2 HOm hrd xM xP ho0 HG0 HOD
  have stage : ∀ (W : World) (v : Value), OwnP W base (.slice (some ⟨g, 0, none⟩) m c) (L.set i ⟨qak, qtx, v⟩) → W.cell? ⟨g, i * 3 + 2, none⟩ = some v ∧ W.frozen? ⟨g, i * 3 + 2, none⟩ = false := fun W v hW => by
    have hln : (L.set i ⟨qak, qtx, v⟩).length = m := by rw [List.length_set, hm]
    have hr := hW.reads (by rw [hln]; simp only [maxLen]; omega)
    obtain ⟨b', o', r', e', _, hget', _, _, _, g2'⟩ := RdP.row hr (Below.refl _ _) (k := i) hi
    cases e'
    rw [Nat.zero_add] at g2'
    rw [List.getElem?_set_self (by rw [hm]; exact hi)] at hget'
    cases hget'
    have HOm : W.ownsRow base 33 3 (.slice (some ⟨g, 0, none⟩) m c) m (pflat (L.set i ⟨qak, qtx, v⟩)) := by have := hW; unfold OwnP at this; rw [hln] at this; exact this
    exact ⟨g2', World.ownsRow.frozenAt HOm (i * 3 + 2)⟩
  have hLs : L.set i ⟨qak, qtx, .slice Aq nq cq⟩ = L := by
    obtain ⟨hlt, e⟩ := List.getElem?_eq_some_iff.1 hq
    rw [← e]
    exact List.set_getElem_self hlt
  have hqe : L[i]'(by rw [hm]; exact hi) = ⟨qak, qtx, .slice Aq nq cq⟩ := by
    obtain ⟨hlt, e⟩ := List.getElem?_eq_some_iff.1 hq
    exact e
  have hval : ∀ (W : World) (v v' : Value), OwnP W base (.slice (some ⟨g, 0, none⟩) m c) (L.set i ⟨qak, qtx, v⟩) → OwnP (W.setCell ⟨g, i * 3 + 2, none⟩ v') base (.slice (some ⟨g, 0, none⟩) m c) (L.set i ⟨qak, qtx, v'⟩) := fun W v v' hW => by
    have := OwnP.val hW i v' (by rw [List.length_set, hm]; exact hi) (by rw [List.length_set, hm])
    simpa using this
  have STG := Lib.hid stage
  have HVAL := Lib.hid hval
  rw [← hLs] at ho3
  obtain ⟨g2, f2⟩ := stage _ _ ho3
  obtain ⟨c0, c1, c2⟩ := blk3c xM3
  have HO3 := Lib.hid ho3
  have HM3 := Lib.hid xM3
  have HP3 := Lib.hid xP3
  have HRQ := Lib.hid hrq
  have HRP := Lib.hid hrp
  have HQ := Lib.hid hokq
  have HK := Lib.hid hokp
  have hMl3 : M < w3.heap.size := lt_of_block xM3
  have hPl3 : w.heap.size < w3.heap.size := lt_of_block xP3
  have hgl3 : g < w3.heap.size := by omega
  have hlq : lq.length = nq := by have := (hrq w3 HG3.out); obtain ⟨_, _, e, _⟩ := RdI.form this; cases e; rfl
  have hlp : lp.length = np := by have := (hrp w3 HG3.out); obtain ⟨_, _, e, _⟩ := RdI.form this; cases e; rfl
  clear stage hval hLs hqe ho3 xM3 xP3 hrq hrp hokq hokp hget hdrop hq HDD HIL
  have HB3 := Lib.hid (show OwnP w3.drew base (.slice (some ⟨g, 0, none⟩) m c) (L.set i ⟨qak, qtx, .slice Aq nq cq⟩) from World.ownsRow.drew HO3.out)
  go_region_with (go_at_call 46; refine (cloneI_any lq _ w3.drew (HRQ.out _ (HG3.out.trans (GrB.drew _))) (by omega) HQ.out).mono ?_; rintro e w4 ⟨v4, rfl, ho4, hb4⟩; obtain ⟨A4, c4, rfl⟩ := OwnI.form ho4; rw [hlq] at ho4 ⊢; obtain ⟨k0, k1, k2⟩ := blk3c ((hb4.block M hMl3).trans HM3.out); obtain ⟨g2', f2'⟩ := STG.out w4 _ (HB3.out.below hb4))
  all_goals
    clear k0 k1 k2 g2' f2'
    obtain ⟨W5, hW5⟩ : ∃ W5, w4.setCell ⟨g, i * 3 + 2, none⟩ (.slice A4 nq c4) = W5 := ⟨_, rfl⟩
    have hgs : w4.grownBy W5 (some g) := hW5 ▸ grow_set
    have hs4 : w3.heap.size ≤ w4.heap.size := hb4.size
    have ho5 : OwnP W5 base (.slice (some ⟨g, 0, none⟩) m c) (L.set i ⟨qak, qtx, .slice A4 nq c4⟩) := hW5 ▸ HVAL.out w4 _ _ (HB3.out.below hb4)
    have hv4 := World.ownsRow.lt ho4
    have hi5 : OwnI W5 w3.heap.size (.slice A4 nq c4) lq := World.ownsRow.kept ho4 hgs (by
      cases hA : A4 with
      | none => exact .inl rfl
      | some ad => exact .inr (by have := (hv4 ad.block (by rw [hA]; rfl)).1; simp [Value.ownBlock]; simp at this; omega))
    have HG5 := Lib.hid (((HG3.out.trans (GrB.drew _)).trans (GrB.of_below hb4)).more hgs (fun k hk => by cases hk; exact .inl (.inl rfl)))
    have xM5 := (hgs.block M (by omega) (by simp; omega)).trans ((hb4.block M hMl3).trans HM3.out)
    have xP5 := (hgs.block w.heap.size (by omega) (by simp; omega)).trans ((hb4.block w.heap.size hPl3).trans HP3.out)
    have hs5 : w4.heap.size ≤ W5.heap.size := hgs.size
    rw [hW5]
    obtain ⟨i0, hi0, hz0, hz1, hz2⟩ := info_parts info_item
    have hrdp := HRP.out W5.drew (HG5.out.trans (GrB.drew _))
    obtain ⟨v6, w6, hrun, ho6, hg6, _⟩ := run_append_own (P := Tryz.prog) W5.drew w3.heap.size 22 22 30 i0 _ 8 104 Tryz.underlying22 hi0 hz0 hz1 hz2 rfl (by decide) (.slice A4 nq c4) nq (iflat lq) (by have := World.ownsRow.drew hi5; rw [hlq] at this; exact this) ⟨bp, op, none⟩ np cp (iflat lp) (by rw [iflat_len, hlp])
      (fun j u hj => by rw [Addr.add_lit]; exact RdI.cells hrdp j u hj) (iflat_one lp HK.out) (by simp only [maxLen]; omega) (by omega) (by show w3.heap.size ≤ W5.heap.size; omega)
    have ho6' : OwnI w6 w3.heap.size v6 (lq ++ lp) := by
      unfold OwnI
      rw [List.length_append, hlq, hlp, iflat_append]
      exact ho6
    obtain ⟨A6, c6, rfl⟩ := OwnI.form ho6'
    have hln6 : (lq ++ lp).length = nq + np := by rw [List.length_append, hlq, hlp]
    rw [hln6] at hrun ho6'
    have hne : ∀ k, k < w3.heap.size → some k ≠ (Value.slice A4 nq c4).ownBlock := fun k hk e => by have := (hv4 k e.symm).1; simp at this; omega
    have hs6 : W5.heap.size ≤ w6.heap.size := hg6.size
    have ho6P : OwnP w6 base (.slice (some ⟨g, 0, none⟩) m c) (L.set i ⟨qak, qtx, .slice A4 nq c4⟩) := OwnP.grown (show OwnP W5.drew base (.slice (some ⟨g, 0, none⟩) m c) (L.set i ⟨qak, qtx, .slice A4 nq c4⟩) from World.ownsRow.drew ho5) hg6 (.inr (hne g hgl3))
    have xM6 := (hg6.block M (by show M < W5.heap.size; omega) (hne M hMl3)).trans xM5
    have xP6 := (hg6.block w.heap.size (by show w.heap.size < W5.heap.size; omega) (hne _ hPl3)).trans xP5
    have HF1 := Lib.hid ((((HG5.out.trans (GrB.drew _)).more hg6 (fun k hk => .inr (by have := (hv4 k hk).1; simp at this; omega))).trans (GrB.set (i := i * 3 + 2) (v := .slice A6 (nq + np) c6) (.inl rfl))))
    have HF2 := Lib.hid (HVAL.out w6 _ (.slice A6 (nq + np) c6) ho6P)
    have hv6 := World.ownsRow.lt ho6'
    have HF4 := Lib.hid (show ∀ x, (Value.slice A6 (nq + np) c6).ownBlock = some x → w.heap.size ≤ x from fun x hx => by have := (hv6 x hx).1; omega)
    have HF3 : Hid (RdI (w6.setCell ⟨g, i * 3 + 2, none⟩ (.slice A6 (nq + np) c6)) (lq ++ lp) (.slice A6 (nq + np) c6)) := OwnI.reads (World.ownsRow.kept ho6' grow_set (by
      cases hA : A6 with
      | none => exact .inl rfl
      | some ad => exact .inr (by have := (hv6 ad.block (by rw [hA]; rfl)).1; simp [Value.ownBlock]; omega))) (by rw [hln6]; simp only [maxLen]; omega)
    have HF5 := Lib.hid (show ∃ (n' : Nat) (D' : DataW Unit), n' ≤ n0 + 1 ∧ (w6.setCell ⟨g, i * 3 + 2, none⟩ (.slice A6 (nq + np) c6)).ownsMap Tryz.prog 3 (plainElem Tryz.prog 3) O n' D' from by
      obtain ⟨n', D', hn', hD'⟩ := HW3.out
      refine ⟨n', D', hn', World.ownsMap.kept (World.ownsMap.kept (World.ownsMap.drew (World.ownsMap.kept (map_below (World.ownsMap.drew hD') hb4 hOl3) hgs (by simp; omega))) hg6 (hne O hOl3)) grow_set (by simp; omega)⟩)
    obtain ⟨c0, c1, c2⟩ := blk3c xM5
    obtain ⟨d0, d1, d2⟩ := blk3c xP5
    obtain ⟨g2, f2⟩ := STG.out W5 _ ho5
    obtain ⟨e0, e1, e2⟩ := blk3c xM6
    obtain ⟨p0, p1, p2⟩ := blk3c xP6
    obtain ⟨k2, j2⟩ := STG.out w6 _ ho6P
    clear xM5 xP5 xM6 xP6 ho5 ho6P ho6 ho6' hv6 hv4 hi5 ho4 hb4 hW5 hgs hne hrdp hg6 hz0 hz1 hz2 hi0 HB3 HG5 HO3 HM3 HP3 HG3
    go_wp2
    go_region_law (refine step_append_runI rfl (.tmp 63) (.tmp 65) 22 rfl (.slice A4 nq c4) (.slice (some ⟨bp, op, none⟩) np cp) (by simp [Act.eval, Act.put]) (by simp [Act.eval, Act.put]) hrun ?_)
    all_goals
      go_end0
      exact ⟨rfl, HF1.out, _, HF2.out, HF3.out, rfl, HF4.out, HF5.out⟩
end Go.Proofs.YtahidclhplmkiaaGreatDoor
/- The merger's method combine, where the values are too long together. -/
namespace Go.Proofs.YtahidclhplmkiaaGreatDoor
open Go.RowKit Go.WideMaps
set_option linter.unusedVariables false
set_option linter.unusedSimpArgs false

set_option maxRecDepth 100000 in
set_option maxHeartbeats 4000000 in
theorem combineLong_any (M O g m c i base : Nat) (L : List PRow) (p q : PRow) (Aq Ap : Option Addr) (nq cq np cp : Nat) (w : World) (h : MgB w M (.slice (some ⟨g, 0, none⟩) m c) 0 O) (ho : OwnP w base (.slice (some ⟨g, 0, none⟩) m c) L) (hm : L.length = m) (hi : i < m) (hn : m ≤ 100000)
    (hq : L[i]? = some q) (hqv : q.v = .slice Aq nq cq) (hpv : p.v = .slice Ap np cp) (hnq : nq ≤ 100000) (hnp : np ≤ 100000) (hsum : 65536 < nq + np) :
    Calls Tryz.prog 27 #[.pointer (some ⟨M, 0, none⟩), .int .i64 (i : Int), pV p] w fun e w' => e = .returned (.tuple #[]) ∧ MgB w' M (.slice (some ⟨g, 0, none⟩) m c) 2 O ∧ GrB w w' (fun k => k = M) := by
  obtain ⟨pak, ptx, pv⟩ := p
  obtain ⟨qak, qtx, qv⟩ := q
  dsimp only at hqv hpv
  subst hqv
  subst hpv
  obtain ⟨W0, hW0⟩ : ∃ W0, w.alloc (.cells #[.int .i64 pak, .string ptx, .slice Ap np cp] 33) = W0 := ⟨_, rfl⟩
  have hb0 : Below w.heap.size w W0 := hW0 ▸ box1 _ _ _
  have HG0 := Lib.hid (show GrB w W0 (fun k => k = M) from GrB.of_below hb0)
  have xP : W0.heap[w.heap.size]? = some (.cells #[.int .i64 pak, .string ptx, .slice Ap np cp] 33) := hW0 ▸ hp_new rfl
  have xM := (hb0.block M (lt_of_block h)).trans h
  have ho0 := ho.below hb0
  have hrd := ho0.reads (by rw [hm]; simp only [maxLen]; omega)
  obtain ⟨bI, off, r, e3, hbI, hget, hdrop, g0, g1, g2⟩ := RdP.row (by rw [← hm] at hrd ⊢; exact hrd) (Below.refl _ _) (k := i) hi
  cases e3
  rw [Nat.zero_add] at g0 g1 g2
  obtain rfl : (⟨qak, qtx, .slice Aq nq cq⟩ : PRow) = r := by rw [hq] at hget; injection hget
  dsimp only at g0 g1 g2
  have HOm : W0.ownsRow base 33 3 (.slice (some ⟨g, 0, none⟩) m c) m (pflat L) := by have := ho0; unfold OwnP at this; rw [hm] at this; exact this
  have f2 := World.ownsRow.frozenAt HOm (i * 3 + 2)
  have hc := (own_capd HOm).2.2
  obtain ⟨c0, c1, c2⟩ := blk3c xM
  have f1 := blk3f xM 1
  obtain ⟨d0, d1, d2⟩ := blk3c xP
  have t1 : decide ((65536 : Int) < (nq : Int) + (np : Int)) = true := by simp; omega
  have hw1 : IntKind.i64.wrap ((nq : Int) + (np : Int)) = (nq : Int) + (np : Int) := by rw [IntKind.wrap_i64]; omega
  have hgw : g < w.heap.size := (World.ownsRow.lt ho g rfl).2
  have hgl : g < W0.heap.size := (World.ownsRow.lt HOm g rfl).2
  have hMl : M < W0.heap.size := lt_of_block xM
  have hsz : W0.heap.size = w.heap.size + 1 := by rw [← hW0]; simp
  simp only [pV]
  go_enter Tryz.func27, Tryz.ntmps27
  go_wp2
  clear hW0
  refine still_tail_d 13 (by kernel_rfl) (by kernel_rfl) ?_
  simp only [List.take_succ_cons, List.take_zero, List.drop_succ_cons, List.drop_zero]
  repeat still_step
  refine wpStill_nil ?_
  go_wp2
  refine bodyPost_ret (v := .tuple #[]) ?_ rfl ⟨rfl, blk_set xM _, (HG0.out.trans (GrB.drew _)).trans (GrB.set rfl)⟩
  simp [results, Tryz.results27, go_sem]
end Go.Proofs.YtahidclhplmkiaaGreatDoor
