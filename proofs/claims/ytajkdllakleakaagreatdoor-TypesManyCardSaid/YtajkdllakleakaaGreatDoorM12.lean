/- Chapter 16: Convert of the nodes of the example to integers. -/
import Derived.Test.YtajkdllakleakaaGreatDoorMTq
import Derived.Test.YtajkdllakleakaaGreatDoorMTx
import Derived.Test.YtajkdllakleakaaGreatDoorM10
namespace Go.Proofs.YtajkdllakleakaaGreatDoor
open Go.RowKit Go.WideMaps
set_option linter.unusedVariables false
set_option linter.unusedSimpArgs false

def starS : ByteArray := { data := #[42] }
theorem typeB_star : typeB (tyA 3 starS) = true := by decide +kernel
structure CoS (w W : World) (Bt U M X Y L : Nat) : Prop where
  b : Below w.heap.size w W
  t : W.heap[Bt]? = some (.cells (tyC 3 starS) 37 (0, 0))
  u : W.heap[U]? = some (.cells #[trV X, .map (some M)] 49 (0, 0))
  tr : Tr W X Y
  l : W.heap[L]? = some (.cells (twoC (nodeR 1) (nodeR 2)) 29 (0, 0))
theorem CoS.go {w W W' : World} {Bt U M X Y L : Nat} (h : CoS w W Bt U M X Y L) (hb : Below W.heap.size W W') : CoS w W' Bt U M X Y L :=
  ⟨h.b.trans (hb.mono h.b.size), (hb.block _ (lt_heap h.t)).trans h.t, (hb.block _ (lt_heap h.u)).trans h.u, h.tr.below hb, (hb.block _ (lt_heap h.l)).trans h.l⟩
theorem CoS.cells {w W : World} {Bt U M X Y L : Nat} (h : CoS w W Bt U M X Y L) : W.cell? ⟨Bt, 0, none⟩ = some (.int .i64 2) ∧ W.cell? ⟨Bt, 1, none⟩ = some (.int .i64 3) ∧ W.cell? ⟨Bt, 2, none⟩ = some (.int .i64 0) ∧ W.cell? ⟨Bt, 3, none⟩ = some (.string nS) ∧ W.cell? ⟨Bt, 4, none⟩ = some (.string starS) := cells5 h.t
theorem make2 : ∀ W : World, (Instr.makeSlice 22 (.int .i64 2) (.int .i64 2)).run Tryz.prog W = .ok (.slice (some ⟨W.heap.size, 0, none⟩) 2 2) (W.alloc (.cells (twoC z0 z0) 29)) := fun W => by
  kernel_rfl
def l2T (k : Nat) : Array Value := match k with
  | 0 => twoC z0 z0
  | 1 => twoC (atomR 3 wS) z0
  | _ => twoC (atomR 3 wS) (atomR 3 oS)
/-- The state of Convert's loop. -/
structure LoS (w W : World) (Bt U M X Y L g L2 : Nat) (cur : Array Value) (k : Nat) : Prop where
  c : CoS w W Bt U M X Y L
  gg : W.heap[g]? = some (.cells cur 24 (0, 0))
  l2 : W.heap[L2]? = some (.cells (l2T k) 29 (0, 0))
  ge : w.heap.size ≤ L2
  lt : Bt < L2 ∧ U < L2 ∧ X < L2 ∧ Y < L2 ∧ L < L2 ∧ g < L2
theorem LoS.go {w W W' : World} {Bt U M X Y L g L2 k : Nat} {cur : Array Value} (h : LoS w W Bt U M X Y L g L2 cur k) (hb : Below W.heap.size W W') : LoS w W' Bt U M X Y L g L2 cur k :=
  ⟨h.c.go hb, (hb.block _ (lt_heap h.gg)).trans h.gg, (hb.block _ (lt_heap h.l2)).trans h.l2, h.ge, h.lt⟩
theorem LoS.low {w W W' : World} {Bt U M X Y L g L2 k k' : Nat} {cur : Array Value} (h : LoS w W Bt U M X Y L g L2 cur k) (hb : Below L2 W W') (h2 : W'.heap[L2]? = some (.cells (l2T k') 29 (0, 0))) : LoS w W' Bt U M X Y L g L2 cur k' := by
  obtain ⟨n1, n2, n3, n4, n5, n6⟩ := h.lt
  have hb' : Below w.heap.size W W' := ⟨hb.os, hb.tape, hb.output, hb.size, fun k hk => hb.block k (Nat.lt_of_lt_of_le hk h.ge)⟩
  exact ⟨⟨h.c.b.trans hb', (hb.block _ n1).trans h.c.t, (hb.block _ n2).trans h.c.u, ⟨(hb.block _ n3).trans h.c.tr.x, (hb.block _ n4).trans h.c.tr.y⟩, (hb.block _ n5).trans h.c.l⟩, (hb.block _ n6).trans h.gg, h2, h.ge, h.lt⟩
theorem take4 {cur : Array Value} {a b c d : Value} (h : cur.toList.take 4 = [a, b, c, d]) : cur[0]? = some a ∧ cur[1]? = some b ∧ cur[2]? = some c ∧ cur[3]? = some d := by
  have key : ∀ i, i < 4 → cur[i]? = [a, b, c, d][i]? := fun i hi => by
    rw [← h, List.getElem?_take_of_lt hi, Array.getElem?_toList]
  exact ⟨key 0 (by omega), key 1 (by omega), key 2 (by omega), key 3 (by omega)⟩
set_option maxRecDepth 100000 in
set_option maxHeartbeats 8000000 in
theorem Convert_ex (X Y L : Nat) (w : World) (ht : Tabs w) (hT : Tr w X Y) (hl : w.heap[L]? = some (.cells (twoC (nodeR 1) (nodeR 2)) 29 (0, 0))) :
    Calls Tryz.prog 6 #[trV X, .slice (some ⟨L, 0, none⟩) 2 2, tyV (tyA 3 starS)] w fun e w' => ∃ v, e = .returned (.tuple #[v, .int .i64 0]) ∧ RdI w' [atomR 3 wS, atomR 3 oS] v ∧ Below w.heap.size w w' := by
  have HCk : Hid (∀ W, Below w.heap.size w W → Calls Tryz.prog 9 #[.agg #[.int .i64 2, .int .i64 3, .int .i64 0, .string nS, .string starS]] W fun e w' => e = .returned (.int .i64 0) ∧ Below W.heap.size W w') := Lib.hid fun W hW => by
    have := check_any (tyA 3 starS) W (ht.below hW) (by decide)
    rw [typeB_star] at this
    exact this
  have mk := make2
  have hmm := @run_makeMap Tryz.prog
  have HT := Lib.hid hT
  have HL := Lib.hid hl
  clear ht hT hl
  unfold tyV tyA trV
  simp only
  go_enter Tryz.func6, Tryz.ntmps6
  go_wp2_with fail
  obtain ⟨W0, hW0⟩ : ∃ W0, ((w.alloc (.cells #[.int .i64 2, .int .i64 3, .int .i64 0, .string nS, .string starS] 37)).alloc (.map #[] 0)).alloc (.cells #[.slice (some ⟨X, 0, none⟩) 1 1, .map (some (w.heap.size + 1))] 49) = W0 := ⟨_, rfl⟩
  have hb0 : Below w.heap.size w W0 := hW0 ▸ (((Below.refl _ w).alloc (Nat.le_refl _) _).alloc (by simp) _).alloc (by simp <;> omega) _
  have S0 := Lib.hid (show CoS w W0 w.heap.size (w.heap.size + 1 + 1) (w.heap.size + 1) X Y L from ⟨hb0, hW0 ▸ hp_past (hp_past (hp_new rfl)), hW0 ▸ hp_new (by simp), HT.out.below hb0, (hb0.block _ (lt_heap HL.out)).trans HL.out⟩)
  have M0 : Hid (W0.ownsMap Tryz.prog 3 gE (w.heap.size + 1) 0 mD0) := Lib.hid (by
    have h := World.ownsMap_made (w.alloc (.cells #[.int .i64 2, .int .i64 3, .int .i64 0, .string nS, .string starS] 37)) Tryz.prog 3 gE
    rw [World.size_alloc] at h
    exact hW0 ▸ h.alloc _)
  rw [hW0]
  refine (HCk.out _ hb0).mono ?_
  rintro e w1 ⟨rfl, hb⟩
  replace S0 := Lib.hid (S0.out.go hb)
  replace M0 := Lib.hid (own_kept M0.out hb)
  clear hb hb0 HCk hW0 hmm
  generalize hBt : w.heap.size = Bt at *
  generalize hU : Bt + 1 + 1 = U at *
  generalize hM : Bt + 1 = M at *
  go_wp2_with fail
  refine (all_nodes U M X Y L 0 w1 ⟨S0.out.u, M0.out⟩ S0.out.tr S0.out.l (by omega)).mono ?_
  rintro e w2 ⟨rfl, hg, ⟨n', _, hu2⟩, ht2⟩
  have S2 := Lib.hid (show CoS w w2 Bt U M X Y L from ⟨GrB.below S0.out.b (fun k e => by rw [hBt]; omega) hg, (hg.block _ (lt_heap S0.out.t) (map_ne M0.out S0.out.t)).trans S0.out.t, hu2.u, ht2, (hg.block _ (lt_heap S0.out.l) (map_ne M0.out S0.out.l)).trans S0.out.l⟩)
  clear S0 M0 hg hu2 ht2
  obtain ⟨d0, d1', d2', d3', d4'⟩ := S2.out.cells
  go_wp2_with fail
  have hv2 : VaS w2 w2 U M X Y L := ⟨Below.refl _ _, S2.out.u, S2.out.tr, S2.out.l, lt_heap S2.out.u, S2.out.tr.lt.1, S2.out.tr.lt.2, lt_heap S2.out.l⟩
  refine (values_ex U M X Y L w2 hv2).mono ?_
  rintro e w3 ⟨v, rfl, ⟨g, cap, rfl, hov⟩, hb⟩
  have S3 := Lib.hid (S2.out.go hb)
  obtain ⟨cur, hcur, hc4⟩ : ∃ cur, w3.heap[g]? = some (.cells cur 24 (0, 0)) ∧ cur.toList.take 4 = [.int .i64 0, .string wS, .int .i64 0, .string oS] := by
    rcases hov.2 with ⟨e, _⟩ | ⟨g', cap', cur, e, _, h3, _, _, _, h7⟩
    · cases e
    · cases e; exact ⟨cur, h3, h7⟩
  have HK : Hid (cur[0]? = some (.int .i64 0) ∧ cur[1]? = some (.string wS) ∧ cur[2]? = some (.int .i64 0) ∧ cur[3]? = some (.string oS)) := Lib.hid (take4 hc4)
  have HG := Lib.hid hcur
  clear hb S2 hov hcur hc4 hv2 d0 d1' d2' d3' d4'
  go_upto_region 9 with fail
  have hsz : Bt < w3.heap.size ∧ U < w3.heap.size ∧ X < w3.heap.size ∧ Y < w3.heap.size ∧ L < w3.heap.size ∧ g < w3.heap.size := ⟨lt_heap S3.out.t, lt_heap S3.out.u, S3.out.tr.lt.1, S3.out.tr.lt.2, lt_heap S3.out.l, lt_heap HG.out⟩
  have Q0 := Lib.hid (show LoS w (w3.alloc (.cells (twoC z0 z0) 29)) Bt U M X Y L g w3.heap.size cur 0 from ⟨S3.out.go (box1 _ _ _), hp_past HG.out, hp_new rfl, S3.out.b.size, hsz⟩)
  clear S3 HG hsz mk
  generalize hL2 : w3.heap.size = L2 at *
  generalize w3.alloc (.cells (twoC z0 z0) 29) = W4 at *
  clear hL2
  go_wp2
  go_loopw [53] (fun i wr => ∃ k : Nat, k ≤ 2 ∧ i = .int .i64 k ∧ Hid (LoS w wr Bt U M X Y L g L2 cur k)) (fun i _ => 2 - (intOf i).toNat)
  case atStart => exact ⟨0, by omega, rfl, Q0⟩
  case round =>
    obtain ⟨k, hk, rfl, Q⟩ := hrel
    clear Q0
    have hk' : k = 0 ∨ k = 1 ∨ k = 2 := by omega
    obtain ⟨k0, k1, k2, k3⟩ := HK.out
    rcases hk' with rfl | rfl | rfl
    · have c0 : wr.cell? ⟨g, 0, none⟩ = some (.int .i64 0) := (cell_of_row _ _ 0 _ _ _ Q.out.gg).trans k0
      have c1 : wr.cell? ⟨g, 1, none⟩ = some (.string wS) := (cell_of_row _ _ 1 _ _ _ Q.out.gg).trans k1
      obtain ⟨d0, d1', d2', d3', d4'⟩ := Q.out.c.cells
      have hlt := lt_heap Q.out.c.t
      go_wp2_with fail
      refine (convert_ex (s := wS) (.inr rfl) starS _ _).mono ?_
      rintro e w5 ⟨rfl, hb⟩
      have Q5 := Lib.hid (Q.out.go ((box1 wr _ _).trans (hb.mono (by simp))))
      clear hb c0 c1 d0 d1' d2' d3' d4' hlt Q
      have hbl : w5.heap[L2]? = some (.cells (l2T 0) 29 (0, 0)) := Q5.out.l2
      have fz := fun j => frz_of hbl j
      have e0 : w5.cell? ⟨L2, 0, none⟩ = some (.int .i64 0) := cell_of_row _ _ 0 _ _ _ hbl
      have e1 : w5.cell? ⟨L2, 1, none⟩ = some (.int .i64 0) := cell_of_row _ _ 1 _ _ _ hbl
      have e2 : w5.cell? ⟨L2, 2, none⟩ = some (.string eS) := cell_of_row _ _ 2 _ _ _ hbl
      have e3 : w5.cell? ⟨L2, 3, none⟩ = some (.int .i64 0) := cell_of_row _ _ 3 _ _ _ hbl
      have e4 : w5.cell? ⟨L2, 4, none⟩ = some (.int .i64 0) := cell_of_row _ _ 4 _ _ _ hbl
      have e5 : w5.cell? ⟨L2, 5, none⟩ = some (.slice none 0 0) := cell_of_row _ _ 5 _ _ _ hbl
      have e6 : w5.cell? ⟨L2, 6, none⟩ = some (.slice none 0 0) := cell_of_row _ _ 6 _ _ _ hbl
      have e7 : w5.cell? ⟨L2, 7, none⟩ = some (.pointer none) := cell_of_row _ _ 7 _ _ _ hbl
      have hbb : Below L2 w5 ((((((((w5.setCell ⟨L2, 0, none⟩ (.int .i64 0)).setCell ⟨L2, 1, none⟩ (.int .i64 3)).setCell ⟨L2, 2, none⟩ (.string wS)).setCell ⟨L2, 3, none⟩ (.int .i64 0)).setCell ⟨L2, 4, none⟩ (.int .i64 0)).setCell ⟨L2, 5, none⟩ (.slice none 0 0)).setCell ⟨L2, 6, none⟩ (.slice none 0 0)).setCell ⟨L2, 7, none⟩ (.pointer none)) := ((((((((Below.refl L2 w5).setCell (p := ⟨L2, 0, none⟩) (Nat.le_refl _) (.int .i64 0)).setCell (p := ⟨L2, 1, none⟩) (Nat.le_refl _) (.int .i64 3)).setCell (p := ⟨L2, 2, none⟩) (Nat.le_refl _) (.string wS)).setCell (p := ⟨L2, 3, none⟩) (Nat.le_refl _) (.int .i64 0)).setCell (p := ⟨L2, 4, none⟩) (Nat.le_refl _) (.int .i64 0)).setCell (p := ⟨L2, 5, none⟩) (Nat.le_refl _) (.slice none 0 0)).setCell (p := ⟨L2, 6, none⟩) (Nat.le_refl _) (.slice none 0 0)).setCell (p := ⟨L2, 7, none⟩) (Nat.le_refl _) (.pointer none)
      have hnew : ((((((((w5.setCell ⟨L2, 0, none⟩ (.int .i64 0)).setCell ⟨L2, 1, none⟩ (.int .i64 3)).setCell ⟨L2, 2, none⟩ (.string wS)).setCell ⟨L2, 3, none⟩ (.int .i64 0)).setCell ⟨L2, 4, none⟩ (.int .i64 0)).setCell ⟨L2, 5, none⟩ (.slice none 0 0)).setCell ⟨L2, 6, none⟩ (.slice none 0 0)).setCell ⟨L2, 7, none⟩ (.pointer none)).heap[L2]? = some (.cells (l2T 1) 29 (0, 0)) := (set_same (i := 7) (set_same (i := 6) (set_same (i := 5) (set_same (i := 4) (set_same (i := 3) (set_same (i := 2) (set_same (i := 1) (set_same (i := 0) hbl (.int .i64 0)) (.int .i64 3)) (.string wS)) (.int .i64 0)) (.int .i64 0)) (.slice none 0 0)) (.slice none 0 0)) (.pointer none))
      have Q6 := Lib.hid (Q5.out.low hbb hnew)
      clear hbb hnew hbl
      unfold itV atomR
      simp only
      go_wp2
      go_roundw
      case rel => exact ⟨1, by omega, rfl, Q6⟩
      case measure => simp [intOf]
    · have c0 : wr.cell? ⟨g, 2, none⟩ = some (.int .i64 0) := (cell_of_row _ _ 2 _ _ _ Q.out.gg).trans k2
      have c1 : wr.cell? ⟨g, 3, none⟩ = some (.string oS) := (cell_of_row _ _ 3 _ _ _ Q.out.gg).trans k3
      obtain ⟨d0, d1', d2', d3', d4'⟩ := Q.out.c.cells
      have hlt := lt_heap Q.out.c.t
      go_wp2_with fail
      refine (convert_ex (s := oS) (.inl rfl) starS _ _).mono ?_
      rintro e w5 ⟨rfl, hb⟩
      have Q5 := Lib.hid (Q.out.go ((box1 wr _ _).trans (hb.mono (by simp))))
      clear hb c0 c1 d0 d1' d2' d3' d4' hlt Q
      have hbl : w5.heap[L2]? = some (.cells (l2T 1) 29 (0, 0)) := Q5.out.l2
      have fz := fun j => frz_of hbl j
      have e0 : w5.cell? ⟨L2, 8, none⟩ = some (.int .i64 0) := cell_of_row _ _ 8 _ _ _ hbl
      have e1 : w5.cell? ⟨L2, 9, none⟩ = some (.int .i64 0) := cell_of_row _ _ 9 _ _ _ hbl
      have e2 : w5.cell? ⟨L2, 10, none⟩ = some (.string eS) := cell_of_row _ _ 10 _ _ _ hbl
      have e3 : w5.cell? ⟨L2, 11, none⟩ = some (.int .i64 0) := cell_of_row _ _ 11 _ _ _ hbl
      have e4 : w5.cell? ⟨L2, 12, none⟩ = some (.int .i64 0) := cell_of_row _ _ 12 _ _ _ hbl
      have e5 : w5.cell? ⟨L2, 13, none⟩ = some (.slice none 0 0) := cell_of_row _ _ 13 _ _ _ hbl
      have e6 : w5.cell? ⟨L2, 14, none⟩ = some (.slice none 0 0) := cell_of_row _ _ 14 _ _ _ hbl
      have e7 : w5.cell? ⟨L2, 15, none⟩ = some (.pointer none) := cell_of_row _ _ 15 _ _ _ hbl
      have hbb : Below L2 w5 ((((((((w5.setCell ⟨L2, 8, none⟩ (.int .i64 0)).setCell ⟨L2, 9, none⟩ (.int .i64 3)).setCell ⟨L2, 10, none⟩ (.string oS)).setCell ⟨L2, 11, none⟩ (.int .i64 0)).setCell ⟨L2, 12, none⟩ (.int .i64 0)).setCell ⟨L2, 13, none⟩ (.slice none 0 0)).setCell ⟨L2, 14, none⟩ (.slice none 0 0)).setCell ⟨L2, 15, none⟩ (.pointer none)) := ((((((((Below.refl L2 w5).setCell (p := ⟨L2, 8, none⟩) (Nat.le_refl _) (.int .i64 0)).setCell (p := ⟨L2, 9, none⟩) (Nat.le_refl _) (.int .i64 3)).setCell (p := ⟨L2, 10, none⟩) (Nat.le_refl _) (.string oS)).setCell (p := ⟨L2, 11, none⟩) (Nat.le_refl _) (.int .i64 0)).setCell (p := ⟨L2, 12, none⟩) (Nat.le_refl _) (.int .i64 0)).setCell (p := ⟨L2, 13, none⟩) (Nat.le_refl _) (.slice none 0 0)).setCell (p := ⟨L2, 14, none⟩) (Nat.le_refl _) (.slice none 0 0)).setCell (p := ⟨L2, 15, none⟩) (Nat.le_refl _) (.pointer none)
      have hnew : ((((((((w5.setCell ⟨L2, 8, none⟩ (.int .i64 0)).setCell ⟨L2, 9, none⟩ (.int .i64 3)).setCell ⟨L2, 10, none⟩ (.string oS)).setCell ⟨L2, 11, none⟩ (.int .i64 0)).setCell ⟨L2, 12, none⟩ (.int .i64 0)).setCell ⟨L2, 13, none⟩ (.slice none 0 0)).setCell ⟨L2, 14, none⟩ (.slice none 0 0)).setCell ⟨L2, 15, none⟩ (.pointer none)).heap[L2]? = some (.cells (l2T 2) 29 (0, 0)) := (set_same (i := 15) (set_same (i := 14) (set_same (i := 13) (set_same (i := 12) (set_same (i := 11) (set_same (i := 10) (set_same (i := 9) (set_same (i := 8) hbl (.int .i64 0)) (.int .i64 3)) (.string oS)) (.int .i64 0)) (.int .i64 0)) (.slice none 0 0)) (.slice none 0 0)) (.pointer none))
      have Q6 := Lib.hid (Q5.out.low hbb hnew)
      clear hbb hnew hbl
      unfold itV atomR
      simp only
      go_wp2
      go_roundw
      case rel => exact ⟨2, by omega, rfl, Q6⟩
      case measure => simp [intOf]
    · obtain ⟨d0, d1', d2', d3', d4'⟩ := Q.out.c.cells
      go_wp2_with fail
      refine (of_ex 3 (.inl rfl) wS oS starS true (.inl ⟨rfl, rfl⟩) U L2 _ Q.out.l2).mono ?_
      rintro e w6 ⟨rfl, hb⟩
      have Q6 := Lib.hid (Q.out.go hb)
      clear hb Q d0 d1' d2' d3' d4'
      go_wp2_with fail
      refine (copied_any [atomR 3 wS, atomR 3 oS] _ _ (two_rd Q6.out.l2) (by simp) (by simp) (fun r hr => ?_)).mono ?_
      · simp only [List.mem_cons, List.not_mem_nil, or_false] at hr
        rcases hr with rfl | rfl <;> exact ⟨rfl, rfl, rfl⟩
      · rintro e w7 ⟨v, rfl, hrd, _, hb⟩
        have HR := Lib.hid hrd
        have HB := Lib.hid (Q6.out.c.b.trans (hb.mono Q6.out.c.b.size))
        obtain ⟨A, c, rfl, _⟩ := hrd.form
        clear hb hrd Q6
        go_wp2
        go_ret2
        exact ⟨_, rfl, HR.out, by first | exact HB.out | (rw [hBt]; exact HB.out)⟩
end Go.Proofs.YtajkdllakleakaaGreatDoor
/- Chapter 16: Match of two atoms. -/
namespace Go.Proofs.YtajkdllakleakaaGreatDoor
open Go.RowKit Go.WideMaps
set_option linter.unusedVariables false
set_option linter.unusedSimpArgs false

theorem tyC_cells {W : World} {B : Nat} {ta : Int} {oc : ByteArray} (h : W.heap[B]? = some (.cells (tyC ta oc) 37 (0, 0))) : W.cell? ⟨B, 0, none⟩ = some (.int .i64 2) ∧ W.cell? ⟨B, 1, none⟩ = some (.int .i64 ta) ∧ W.cell? ⟨B, 2, none⟩ = some (.int .i64 0) ∧ W.cell? ⟨B, 3, none⟩ = some (.string nS) ∧ W.cell? ⟨B, 4, none⟩ = some (.string oc) := cells5 h
set_option maxRecDepth 100000 in
set_option maxHeartbeats 2000000 in
theorem Match_ex (ta : Int) (hta : ta = 3 ∨ ta = 4) (oc : ByteArray) (b : Bool) (hoc : (oc = { data := #[42] } ∧ b = true) ∨ (oc = { data := #[43] } ∧ b = true) ∨ (oc = nS ∧ b = false)) (htb : typeB (tyA ta oc) = true) (L : Nat) (w : World) (ht : Tabs w) (hl : w.heap[L]? = some (.cells (twoC (atomR 3 d1) (atomR 3 d1)) 29 (0, 0))) :
    Calls Tryz.prog 19 #[.slice none 0 0, .slice (some ⟨L, 0, none⟩) 2 2, tyV (tyA ta oc)] w fun e w' => e = .returned (.bool b) ∧ Below w.heap.size w w' := by
  have HCk : Hid (∀ W, Below w.heap.size w W → Calls Tryz.prog 9 #[.agg #[.int .i64 2, .int .i64 ta, .int .i64 0, .string nS, .string oc]] W fun e w' => e = .returned (.int .i64 0) ∧ Below W.heap.size W w') := Lib.hid fun W hW => by
    have := check_any (tyA ta oc) W (ht.below hW) (show nS.size ≤ 1000000 by decide)
    rw [htb] at this
    exact this
  have HO : Hid (∀ U W, W.heap[L]? = some (.cells (twoC (atomR 3 d1) (atomR 3 d1)) 29 (0, 0)) → Calls Tryz.prog 14 #[.pointer (some ⟨U, 0, none⟩), .slice (some ⟨L, 0, none⟩) 2 2, .agg #[.int .i64 2, .int .i64 ta, .int .i64 0, .string nS, .string oc]] W fun e w' => e = .returned (.bool b) ∧ Below W.heap.size W w') := Lib.hid fun U W h => of_ex ta hta d1 d1 oc b hoc U L W h
  have hmm := @run_makeMap Tryz.prog
  have HL := Lib.hid hl
  clear ht hl hoc hta htb
  unfold tyV tyA
  simp only
  go_enter Tryz.func19, Tryz.ntmps19
  go_wp2_with fail
  obtain ⟨W0, hW0⟩ : ∃ W0, ((w.alloc (.cells #[.int .i64 2, .int .i64 ta, .int .i64 0, .string nS, .string oc] 37)).alloc (.map #[] 0)).alloc (.cells #[.slice none 0 0, .map (some (w.heap.size + 1))] 49) = W0 := ⟨_, rfl⟩
  have hb0 : Below w.heap.size w W0 := hW0 ▸ (((Below.refl _ w).alloc (Nat.le_refl _) _).alloc (by simp) _).alloc (by simp <;> omega) _
  have T0 : Hid (W0.heap[w.heap.size]? = some (.cells (tyC ta oc) 37 (0, 0))) := Lib.hid (hW0 ▸ hp_past (hp_past (hp_new rfl)))
  rw [hW0]
  refine (HCk.out _ hb0).mono ?_
  rintro e w1 ⟨rfl, hb⟩
  have HB1 := Lib.hid (hb0.trans (hb.mono hb0.size))
  have T1 := Lib.hid ((hb.block _ (lt_heap T0.out)).trans T0.out)
  have L1 := Lib.hid ((HB1.out.block _ (lt_heap HL.out)).trans HL.out)
  clear hb hb0 hW0 T0 HCk hmm
  go_wp2_with fail
  refine (all_atoms _ L d1 d1 (.inl rfl) (.inl rfl) w1 L1.out).mono ?_
  rintro e w2 ⟨rfl, hb⟩
  have HB2 := Lib.hid (HB1.out.trans (hb.mono HB1.out.size))
  have T2 := Lib.hid ((hb.block _ (lt_heap T1.out)).trans T1.out)
  have L2 := Lib.hid ((hb.block _ (lt_heap L1.out)).trans L1.out)
  clear hb HB1 T1 L1
  obtain ⟨d0, d1', d2', d3', d4'⟩ := tyC_cells T2.out
  go_wp2_with fail
  refine (HO.out _ _ L2.out).mono ?_
  rintro e w3 ⟨rfl, hb⟩
  have HB3 := Lib.hid (HB2.out.trans (hb.mono HB2.out.size))
  clear hb
  go_wp2
  go_ret
  exact ⟨rB (by simp), HB3.out⟩
end Go.Proofs.YtajkdllakleakaaGreatDoor
