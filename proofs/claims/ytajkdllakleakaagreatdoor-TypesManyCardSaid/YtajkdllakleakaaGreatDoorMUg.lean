/- Chapter 16: Convert of n whole numbers to numbers. -/
import Derived.Test.YtajkdllakleakaaGreatDoorMUf
namespace Go.Proofs.YtajkdllakleakaaGreatDoor
open Go.RowKit Go.WideMaps
set_option linter.unusedVariables false
set_option linter.unusedSimpArgs false

def sev (n : Nat) : List IRow := List.replicate n (atomR 3 d7)
theorem sev_at {n : Nat} {r : IRow} (h : r ∈ sev n) : r = atomR 3 d7 := List.eq_of_mem_replicate h
theorem atmF_sev (n : Nat) : (atmF (sev n)).length = n * 2 := by
  induction n with
  | zero => rfl
  | succ n ih =>
    unfold sev at ih ⊢
    rw [List.replicate_succ]
    show ([Value.int .i64 3, Value.string d7] ++ atmF (List.replicate n (atomR 3 d7))).length = _
    rw [List.length_append, ih]
    simp
    omega
theorem atmF_get (n : Nat) : ∀ j, j < n → (atmF (sev n))[j * 2]? = some (.int .i64 3) ∧ (atmF (sev n))[j * 2 + 1]? = some (.string d7) := by
  induction n with
  | zero => intro j hj; omega
  | succ n ih =>
    intro j hj
    have e : atmF (sev (n + 1)) = Value.int .i64 3 :: Value.string d7 :: atmF (sev n) := by
      unfold sev
      rw [List.replicate_succ]
      rfl
    rw [e]
    cases j with
    | zero => exact ⟨rfl, rfl⟩
    | succ j =>
      obtain ⟨h1, h2⟩ := ih j (by omega)
      rw [show (j + 1) * 2 = j * 2 + 1 + 1 by omega]
      exact ⟨by simpa using h1, by simpa using h2⟩
/-- The state of Convert's loop. -/
structure CvS (w W : World) (Bt g L2 n k : Nat) (cur : Array Value) : Prop where
  b : Below w.heap.size w W
  t : W.heap[Bt]? = some (.cells plC 37 (0, 0))
  gg : W.heap[g]? = some (.cells cur 24 (0, 0))
  f : FillS W L2 n k d7
  ge : w.heap.size ≤ L2
  lt : Bt < L2 ∧ g < L2
theorem CvS.go {w W W' : World} {Bt g L2 n k : Nat} {cur : Array Value} (h : CvS w W Bt g L2 n k cur) (hb : Below W.heap.size W W') : CvS w W' Bt g L2 n k cur :=
  ⟨h.b.trans (hb.mono h.b.size), (hb.block _ (lt_heap h.t)).trans h.t, (hb.block _ (lt_heap h.gg)).trans h.gg, h.f.go hb, h.ge, h.lt⟩
theorem CvS.step {w W : World} {Bt g L2 n k : Nat} {cur : Array Value} (h : CvS w W Bt g L2 n k cur) (hk : k < n) : CvS w (W.setCells L2 (k * 8) (atomR 3 d7).cells) Bt g L2 n (k + 1) cur := by
  have hb : Below L2 W (W.setCells L2 (k * 8) (atomR 3 d7).cells) := bel_setCells (Nat.le_refl _) _ _ _ _ (Below.refl _ _)
  have hb' : Below w.heap.size W (W.setCells L2 (k * 8) (atomR 3 d7).cells) := ⟨hb.os, hb.tape, hb.output, hb.size, fun k hk => hb.block k (Nat.lt_of_lt_of_le hk h.ge)⟩
  exact ⟨h.b.trans hb', (hb.block _ h.lt.1).trans h.t, (hb.block _ h.lt.2).trans h.gg, h.f.step hk, h.ge, h.lt⟩
/-- What Convert gives. -/
def CvP (w : World) (n : Nat) (e : Ending) (w' : World) : Prop := ∃ A m c, e = .returned (.tuple #[.slice A m c, .int .i64 (if 65536 < n then 7 else 0)]) ∧ (m = if 65536 < n then 0 else n) ∧ Below w.heap.size w w'
set_option maxRecDepth 100000 in
set_option maxHeartbeats 8000000 in
theorem Convert_num (n : Nat) (A0 : Option Addr) (k0 c0 : Nat) (w : World) (ht : Tabs w) (hn : 0 < n) (hn' : n ≤ 900000)
    (hall : ∀ U W, Below w.heap.size w W → Calls Tryz.prog 11 #[.pointer (some ⟨U, 0, none⟩), .slice A0 k0 c0] W fun e w' => e = .returned (.bool true) ∧ Below W.heap.size W w')
    (hval : ∀ U W, Below w.heap.size w W → Calls Tryz.prog 12 #[.pointer (some ⟨U, 0, none⟩), .slice A0 k0 c0, .slice none 0 0] W (ValP W n (atmF (sev n)))) :
    Calls Tryz.prog 6 #[.slice none 0 0, .slice A0 k0 c0, tyV plT] w (CvP w n) := by
  have HCk : Hid (∀ W, Below w.heap.size w W → Calls Tryz.prog 9 #[.agg #[.int .i64 4, .int .i64 0, .int .i64 0, .string nS, .string plS]] W fun e w' => e = .returned (.int .i64 0) ∧ Below W.heap.size W w') := Lib.hid fun W hW => by
    have := check_any plT W (ht.below hW) (by decide)
    rw [typeB_pl] at this
    exact this
  have HCv : Hid (∀ U W, Calls Tryz.prog 13 #[.pointer (some ⟨U, 0, none⟩), .agg #[.int .i64 3, .string d7], .agg #[.int .i64 4, .int .i64 0, .int .i64 0, .string nS, .string plS]] W fun e w' => e = .returned (.tuple #[itV (atomR 3 d7), .int .i64 0]) ∧ Below W.heap.size W w') := Lib.hid fun U W => convert_num d7 _ W
  have HOf : Hid (∀ U W v, RdI W (sev n) v → Calls Tryz.prog 14 #[.pointer (some ⟨U, 0, none⟩), v, .agg #[.int .i64 4, .int .i64 0, .int .i64 0, .string nS, .string plS]] W fun e w' => e = .returned (.bool true) ∧ Below W.heap.size W w') := Lib.hid fun U W v hv => of_num (sev n) v (by simp [sev]; omega) (by simp [sev]; omega) (fun r hr => ⟨d7, sev_at hr⟩) U W hv
  have HCp : Hid (∀ W v, RdI W (sev n) v → Calls Tryz.prog 15 #[v] W fun e w' => ∃ v', e = .returned v' ∧ RdI w' (sev n) v' ∧ OwnI w' W.heap.size v' (sev n) ∧ Below W.heap.size W w') := Lib.hid fun W v hv => copied_any (sev n) v W hv (by simp [sev]; omega) (by simp [sev]; omega) (fun r hr => by rw [sev_at hr]; exact ⟨rfl, rfl, rfl⟩)
  have HA := Lib.hid hall
  have HV := Lib.hid hval
  have mk := make_itm n (by omega)
  have hmm := @run_makeMap Tryz.prog
  have hinfo : (Tryz.prog.info? 29).map (·.size) = some 8 := by kernel_rfl
  clear ht hall hval
  unfold tyV plT ValP at *
  simp only
  go_enter Tryz.func6, Tryz.ntmps6
  go_wp2_with fail
  obtain ⟨W0, hW0⟩ : ∃ W0, ((w.alloc (.cells #[.int .i64 4, .int .i64 0, .int .i64 0, .string nS, .string plS] 37)).alloc (.map #[] 0)).alloc (.cells #[.slice none 0 0, .map (some (w.heap.size + 1))] 49) = W0 := ⟨_, rfl⟩
  have hb0 : Below w.heap.size w W0 := hW0 ▸ (((Below.refl _ w).alloc (Nat.le_refl _) _).alloc (by simp) _).alloc (by simp <;> omega) _
  have T0 : Hid (W0.heap[w.heap.size]? = some (.cells plC 37 (0, 0))) := Lib.hid (hW0 ▸ hp_past (hp_past (hp_new rfl)))
  rw [hW0]
  refine (HCk.out _ hb0).mono ?_
  rintro e w1 ⟨rfl, hb⟩
  have B1 := Lib.hid (hb0.trans (hb.mono hb0.size))
  have T1 := Lib.hid ((hb.block _ (lt_heap T0.out)).trans T0.out)
  clear hb hb0 HCk hW0 hmm T0
  generalize hBt : w.heap.size = Bt at *
  go_wp2_with fail
  refine (HA.out _ _ B1.out).mono ?_
  rintro e w2 ⟨rfl, hb⟩
  have B2 := Lib.hid (B1.out.trans (hb.mono (by have := B1.out.size; omega)))
  have T2 := Lib.hid ((hb.block _ (lt_heap T1.out)).trans T1.out)
  clear hb B1 T1 HA
  obtain ⟨d0, d1', d2', d3', d4'⟩ := cells5 T2.out
  go_wp2_with fail
  refine (HV.out _ _ B2.out).mono ?_
  rintro e w3 ⟨v, rfl, hov, hb⟩
  have B3 := Lib.hid (B2.out.trans (hb.mono (by have := B2.out.size; omega)))
  have T3 := Lib.hid ((hb.block _ (lt_heap T2.out)).trans T2.out)
  obtain ⟨g, cap, cur, rfl, hcur, hc2⟩ : ∃ g cap cur, v = .slice (some ⟨g, 0, none⟩) n cap ∧ w3.heap[g]? = some (.cells cur 24 (0, 0)) ∧ cur.toList.take (n * 2) = atmF (sev n) := by
    rcases hov.2 with ⟨e, h0⟩ | ⟨g', cap', cur, e, _, h3, _, _, _, h7⟩
    · omega
    · exact ⟨g', cap', cur, e, h3, h7⟩
  have HK : Hid (∀ j, j < n → cur[j * 2]? = some (.int .i64 3) ∧ cur[j * 2 + 1]? = some (.string d7)) := Lib.hid fun j hj => by
    have key : ∀ i, i < n * 2 → cur[i]? = (atmF (sev n))[i]? := fun i hi => by
      rw [← hc2, List.getElem?_take_of_lt hi, Array.getElem?_toList]
    obtain ⟨h1, h2⟩ := atmF_get n j hj
    exact ⟨(key _ (by omega)).trans h1, (key _ (by omega)).trans h2⟩
  have HG := Lib.hid hcur
  clear hb B2 T2 hov hcur hc2 d0 d1' d2' d3' d4' HV
  by_cases hz : 65536 < n
  · rw [if_pos hz]
    go_wp2
    go_ret2
    unfold CvP
    exact ⟨_, _, _, by first | rfl | (rw [if_pos hz]; rfl), by rw [if_pos hz], by rw [hBt]; exact B3.out⟩
  · rw [if_neg hz]
    go_upto_region 9 with fail
    have Q0 := Lib.hid (show CvS w (w3.alloc (zItm n)) Bt g w3.heap.size n 0 cur from ⟨by rw [hBt]; exact B3.out.trans (((Below.refl _ w3).alloc (Nat.le_refl _) _).mono (by have := B3.out.size; omega)), hp_past T3.out, hp_past HG.out, FillS.new w3 n d7, B3.out.size, lt_heap T3.out, lt_heap HG.out⟩)
    clear B3 T3 HG mk
    generalize hL2 : w3.heap.size = L2 at *
    generalize w3.alloc (zItm n) = W4 at *
    clear hL2
    go_wp2
    go_loopw [53] (fun i wr => ∃ k : Nat, k ≤ n ∧ i = .int .i64 k ∧ Hid (CvS w wr Bt g L2 n k cur)) (fun i _ => n - (intOf i).toNat)
    case atStart => exact ⟨0, by omega, rfl, Q0⟩
    case round =>
      obtain ⟨k, hk, rfl, Q⟩ := hrel
      clear Q0
      by_cases hlt : k < n
      · obtain ⟨k0, k1⟩ := HK.out k hlt
        have c0 : wr.cell? ⟨g, 0 + k * 2, none⟩ = some (.int .i64 3) := (cell_of_row _ _ _ _ _ _ Q.out.gg).trans (by rw [Nat.zero_add]; exact k0)
        have c1 : wr.cell? ⟨g, 0 + k * 2 + 1, none⟩ = some (.string d7) := (cell_of_row _ _ _ _ _ _ Q.out.gg).trans (by rw [Nat.zero_add]; exact k1)
        have c0' : wr.cell? ⟨g, k * 2, none⟩ = some (.int .i64 3) := by simpa using c0
        have c1' : wr.cell? ⟨g, k * 2 + 1, none⟩ = some (.string d7) := by simpa using c1
        obtain ⟨d0, d1', d2', d3', d4'⟩ := cells5 Q.out.t
        have hlb := lt_heap Q.out.t
        clear k0 k1
        go_wp2_with fail
        refine (HCv.out _ _).mono ?_
        rintro e w5 ⟨rfl, hb⟩
        have Q5 := Lib.hid (Q.out.go ((box1 wr _ _).trans (hb.mono (by simp))))
        clear hb c0 c1 c0' c1' d0 d1' d2' d3' d4' hlb Q
        have Q6 := Lib.hid (Q5.out.step hlt)
        have hthere := Q5.out.f.row hlt
        unfold itV atomR
        simp only
        go_wp2_with (refine wpList_store_mid rfl 29 (.tmp 67) (.tmp 65) rfl L2 (k * 8) ?cells ?hx ?hy ?ht ?hi ?h1 ?_)
        case cells => exact #[.int .i64 0, .int .i64 3, .string d7, .int .i64 0, .int .i64 0, .slice none 0 0, .slice none 0 0, .pointer none]
        case hx => first | rfl | simp
        case hy => rfl
        case ht => exact hthere
        case hi => exact hinfo
        case h1 => simp [Value.oneCell']
        obtain ⟨w6, hw6⟩ : ∃ w6, w5.setCells L2 (k * 8) (#[.int .i64 0, .int .i64 3, .string d7, .int .i64 0, .int .i64 0, .slice none 0 0, .slice none 0 0, .pointer none] : Array Value).toList = w6 := ⟨_, rfl⟩
        have Q7 : Hid (CvS w w6 Bt g L2 n (k + 1) cur) := Lib.hid (hw6 ▸ Q6.out)
        rw [hw6]
        clear Q6 Q5 hthere hw6
        go_wp2
        go_roundw
        case rel => exact ⟨k + 1, by omega, by go_num, Q7⟩
        case measure => simp [intOf]; omega
      · obtain rfl : k = n := by omega
        have hRd := Lib.hid (Q.out.f.reads (by omega))
        obtain ⟨d0, d1', d2', d3', d4'⟩ := cells5 Q.out.t
        go_wp2_with fail
        refine (HOf.out _ _ _ hRd.out).mono ?_
        rintro e w5 ⟨rfl, hb⟩
        have Q5 := Lib.hid (Q.out.go hb)
        clear hb d0 d1' d2' d3' d4' Q hRd
        have hRd := Lib.hid (Q5.out.f.reads (by omega))
        go_wp2_with fail
        refine (HCp.out _ _ hRd.out).mono ?_
        rintro e w6 ⟨v', rfl, hr, _, hb⟩
        obtain ⟨A', c', rfl, _⟩ := hr.form
        have B6 := Lib.hid (Q5.out.b.trans (hb.mono Q5.out.b.size))
        have hsl : (sev k).length = k := by simp [sev]
        rw [hsl]
        clear hb hr hRd Q5
        go_wp2
        go_ret2
        unfold CvP
        exact ⟨_, _, _, by first | rfl | (rw [if_neg hz]; rfl), by rw [if_neg hz], B6.out⟩
end Go.Proofs.YtajkdllakleakaaGreatDoor
