/- Chapter 16: the atoms of an array of two rows of atoms. -/
import Derived.Test.YtajkdllakleakaaGreatDoorMUc
import Derived.Test.YtajkdllakleakaaGreatDoorMUb
namespace Go.Proofs.YtajkdllakleakaaGreatDoor
open Go.RowKit
set_option linter.unusedVariables false
set_option linter.unusedSimpArgs false

/-- What has been added, and whether it is too long, behind so many members. -/
def InV (w wr : World) (l0 l1 : List IRow) (j : Nat) (q lg : Value) : Prop := match j with
  | 0 => q = .slice none 0 0 ∧ lg = .bool false
  | 1 => OwnA wr w.heap.size q l0.length (atmF l0) ∧ lg = .bool false
  | _ => OwnA wr w.heap.size q (l0.length + l1.length) (atmF l0 ++ atmF l1) ∧ lg = .bool (decide (65536 < l0.length + l1.length))
set_option maxRecDepth 100000 in
set_option maxHeartbeats 4000000 in
theorem values_arr (U g : Nat) (l0 l1 : List IRow) (m0 m1 v : Value) (w : World) (hl : RdI w [arrR g] v) (hm : w.heap[g]? = some (.cells #[m0, m1] 22 (0, 0))) (hr0 : RdI w l0 m0) (hr1 : RdI w l1 m1)
    (hn : l0.length + l1.length ≤ 900000) (hn0 : l0.length ≤ 65536) (hat : ∀ r, r ∈ l0 ∨ r ∈ l1 → r.k = 0 ∧ AtR r) :
    Calls Tryz.prog 12 #[.pointer (some ⟨U, 0, none⟩), v, .slice none 0 0] w (ValP w (l0.length + l1.length) (atmF l0 ++ atmF l1)) := by
  have H0 : Hid (∀ W, Below w.heap.size w W → Calls Tryz.prog 12 #[.pointer (some ⟨U, 0, none⟩), m0, .slice none 0 0] W fun e w' => ∃ o', e = .returned (.tuple #[o', .int .i64 0]) ∧ OwnA w' w.heap.size o' l0.length (atmF l0) ∧ Below w.heap.size w w') := Lib.hid fun W hW => by
    have := values_rows U l0 m0 (.slice none 0 0) 0 [] w W hW hr0 (OwnA.nil _ _) (by omega) (fun r hr => hat r (.inl hr))
    simp only [Nat.zero_add, List.nil_append] at this
    refine this.mono ?_
    rintro e w' ⟨o', rfl, h1, h2⟩
    exact ⟨o', by rw [if_neg (by omega)], h1, h2⟩
  have H1 : Hid (∀ W o, Below w.heap.size w W → OwnA W w.heap.size o l0.length (atmF l0) → Calls Tryz.prog 12 #[.pointer (some ⟨U, 0, none⟩), m1, o] W (ValP w (l0.length + l1.length) (atmF l0 ++ atmF l1))) := Lib.hid fun W o hW ho => values_rows U l1 m1 o l0.length (atmF l0) w W hW hr1 ho hn (fun r hr => hat r (.inr hr))
  obtain ⟨A, c, rfl, _⟩ := hl.form
  obtain ⟨A0, c0, rfl, _⟩ := hr0.form
  obtain ⟨A1, c1, rfl, _⟩ := hr1.form
  have HL := Lib.hid hl
  have HMM := Lib.hid hm
  clear hl hr0 hr1 hm hat
  unfold ValP at *
  simp only [List.length_cons, List.length_nil, Nat.zero_add]
  have V0 : Hid (InV w w l0 l1 0 (.slice none 0 0) (.bool false)) := Lib.hid ⟨rfl, rfl⟩
  go_enter Tryz.func12, Tryz.ntmps12
  go_wp2
  go_loopw [2, 9, 18] (fun v lg i wr => ∃ (k : Nat) (q lq : Value), ((k = 0 ∧ i = .int .i64 0) ∨ (k = 1 ∧ i = .int .i64 1)) ∧ q = v ∧ lq = lg ∧ Hid (Below w.heap.size w wr) ∧ Hid (InV w wr l0 l1 (2 * k) q lq)) (fun _ _ i _ => 1 - (intOf i).toNat)
  case atStart => exact ⟨0, _, _, .inl ⟨rfl, rfl⟩, rfl, rfl, Lib.hid (Below.refl _ _), V0⟩
  case round =>
    obtain ⟨k, v, lg, hk, rfl, rfl, S, V⟩ := hrel
    clear V0
    rcases hk with ⟨rfl, rfl⟩ | ⟨rfl, rfl⟩
    · obtain ⟨rfl, rfl⟩ : v = .slice none 0 0 ∧ lg = .bool false := V.out
      obtain ⟨bI, off, r, rfl, hbI, hget, hdrop, g0, g1, g2, g3, g4, g5, g6, g7⟩ := HL.out.row S.out (k := 0) (by simp)
      obtain rfl : arrR g = r := by simpa using hget
      unfold arrR at g0 g1 g2 g3 g4 g5 g6 g7
      simp only [Nat.zero_mul, Nat.add_zero] at g0 g1 g2 g3 g4 g5 g6 g7
      clear hdrop hget hbI V
      have hbw := Lib.hid (box1 wr 29 #[.int .i64 3, .int .i64 0, .string eS, .int .i64 0, .int .i64 0, .slice none 0 0, .slice (some ⟨g, 0, none⟩) 2 2, .pointer none])
      have S1 := Lib.hid (S.out.trans (hbw.out.mono S.out.size))
      have V1 : Hid (InV w (wr.alloc (.cells #[.int .i64 3, .int .i64 0, .string eS, .int .i64 0, .int .i64 0, .slice none 0 0, .slice (some ⟨g, 0, none⟩) 2 2, .pointer none] 29)) l0 l1 0 (.slice none 0 0) (.bool false)) := Lib.hid ⟨rfl, rfl⟩
      clear S hbw
      go_wp2
      go_loopw [2, 9, 76] (fun v lg i wr => ∃ (k : Nat) (q lq : Value), ((k = 0 ∧ i = .int .i64 0) ∨ (k = 1 ∧ i = .int .i64 1) ∨ (k = 2 ∧ i = .int .i64 2)) ∧ q = v ∧ lq = lg ∧ Hid (Below w.heap.size w wr) ∧ Hid (InV w wr l0 l1 k q lq)) (fun _ _ i _ => 2 - (intOf i).toNat)
      case atStart => exact ⟨0, _, _, .inl ⟨rfl, rfl⟩, rfl, rfl, S1, V1⟩
      case round =>
        obtain ⟨j, v, lg, hj, rfl, rfl, S, V⟩ := hrel
        clear S1 V1
        have HM2 := Lib.hid ((S.out.block _ (lt_heap HMM.out)).trans HMM.out)
        have k0 : ∀ W : World, Below w.heap.size w W → W.cell? ⟨g, 0, none⟩ = some (.slice A0 l0.length c0) := fun W hW => cell_of_row _ _ 0 _ _ _ ((hW.block _ (lt_heap HMM.out)).trans HMM.out)
        have k1 : ∀ W : World, Below w.heap.size w W → W.cell? ⟨g, 1, none⟩ = some (.slice A1 l1.length c1) := fun W hW => cell_of_row _ _ 1 _ _ _ ((hW.block _ (lt_heap HMM.out)).trans HMM.out)
        rcases hj with ⟨rfl, rfl⟩ | ⟨rfl, rfl⟩ | ⟨rfl, rfl⟩
        · obtain ⟨rfl, rfl⟩ : v = .slice none 0 0 ∧ lg = .bool false := V.out
          have k0 := k0 _ S.out
          clear k1
          go_wp2_with fail
          refine (H0.out _ S.out).mono ?_
          rintro e w1 ⟨o', rfl, h1, h2⟩
          have S2 := Lib.hid h2
          have V2 : Hid (InV w w1 l0 l1 1 o' (.bool false)) := Lib.hid ⟨h1, rfl⟩
          clear h1 h2 k0 HM2
          go_wp2
          go_roundw
          case rel => exact ⟨1, _, _, .inr (.inl ⟨rfl, by go_num⟩), rfl, rfl, S2, V2⟩
          case measure => simp [intOf]
        · obtain ⟨ho, rfl⟩ : OwnA wr w.heap.size v l0.length (atmF l0) ∧ lg = .bool false := V.out
          have HO := Lib.hid ho
          obtain ⟨A', c', rfl⟩ := ho.form
          have k1 := k1 _ S.out
          clear k0 ho V
          go_wp2_with fail
          refine (H1.out _ _ S.out HO.out).mono ?_
          rintro e w1 ⟨o', rfl, h1, h2⟩
          have S2 := Lib.hid h2
          by_cases hz : 65536 < l0.length + l1.length
          · rw [if_pos hz]
            have V2 : Hid (InV w w1 l0 l1 2 o' (.bool true)) := Lib.hid ⟨h1, by simp [hz]⟩
            clear h1 h2 k1 HM2
            go_wp2
            go_roundw
            case rel => exact ⟨2, _, _, .inr (.inr ⟨rfl, by go_num⟩), rfl, rfl, S2, V2⟩
            case measure => simp [intOf]
          · rw [if_neg hz]
            have V2 : Hid (InV w w1 l0 l1 2 o' (.bool false)) := Lib.hid ⟨h1, by simp [hz]⟩
            clear h1 h2 k1 HM2
            go_wp2
            go_roundw
            case rel => exact ⟨2, _, _, .inr (.inr ⟨rfl, by go_num⟩), rfl, rfl, S2, V2⟩
            case measure => simp [intOf]
        · clear k0 k1 HM2
          obtain ⟨ho, rfl⟩ : OwnA wr w.heap.size v (l0.length + l1.length) (atmF l0 ++ atmF l1) ∧ lg = .bool (decide (65536 < l0.length + l1.length)) := V.out
          clear ho
          go_wp2
          go_roundw
          case rel => exact ⟨1, _, _, .inr ⟨rfl, by go_num⟩, rfl, rfl, S, V⟩
          case measure => simp [intOf]
    · obtain ⟨ho, rfl⟩ : OwnA wr w.heap.size v (l0.length + l1.length) (atmF l0 ++ atmF l1) ∧ lg = .bool (decide (65536 < l0.length + l1.length)) := V.out
      have HO := Lib.hid ho
      obtain ⟨A', c', rfl⟩ := ho.form
      clear ho V
      by_cases hz : 65536 < l0.length + l1.length
      · have hz' : decide (65536 < l0.length + l1.length) = true := by simpa using hz
        rw [hz']
        go_wp2
        go_ret2
        exact ⟨_, by first | rfl | (rw [if_pos hz]; rfl), HO.out, S.out⟩
      · have hz' : decide (65536 < l0.length + l1.length) = false := by simpa using hz
        have hz2 : ¬ (65536 : Int) < ((l0.length + l1.length : Nat) : Int) := by omega
        rw [hz']
        go_wp2
        go_ret2
        exact ⟨_, by first | rfl | (rw [if_neg hz]; rfl), HO.out, S.out⟩
end Go.Proofs.YtajkdllakleakaaGreatDoor
