/- chiselref30.Same. -/
import Derived.Test.YtfheoplcjeimdaaGreatDoorMarks
namespace Go.Proofs.YtfheoplcjeimdaaGreatDoor
open Go.RowKit
set_option linter.unusedVariables false
set_option linter.unusedSimpArgs false

/-- One row: where it lies, and that it reads. -/
theorem RdII.row {w : World} {v : Value} {gs : List (List Int)} (h : RdII w v gs) (j : Nat) (hj : j < gs.length) :
    ∃ b off c Aj cj, v = .slice (some ⟨b, off, none⟩) gs.length c ∧ b < w.heap.size ∧ w.cell? ⟨b, off + j, none⟩ = some (.slice Aj (gs.getD j []).length cj) ∧ RdInts w Aj (gs.getD j []).length (gs.getD j []) := by
  obtain ⟨A, c, rfl, h⟩ := h
  obtain ⟨b, off, rfl, hb, hc⟩ := h (by omega)
  obtain ⟨Aj, cj, h1, h2⟩ := hc j hj
  exact ⟨b, off, c, Aj, cj, rfl, hb, h1, h2⟩

theorem below_dn {B : Nat} {a w : World} (h : Below B a w) (n : Nat) : Below B a (w.drewN n) := ⟨h.os, h.tape, h.output, h.size, h.block⟩
theorem list_ne_of_getD {α : Type} {a b : List α} {d : α} (j : Nat) (h : a.getD j d ≠ b.getD j d) : a ≠ b := fun e => h (by rw [e])
theorem eq_of_prefix {α : Type} {a b : List α} {d : α} (hl : a.length = b.length) (h : ∀ j, j < a.length → a.getD j d = b.getD j d) : a = b := by
  apply List.ext_getElem hl
  intro i h1 h2
  have := h i h1
  simpa [List.getD_eq_getElem?_getD, List.getElem?_eq_getElem h1, List.getElem?_eq_getElem h2] using this

set_option maxRecDepth 100000 in
set_option maxHeartbeats 1000000 in
theorem same_any (xs ys : List (List Int)) (u v : Value) (w : World) (ha : RdII w u xs) (hb : RdII w v ys) (hn : xs.length ≤ 1000000) (hna : ∀ j, (xs.getD j []).length ≤ 1000000) :
    Calls Tryz.prog 16 #[u, v] w fun e w' => e = .returned (.bool (decide (xs = ys))) ∧ Below w.heap.size w w' := by
  have HA := Lib.hid ha
  have HB := Lib.hid hb
  have HNA := Lib.hid hna
  obtain ⟨A, c, rfl, _⟩ := ha
  obtain ⟨B, d, rfl, _⟩ := hb
  clear hna
  by_cases hlen : xs.length = ys.length
  · have HL := Lib.hid hlen
    rw [← hlen]
    rw [← hlen] at HB
    clear hlen
    generalize hgn : xs.length = n at *
    have HGN := Lib.hid hgn
    clear hgn
    go_enter Tryz.func16, Tryz.ntmps16
    go_wp2
    go_loopw [5] (fun i wr => ∃ (j : Nat), j ≤ n ∧ i = .int .i64 j ∧ Hid (∀ q, q < j → xs.getD q [] = ys.getD q []) ∧ Below w.heap.size w wr) (fun i _ => n - (intOf i).toNat)
    case atStart => exact ⟨0, Nat.zero_le _, rfl, Lib.hid (fun q h => absurd h (by omega)), Below.refl _ _⟩
    case round =>
      obtain ⟨j, hj, rfl, HE, hbw⟩ := hrel
      by_cases hlt : j < n
      · obtain ⟨b1, o1, c1, A1, d1, e1, hb1, f1, r1⟩ := (HA.out.below hbw).row j (by have := HGN.out; omega)
        obtain ⟨b2, o2, c2, A2, d2, e2, hb2, f2, r2⟩ := (HB.out.below hbw).row j (by have := HGN.out; have := HL.out; omega)
        simp only [Value.slice.injEq] at e1 e2
        obtain ⟨rfl, -, -⟩ := e1
        obtain ⟨rfl, -, -⟩ := e2
        generalize hx : xs.getD j [] = x at *
        generalize hy : ys.getD j [] = y at *
        have HX := Lib.hid hx
        have HY := Lib.hid hy
        have R1 := Lib.hid r1
        have R2 := Lib.hid r2
        have hm : x.length ≤ 1000000 := by rw [← hx]; exact HNA.out j
        clear hx hy r1 r2
        by_cases hle : x.length = y.length
        · have hbe : ((x.length : Int) != (y.length : Int)) = false := by simp [hle]
          have HLE := Lib.hid hle
          clear hle
          go_wp2
          go_quiet (fail)
          go_wp2
          obtain ⟨wo, rfl⟩ : ∃ wo : World, wo = wr := ⟨_, rfl⟩
          go_loopw [6] (fun i wq => ∃ (q : Nat), q ≤ x.length ∧ i = .int .i64 q ∧ Hid (∀ t, t < q → x.getD t 0 = y.getD t 0) ∧ Below wo.heap.size wo wq) (fun i _ => x.length - (intOf i).toNat)
          case atStart => exact ⟨0, Nat.zero_le _, rfl, Lib.hid (fun q h => absurd h (by omega)), below_dn (Below.refl _ _) _⟩
          case round =>
            obtain ⟨q, hq, rfl, HQ, hbq⟩ := hrel
            have g1 := (hbq.cell (p := ⟨b1, o1 + j, none⟩) hb1).trans f1
            have g2 := (hbq.cell (p := ⟨b2, o2 + j, none⟩) hb2).trans f2
            by_cases hqt : q < x.length
            · obtain ⟨p1, s1, rfl, hp1, k1⟩ := (R1.out.below hbq).2 (by omega)
              obtain ⟨p2, s2, rfl, hp2, k2⟩ := (R2.out.below hbq).2 (by have := HLE.out; omega)
              have t1 := k1 q hqt
              have t2 := k2 q (by have := HLE.out; omega)
              have hqy : q < y.length := by have := HLE.out; omega
              clear k1 k2
              generalize hu : x.getD q 0 = u at *
              generalize hv : y.getD q 0 = v at *
              have HU := Lib.hid hu
              have HV := Lib.hid hv
              clear hu hv
              by_cases huv : u = v
              · subst huv
                go_wp2
                go_quiet (fail)
                go_wp2
                go_roundw
                case rel =>
                  refine ⟨q + 1, by omega, by go_num, Lib.hid (fun t ht => ?_), below_dn hbq _⟩
                  rcases Nat.lt_or_ge t q with e | e
                  · exact HQ.out t e
                  · obtain rfl : t = q := by omega
                    rw [HU.out, HV.out]
                case measure => simp [intOf]; omega
              · have hne : (u != v) = true := by simpa using huv
                go_wp2
                go_quiet (fail)
                go_wp2
                go_ret
                refine ⟨ret_bool ?_, hbw.trans ((below_dn hbq _).mono hbw.size)⟩
                symm
                rw [decide_eq_false_iff_not]
                intro e
                exact huv (by rw [← HU.out, ← HV.out, ← HX.out, ← HY.out, e])
            · obtain rfl : q = x.length := by omega
              go_wp2
              go_roundw
              case rel =>
                refine ⟨j + 1, by omega, by go_num, Lib.hid (fun t ht => ?_), hbw.trans (hbq.mono hbw.size)⟩
                rcases Nat.lt_or_ge t j with e | e
                · exact HE.out t e
                · obtain rfl : t = j := by omega
                  rw [HX.out, HY.out]
                  exact eq_of_prefix HLE.out HQ.out
              case measure => simp [intOf]; omega
        · have hbe : ((x.length : Int) != (y.length : Int)) = true := by simp; omega
          go_wp2
          go_quiet (fail)
          go_wp2
          go_ret
          refine ⟨ret_bool ?_, below_dn hbw _⟩
          symm
          simp only [decide_eq_false_iff_not]
          intro e
          exact hle (by rw [← HX.out, ← HY.out, e])
      · obtain rfl : j = n := by omega
        go_wp2
        go_ret
        refine ⟨ret_bool ?_, hbw⟩
        symm
        rw [decide_eq_true_eq]
        exact eq_of_prefix (HGN.out.trans HL.out) (fun q hq => HE.out q (by have := HGN.out; omega))
  · have hbl : ((xs.length : Int) != (ys.length : Int)) = true := by simp; omega
    go_enter Tryz.func16, Tryz.ntmps16
    go_wp2
    go_ret
    exact ⟨ret_bool (by symm; simp; exact fun e => hlen (by rw [e])), Below.refl _ _⟩
end Go.Proofs.YtfheoplcjeimdaaGreatDoor
