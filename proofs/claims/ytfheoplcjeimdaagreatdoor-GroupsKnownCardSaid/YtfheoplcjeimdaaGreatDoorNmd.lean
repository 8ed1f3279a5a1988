/- Package num: times. -/
import Derived.Test.YtfheoplcjeimdaaGreatDoorNmb
namespace Go.Proofs.YtfheoplcjeimdaaGreatDoor
open Go.RowKit
set_option linter.unusedVariables false
set_option linter.unusedSimpArgs false

theorem wcell {w wr : World} {A : Option Addr} {l : List Nat} {n k : Nat} (h : 0 < n → ∃ b off, A = some ⟨b, off, none⟩ ∧ b < w.heap.size ∧ ∀ j, j < n → w.cell? ⟨b, off + j, none⟩ = some (.int .u64 (l.getD j 0 : Nat))) (hb : Below w.heap.size w wr) (hk : k < n) :
    ∃ b off, A = some ⟨b, off, none⟩ ∧ wr.cell? ⟨b, off + k, none⟩ = some (.int .u64 (l.getD k 0 : Nat)) := by
  obtain ⟨b1, o1, e, hb1, h1⟩ := h (by omega)
  exact ⟨b1, o1, e, (hb.cell (p := ⟨b1, o1 + k, none⟩) hb1).trans (h1 k hk)⟩
theorem mul_bd (x y : Nat) (hx : x < 1000000000) (hy : y < 1000000000) : 0 ≤ (x : Int) * (y : Int) ∧ (x : Int) * (y : Int) ≤ 999999998000000001 := by
  have h : x * y ≤ 999999999 * 999999999 := Nat.mul_le_mul (by omega) (by omega)
  rw [← Int.natCast_mul]
  omega
set_option maxRecDepth 100000 in
set_option maxHeartbeats 2000000 in
theorem times_any (la lb : List Nat) (u v : Value) (w : World) (ha : RdB w u la) (hb : RdB w v lb) (oa : okW la) (ob : okW lb) (na : la.length ≤ 100000) (nb : lb.length ≤ 100000) :
    Calls Tryz.prog 162 #[u, v] w (GivesB (wval la * wval lb) w) := by
  obtain ⟨A, c, rfl, hca, hra⟩ := ha
  obtain ⟨B, d, rfl, hcb, hrb⟩ := hb
  have HRA := Lib.hid hra
  have HRB := Lib.hid hrb
  have OA := Lib.hid oa
  have OB := Lib.hid ob
  clear hra hrb oa ob
  generalize hka : la.length = ka at *
  generalize hkb : lb.length = kb at *
  have KA := Lib.hid hka
  have KB := Lib.hid hkb
  have hmk := make_big (ka + kb) (by omega)
  rw [show ((ka + kb : Nat) : Int) = (ka : Int) + (kb : Int) by omega] at hmk
  have HOB := Lib.hid (own_big w w.heap.size (ka + kb) (Nat.le_refl _) (by omega))
  have HST := Lib.hid (times_start la lb)
  rw [hka, hkb] at HST
  clear hka hkb
  go_enter Tryz.func162, Tryz.ntmps162
  go_wp2
  clear hmk
  go_loopw [19] (fun i wr => ∃ (j : Nat) (o : List Nat), j ≤ ka ∧ i = .int .i64 j ∧ Hid (TimesI la lb j 0 o 0) ∧ Hid (OwnW wr w.heap.size (.slice (some ⟨w.heap.size, 0, none⟩) (ka + kb) (ka + kb)) o) ∧ Below w.heap.size w wr) (fun i _ => ka - (intOf i).toNat)
  case atStart => exact ⟨0, _, Nat.zero_le _, rfl, HST, HOB, (Below.refl _ _).alloc (Nat.le_refl _) _⟩
  case round =>
    obtain ⟨i, o, hi, rfl, HT, HO, hb⟩ := hrel
    by_cases hlt : i < ka
    · obtain ⟨b1, o1, rfl, c1⟩ := wcell HRA.out hb hlt
      have x1 : la.getD i 0 < 1000000000 := okW_get OA.out i
      generalize hx : la.getD i 0 = x at *
      have HX := Lib.hid hx
      clear hx
      go_wp2
      obtain ⟨wo, rfl⟩ : ∃ wo : World, wo = wr := ⟨_, rfl⟩
      go_loopw [8, 26] (fun cv k wq => ∃ (q cr : Nat) (o : List Nat), q ≤ kb ∧ k = .int .i64 q ∧ cv = .int .u64 (cr : Int) ∧ Hid (TimesI la lb i q o cr) ∧ Hid (OwnW wq w.heap.size (.slice (some ⟨w.heap.size, 0, none⟩) (ka + kb) (ka + kb)) o) ∧ Below w.heap.size w wq) (fun _ k _ => kb - (intOf k).toNat)
      case atStart => exact ⟨0, 0, o, Nat.zero_le _, rfl, rfl, HT, HO, hb⟩
      case round =>
        obtain ⟨q, cr, o', hq, rfl, rfl, HQ, HO', hbq⟩ := hrel
        have hol : o'.length = ka + kb := by have := HQ.out.1; rw [KA.out, KB.out] at this; exact this
        have hcr : cr < 1000000000 := HQ.out.2.2.1
        by_cases hqt : q < kb
        · obtain ⟨b2, o2, rfl, c2⟩ := wcell HRB.out hbq hqt
          have y1 : lb.getD q 0 < 1000000000 := okW_get OB.out q
          have v1 : o'.getD (i + q) 0 < 1000000000 := okW_get HQ.out.2.1 (i + q)
          obtain ⟨g1, g2⟩ := HO'.out.cell (i + q) (by omega)
          have HS := Lib.hid (times_step HQ.out OA.out OB.out (by rw [KA.out]; exact hlt) (by rw [KB.out]; exact hqt))
          have HPUT := Lib.hid (HO'.out.put (i + q) ((cr + (o'.getD (i + q) 0 + la.getD i 0 * lb.getD q 0)) % bs) (Nat.le_refl _) hbq)
          rw [HX.out] at HS HPUT
          have HOL := Lib.hid hol
          clear hol
          generalize lb.getD q 0 = y at *
          generalize o'.getD (i + q) 0 = ov at *
          obtain ⟨m0, m1⟩ := mul_bd x y x1 y1
          go_wp2
          go_roundw
          case rel =>
            refine ⟨q + 1, _, _, by omega, by go_num, ?_, HS, Lib.hid ?_, ?_⟩
            · exact vI (by rw [divc (cr + (ov + x * y))]; push_cast; omega)
            · rw [modc (cr + (ov + x * y))]
              · exact HPUT.out.1
              · push_cast; omega
            · rw [modc (cr + (ov + x * y))]
              · exact HPUT.out.2
              · push_cast; omega
          case measure => simp [intOf]; omega
        · obtain rfl : q = kb := by omega
          have v1 : o'.getD (i + q) 0 < 1000000000 := okW_get HQ.out.2.1 (i + q)
          obtain ⟨g1, g2⟩ := HO'.out.cell (i + q) (by omega)
          have HS := Lib.hid (times_row (by rw [KB.out]; exact HQ.out) (by rw [KA.out]; exact hlt))
          have HPUT := Lib.hid (HO'.out.put (i + q) (o'.getD (i + q) 0 + cr) (Nat.le_refl _) hbq)
          rw [KB.out] at HS
          have HOL := Lib.hid hol
          clear hol
          generalize o'.getD (i + q) 0 = ov at *
          go_wp2
          go_roundw
          case rel =>
            refine ⟨i + 1, _, by omega, by go_num, HS, Lib.hid ?_, ?_⟩
            · have := HPUT.out.1; push_cast at this; exact this
            · have := HPUT.out.2; push_cast at this; exact this
          case measure => simp [intOf]; omega
    · obtain rfl : i = ka := by omega
      have hend := times_end (by rw [KA.out]; exact HT.out) rfl
      have HE := Lib.hid hend
      clear hend
      have HOL := Lib.hid HT.out.1
      go_wp2_with fail
      refine (norm_any o _ wr HO.out.reads HT.out.2.1 (by have := HOL.out; rw [KA.out, KB.out] at this; omega)).mono ?_
      rintro e w1 ⟨u, rfl, hr, hob, rfl⟩
      have HOB2 := Lib.hid (fun k (hk : u.ownBlock = some k) => (World.ownsRow.lt HO.out k (hob ▸ hk)).1)
      clear hob
      rw [HE.out] at hr
      have HR := Lib.hid hr
      clear hr
      go_wp2
      go_ret
      exact ⟨_, rfl, HR.out, hb, HOB2.out⟩
end Go.Proofs.YtfheoplcjeimdaaGreatDoor
