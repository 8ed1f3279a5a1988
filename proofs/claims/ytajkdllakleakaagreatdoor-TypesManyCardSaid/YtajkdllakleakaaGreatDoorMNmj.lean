/- Package num: parse, where the fraction is not too long. -/
import Derived.Test.YtajkdllakleakaaGreatDoorMNml
namespace Go.Proofs.YtajkdllakleakaaGreatDoor
open Go.RowKit
set_option linter.unusedVariables false
set_option linter.unusedSimpArgs false

def numV (neg : Bool) (v : Value) : Value := .agg #[.bool neg, v]
/-- What parse hands back. -/
def ParseQ (l : List UInt8) (w : World) (e : Ending) (w' : World) : Prop :=
  ∃ v, e = .returned (.tuple #[.agg #[.bool (parseR l).2.1, v], .int .i64 (parseR l).1]) ∧ RdB w' v (words (parseR l).2.2) ∧ Below w.heap.size w w'
theorem bytes_eq (l : List UInt8) : ((⟨l.toArray⟩ : ByteArray).data.toList) = l := by simp
theorem noDig_any (W : World) : PredGrows Tryz.prog 169 #[] noDig W := fun W' x hx _ => parse1_any x W' hx
theorem cutK (r : List UInt8) (W : World) (h : r.length ≤ 200) : Calls Tryz.prog 69 #[.string ⟨r.toArray⟩, .string ⟨#[46]⟩] W fun e w' =>
    e = .returned (.tuple #[.string ⟨(Lib.cut r [46]).1.toArray⟩, .string ⟨(Lib.cut r [46]).2.1.toArray⟩, .bool (Lib.cut r [46]).2.2]) ∧ Below W.heap.size W w' := by
  have := scut_any ⟨r.toArray⟩ 46 W (by show r.toArray.size ≤ _; simp; omega)
  unfold CutQ at this
  rw [bytes_eq] at this
  exact this

set_option maxRecDepth 100000 in
set_option maxHeartbeats 2000000 in
theorem parse_any (l : List UInt8) (w : World) (hf : (pFrac l).length ≤ 20) :
    Calls Tryz.prog 118 #[.string ⟨l.toArray⟩] w (ParseQ l w) := by
  by_cases hlong : 200 < l.length
  · have hp : parseR l = (2, false, 0) := by unfold parseR; rw [if_pos (by omega)]
    have HP := Lib.hid hp
    clear hp hf
    go_enter Tryz.func118, Tryz.ntmps118
    go_wp2
    refine bodyPost_ret (v := .tuple #[.agg #[.bool false, .slice none 0 0], .int .i64 2]) (by simp [results, Tryz.results118, go_sem]) rfl ⟨.slice none 0 0, by rw [HP.out], by rw [HP.out]; exact rd_nil _, ?_⟩
    exact (Below.refl _ _).alloc (Nat.le_refl _) _
  · have HF := Lib.hid hf
    have hR := pRest_len l
    have hA := pAll_len l
    have hlen : l.length ≤ 200 := by omega
    clear hf
    have hnb : (Lib.trimPrefix l [45] == l) = !pNeg l := by
      have := trim_ne l 45
      unfold pNeg
      cases hp : Lib.hasPrefix l [45] with
      | true => rw [hp] at this; simpa using this
      | false => rw [hp] at this; simpa using this
    have hr0 : pNeg l = false → Lib.trimPrefix l [45] = l := fun h => by rw [h] at hnb; simpa using hnb
    have hr1 : pRest l = if pNeg l then Lib.trimPrefix l [45] else Lib.trimPrefix l [43] := rfl
    have hW : pWhole l = (Lib.cut (pRest l) [46]).1 := rfl
    have hFr : pFrac l = (Lib.cut (pRest l) [46]).2.1 := rfl
    have hK := fun W => cutK (pRest l) W (by omega)
    rw [← hW, ← hFr] at hK
    generalize (Lib.cut (pRest l) [46]).2.2 = fd at hK
    have HK := Lib.hid hK
    clear hW hFr hK
    have hT := Tryz.strings_TrimPrefix ⟨l.toArray⟩
    rw [bytes_eq] at hT
    have HT := Lib.hid hT
    clear hT
    have HR0 := Lib.hid hr0
    have HR1 := Lib.hid hr1
    have HNB := Lib.hid hnb
    clear hr0 hr1 hnb
    have HPR := Lib.hid (show parseR l = if (pWhole l ++ pFrac l).isEmpty || !allDig (pWhole l ++ pFrac l) then (5, false, 0) else if 10 ^ 50 ≤ dgv (pWhole l ++ pFrac l) * 10 ^ (20 - (pFrac l).length) then (40, false, 0) else (0, pNeg l && decide (0 < dgv (pWhole l ++ pFrac l) * 10 ^ (20 - (pFrac l).length)), dgv (pWhole l ++ pFrac l) * 10 ^ (20 - (pFrac l).length)) by
      unfold parseR
      rw [if_neg hlong]
      have e : pVal l = dgv (pWhole l ++ pFrac l) * 10 ^ (20 - (pFrac l).length) := by unfold pVal; rw [if_pos HF.out]; rfl
      rw [e]; rfl)
    have hf := HF.out
    generalize pWhole l = wh at *
    generalize pFrac l = fr at *
    by_cases hneg : pNeg l = true
    · have hb1 := HNB.out
      have hr := HR1.out
      rw [hneg] at hb1 hr
      simp only [if_true, Bool.not_true] at hb1 hr
      generalize pRest l = r at *
      rw [← hr] at hb1
      have HREQ := Lib.hid hr
      clear hr HR0 HR1 HNB
      go_enter Tryz.func118, Tryz.ntmps118
      go_wp2_with fail
      refine (HT.out ⟨#[45]⟩ _).mono ?_
      rintro e w1 ⟨he, rfl⟩
      have he' := he.trans (show _ = Ending.returned (.string ⟨r.toArray⟩) by rw [HREQ.out])
      subst he'
      clear he
      go_wp2_with fail
      refine (HK.out _).mono ?_
      rintro e w2 ⟨rfl, hbw⟩
      clear hb1
      have c0 : w2.cell? ⟨w.heap.size, 0, none⟩ = some (.bool true) := (hbw.cell (p := ⟨w.heap.size, 0, none⟩) (by simp)).trans (by simp)
      have c1 : w2.cell? ⟨w.heap.size, 1, none⟩ = some (.slice none 0 0) := (hbw.cell (p := ⟨w.heap.size, 1, none⟩) (by simp)).trans (by simp)
      have f0 : w2.frozen? ⟨w.heap.size, 0, none⟩ = false := (hbw.frozen (p := ⟨w.heap.size, 0, none⟩) (by simp)).trans (by simp)
      have f1 : w2.frozen? ⟨w.heap.size, 1, none⟩ = false := (hbw.frozen (p := ⟨w.heap.size, 1, none⟩) (by simp)).trans (by simp)
      have hz := hbw.size
      have hzN : w.heap.size < w2.heap.size := by simp at hz; omega
      have B2 := Lib.hid (below_to hbw)
      clear hbw hz HK HT
      by_cases hE : wh ++ fr = []
      · obtain ⟨rfl, rfl⟩ := List.append_eq_nil_iff.1 hE
        have hp : parseR l = (5, false, 0) := by rw [HPR.out]; rfl
        have HP := Lib.hid hp
        clear hp hE HPR HF
        have hem : (({ data := #[] } : ByteArray) ++ { data := #[] }) = { data := #[] } := rfl
        go_wp2
        obtain ⟨k1, k2⟩ := two_stored (x := .bool false) (y := .slice none 0 0) c0 c1
        refine bodyPost_ret (v := .tuple #[.agg #[.bool false, .slice none 0 0], .int .i64 5]) (by simp [results, Tryz.results118, go_sem, hzN, k1, k2]) rfl ⟨.slice none 0 0, by rw [HP.out], by rw [HP.out]; exact rd_nil _, ?_⟩
        exact (B2.out.setCell (Nat.le_refl _) _).setCell (Nat.le_refl _) _
      · have hall : ((⟨wh.toArray⟩ : ByteArray) ++ ⟨fr.toArray⟩) = ⟨(wh ++ fr).toArray⟩ := str_of _ _ (by simp)
        have hne2 : (wh.isEmpty && fr.isEmpty) = false := by
          cases wh <;> cases fr <;> simp_all
        have hne : (wh ++ fr).isEmpty = false := by
          cases wh <;> cases fr <;> simp_all
        have HNE := Lib.hid hne
        have HE := Lib.hid hE
        have hidx := idx_allDig (wh ++ fr)
        have hge := idx_ge noDig ⟨(wh ++ fr).toArray⟩
        have hI := fun W => Tryz.strings_IndexFunc_grows 169 #[] (fun _ _ => rfl) noDig ⟨(wh ++ fr).toArray⟩ W (noDig_any W)
        generalize Lib.idxFunc noDig true ⟨(wh ++ fr).toArray⟩ = z at *
        have HI := Lib.hid hI
        have HIDX := Lib.hid hidx
        have hlw : wh.length + fr.length ≤ 200 := by omega
        clear hI hidx hE
        generalize hAl : wh ++ fr = al at *
        have HAL := Lib.hid hAl
        have hal : al.length ≤ 200 := by rw [← hAl, List.length_append]; exact hlw
        clear hAl
        by_cases hD : allDig al = true
        · obtain rfl : z = -1 := HIDX.out.2 hD
          clear hge
          have HD := Lib.hid ((allDig_iff al).1 hD)
          go_wp2_with fail
          refine (HI.out _).mono ?_
          rintro e w3 ⟨rfl, hb3⟩
          have c0 := (hb3.cell (p := ⟨w.heap.size, 0, none⟩) hzN).trans c0
          have c1 := (hb3.cell (p := ⟨w.heap.size, 1, none⟩) hzN).trans c1
          have f0 := (hb3.frozen (p := ⟨w.heap.size, 0, none⟩) hzN).trans f0
          have f1 := (hb3.frozen (p := ⟨w.heap.size, 1, none⟩) hzN).trans f1
          have hzN := Nat.lt_of_lt_of_le hzN hb3.size
          have B3 := Lib.hid (B2.out.trans (hb3.mono B2.out.size))
          clear hb3 HI
          go_wp2_with fail
          refine (fromDigits_any ⟨al.toArray⟩ _ (fun c hc => HD.out c (by rw [bytes_eq] at hc; exact hc)) (by rw [barr_size]; omega)).mono ?_
          rintro e w4 ⟨u, rfl, hr4, hb4, ho4⟩
          have HO4 := Lib.hid (fun k hk => Nat.lt_of_lt_of_le hzN (ho4 k hk))
          clear ho4
          rw [bytes_eq] at hr4
          obtain ⟨A4, c4, hu, -, -⟩ := id hr4
          subst hu
          generalize hn4 : (words (dgv al)).length = n4 at *
          have HN4 := Lib.hid hn4
          clear hn4
          have c0 := (hb4.cell (p := ⟨w.heap.size, 0, none⟩) hzN).trans c0
          have c1 := (hb4.cell (p := ⟨w.heap.size, 1, none⟩) hzN).trans c1
          have f0 := (hb4.frozen (p := ⟨w.heap.size, 0, none⟩) hzN).trans f0
          have f1 := (hb4.frozen (p := ⟨w.heap.size, 1, none⟩) hzN).trans f1
          have hzN := Nat.lt_of_lt_of_le hzN hb4.size
          have B4 := Lib.hid (B3.out.trans (hb4.mono B3.out.size))
          have R4 := Lib.hid hr4
          clear hb4 hr4
          have HLW := Lib.hid (show (words (dgv al)).length ≤ 1000 by
            have h1 := dgv_lt al HD.out
            have h2 : (10 : Nat) ^ al.length ≤ bs ^ al.length := Nat.pow_le_pow_left (by unfold bs; omega) _
            have h3 := words_len_lt (dgv al) al.length (by omega)
            omega)
          obtain ⟨kk, hkk⟩ : ∃ kk, kk = 20 - fr.length := ⟨_, rfl⟩
          have hk1 : (20 : Int) - (fr.length : Int) = (kk : Int) := by omega
          have hk2 : kk ≤ 20 := by omega
          have HKK := Lib.hid hkk
          have HL66 := Lib.hid (show (words (dgv al * 10 ^ kk)).length ≤ 1000 by
            have h1 := dgv_lt al HD.out
            have h2 : (10 : Nat) ^ al.length * 10 ^ kk ≤ bs ^ (al.length + kk) := by rw [← Nat.pow_add]; exact Nat.pow_le_pow_left (by unfold bs; omega) _
            have h4 : dgv al * 10 ^ kk < 10 ^ al.length * 10 ^ kk := Nat.mul_lt_mul_of_pos_right h1 (Nat.pow_pos (by omega))
            have h3 := words_len_lt (dgv al * 10 ^ kk) (al.length + kk) (by omega)
            omega)
          clear hkk
          go_wp2
          have hst : RdB (w4.setCell ⟨w.heap.size, 1, none⟩ (.slice A4 n4 c4)) (.slice A4 n4 c4) (words (dgv al)) := R4.out.store (fun k hk e => by have := HO4.out k hk; simp only at e; omega)
          have R5 := Lib.hid hst
          have d0 : (w4.setCell ⟨w.heap.size, 1, none⟩ (.slice A4 n4 c4)).cell? ⟨w.heap.size, 0, none⟩ = some (.bool true) := by rw [st_other (by simp)]; exact c0
          have d1 : (w4.setCell ⟨w.heap.size, 1, none⟩ (.slice A4 n4 c4)).cell? ⟨w.heap.size, 1, none⟩ = some (.slice A4 n4 c4) := st_same c1
          have e0 : (w4.setCell ⟨w.heap.size, 1, none⟩ (.slice A4 n4 c4)).frozen? ⟨w.heap.size, 0, none⟩ = false := by simpa using f0
          have e1 : (w4.setCell ⟨w.heap.size, 1, none⟩ (.slice A4 n4 c4)).frozen? ⟨w.heap.size, 1, none⟩ = false := by simpa using f1
          have hzW : w.heap.size < (w4.setCell ⟨w.heap.size, 1, none⟩ (.slice A4 n4 c4)).heap.size := by simpa using hzN
          have B5 := Lib.hid (B4.out.setCell (p := ⟨w.heap.size, 1, none⟩) (Nat.le_refl _) (.slice A4 n4 c4))
          clear hst c0 c1 f0 f1 hzN R4 B4 HO4
          generalize w4.setCell ⟨w.heap.size, 1, none⟩ (.slice A4 n4 c4) = W at *
          go_region_with (first
            | (go_at_call 162
               refine (pow10_any kk _ (by omega)).mono ?_
               rintro e w5 ⟨v5, rfl, hr5, hb5, -⟩
               have hb5' : Below W.heap.size W w5 := by first | exact hb5 | exact Below.trans ((Below.refl _ _).drew) hb5
               have k0 := (hb5'.cell (p := ⟨w.heap.size, 0, none⟩) hzW).trans d0
               have k1 := (hb5'.cell (p := ⟨w.heap.size, 1, none⟩) hzW).trans d1
               have k2 := (hb5'.frozen (p := ⟨w.heap.size, 0, none⟩) hzW).trans e0
               have k3 := (hb5'.frozen (p := ⟨w.heap.size, 1, none⟩) hzW).trans e1
               have hz5 := Nat.lt_of_lt_of_le hzW hb5'.size
               have B6 := Lib.hid (B5.out.trans (hb5'.mono B5.out.size))
               have R6 := Lib.hid (R5.out.below hb5')
               have R7 := Lib.hid hr5
               clear hb5 hb5' hr5)
            | (go_at_call 164
               refine (times_any (words (dgv al)) (words (10 ^ kk)) _ _ _ (R6.out.below (by first | exact Below.refl _ _ | exact (Below.refl _ _).drew)) (R7.out.below (by first | exact Below.refl _ _ | exact (Below.refl _ _).drew)) (okW_words _) (okW_words _) (by have := HN4.out; have := HLW.out; omega) (by have := ten_len kk (by omega); omega)).mono ?_
               rintro e w6 ⟨v6, rfl, hr6, hb6, ho6⟩
               have hb6' : Below w5.heap.size w5 w6 := by first | exact hb6 | exact Below.trans ((Below.refl _ _).drew) hb6
               have m0 := (hb6'.cell (p := ⟨w.heap.size, 0, none⟩) hz5).trans k0
               have m1 := (hb6'.cell (p := ⟨w.heap.size, 1, none⟩) hz5).trans k1
               have m2 := (hb6'.frozen (p := ⟨w.heap.size, 0, none⟩) hz5).trans k2
               have m3 := (hb6'.frozen (p := ⟨w.heap.size, 1, none⟩) hz5).trans k3
               have hz6 := Nat.lt_of_lt_of_le hz5 hb6'.size
               have B7 := Lib.hid (B6.out.trans (hb6'.mono B6.out.size))
               have HO6 := Lib.hid (fun k hk => Nat.lt_of_lt_of_le (show w.heap.size < _ from by first | exact hz5 | simpa using hz5) (ho6 k hk))
               rw [wval_words, wval_words] at hr6
               obtain ⟨A6, c6, hv6, -, -⟩ := id hr6
               subst hv6
               have HL6 := Lib.hid (show (words (dgv al * 10 ^ kk)).length ≤ 1000 from HL66.out)
               generalize hn6 : (words (dgv al * 10 ^ kk)).length = n6 at *
               have HN6 := Lib.hid hn6
               have R8 := Lib.hid hr6
               clear hn6 hr6 hb6 hb6' ho6 k0 k1 k2 k3))
          all_goals
            have hst2 : RdB (w6.setCell ⟨w.heap.size, 1, none⟩ (.slice A6 n6 c6)) (.slice A6 n6 c6) (words (dgv al * 10 ^ kk)) := R8.out.store (fun k hk e => by have := HO6.out k hk; simp only at e; omega)
            have R9 := Lib.hid hst2
            have p0 : (w6.setCell ⟨w.heap.size, 1, none⟩ (.slice A6 n6 c6)).cell? ⟨w.heap.size, 0, none⟩ = some (.bool true) := by rw [st_other (by simp)]; exact m0
            have p1 : (w6.setCell ⟨w.heap.size, 1, none⟩ (.slice A6 n6 c6)).cell? ⟨w.heap.size, 1, none⟩ = some (.slice A6 n6 c6) := st_same m1
            have q0 : (w6.setCell ⟨w.heap.size, 1, none⟩ (.slice A6 n6 c6)).frozen? ⟨w.heap.size, 0, none⟩ = false := by simpa using m2
            have q1 : (w6.setCell ⟨w.heap.size, 1, none⟩ (.slice A6 n6 c6)).frozen? ⟨w.heap.size, 1, none⟩ = false := by simpa using m3
            have hz7 : w.heap.size < (w6.setCell ⟨w.heap.size, 1, none⟩ (.slice A6 n6 c6)).heap.size := by simpa using hz6
            have B8 := Lib.hid (B7.out.setCell (p := ⟨w.heap.size, 1, none⟩) (Nat.le_refl _) (.slice A6 n6 c6))
            clear hst2 m0 m1 m2 m3 hz6 R8 B7
            generalize w6.setCell ⟨w.heap.size, 1, none⟩ (.slice A6 n6 c6) = W7 at *
            go_wp2_with fail
            have hp : parseR l = if 10 ^ 50 ≤ dgv al * 10 ^ kk then (40, false, 0) else (0, true && decide (0 < dgv al * 10 ^ kk), dgv al * 10 ^ kk) := by
              rw [HPR.out, HNE.out, hD, HKK.out, hneg]; rfl
            have HP := Lib.hid hp
            clear hp hD hneg
            refine (checked_any true (dgv al * 10 ^ kk) _ W7 R9.out (by have := HN6.out; have := HL6.out; omega)).mono ?_
            rintro e w8 hq
            unfold CheckQ at hq
            by_cases hbig : 10 ^ 50 ≤ dgv al * 10 ^ kk
            · rw [if_pos hbig] at hq
              obtain ⟨rfl, hb8⟩ := hq
              have HP2 := Lib.hid (HP.out.trans (if_pos hbig))
              have p0 := (hb8.cell (p := ⟨w.heap.size, 0, none⟩) hz7).trans p0
              have p1 := (hb8.cell (p := ⟨w.heap.size, 1, none⟩) hz7).trans p1
              have q0 := (hb8.frozen (p := ⟨w.heap.size, 0, none⟩) hz7).trans q0
              have q1 := (hb8.frozen (p := ⟨w.heap.size, 1, none⟩) hz7).trans q1
              have hz8 := Nat.lt_of_lt_of_le hz7 hb8.size
              have B9 := Lib.hid (B8.out.trans (hb8.mono B8.out.size))
              clear hb8
              go_wp2
              obtain ⟨k1, k2⟩ := two_stored (x := .bool false) (y := .slice none 0 0) p0 p1
              refine bodyPost_ret (v := .tuple #[.agg #[.bool false, .slice none 0 0], .int .i64 40]) (by simp [results, Tryz.results118, go_sem, hz8, k1, k2]) rfl ⟨.slice none 0 0, by rw [HP2.out], by rw [HP2.out]; exact rd_nil _, ?_⟩
              exact (B9.out.setCell (Nat.le_refl _) _).setCell (Nat.le_refl _) _
            · rw [if_neg hbig] at hq
              obtain ⟨rfl, hb8⟩ := hq
              have HP2 := Lib.hid (HP.out.trans (if_neg hbig))
              have p0 := (hb8.cell (p := ⟨w.heap.size, 0, none⟩) hz7).trans p0
              have p1 := (hb8.cell (p := ⟨w.heap.size, 1, none⟩) hz7).trans p1
              have q0 := (hb8.frozen (p := ⟨w.heap.size, 0, none⟩) hz7).trans q0
              have q1 := (hb8.frozen (p := ⟨w.heap.size, 1, none⟩) hz7).trans q1
              have hz8 := Nat.lt_of_lt_of_le hz7 hb8.size
              have B9 := Lib.hid (B8.out.trans (hb8.mono B8.out.size))
              have R10 := Lib.hid (R9.out.below hb8)
              clear hb8
              go_wp2
              have BF := (B9.out.setCell (p := ⟨w.heap.size, 0, none⟩) (Nat.le_refl _) (.bool (decide (0 < dgv al * 10 ^ kk)))).setCell (p := ⟨w.heap.size, 1, none⟩) (Nat.le_refl _) (.slice A6 n6 c6)
              obtain ⟨k1, k2⟩ := two_stored (x := .bool (decide (0 < dgv al * 10 ^ kk))) (y := .slice A6 n6 c6) p0 p1
              refine bodyPost_ret (v := .tuple #[.agg #[.bool (decide (0 < dgv al * 10 ^ kk)), .slice A6 n6 c6], .int .i64 0]) (by simp [results, Tryz.results118, go_sem, hz8, k1, k2]) rfl ⟨.slice A6 n6 c6, ?_, ?_, BF⟩
              · rw [HP2.out]; rfl
              · rw [HP2.out]
                exact (R10.out.store (p := ⟨w.heap.size, 0, none⟩) (fun k hk e => by have := HO6.out k hk; simp only at e; omega)).store (p := ⟨w.heap.size, 1, none⟩) (fun k hk e => by have := HO6.out k hk; simp only at e; omega)
        · have hD' : allDig al = false := by simpa using hD
          have hz0 : 0 ≤ z := by
            have : z ≠ -1 := fun e => hD (HIDX.out.1 e)
            omega
          have hp : parseR l = (5, false, 0) := by rw [HPR.out, hne, hD']; rfl
          have HP := Lib.hid hp
          clear hp hD hD'
          go_wp2_with fail
          refine (HI.out _).mono ?_
          rintro e w3 ⟨rfl, hb3⟩
          have c0 := (hb3.cell (p := ⟨w.heap.size, 0, none⟩) hzN).trans c0
          have c1 := (hb3.cell (p := ⟨w.heap.size, 1, none⟩) hzN).trans c1
          have f0 := (hb3.frozen (p := ⟨w.heap.size, 0, none⟩) hzN).trans f0
          have f1 := (hb3.frozen (p := ⟨w.heap.size, 1, none⟩) hzN).trans f1
          have hzN := Nat.lt_of_lt_of_le hzN hb3.size
          have B3 := Lib.hid (B2.out.trans (hb3.mono B2.out.size))
          clear hb3 HI
          go_wp2
          obtain ⟨k1, k2⟩ := two_stored (x := .bool false) (y := .slice none 0 0) c0 c1
          refine bodyPost_ret (v := .tuple #[.agg #[.bool false, .slice none 0 0], .int .i64 5]) (by simp [results, Tryz.results118, go_sem, hzN, k1, k2]) rfl ⟨.slice none 0 0, by rw [HP.out], by rw [HP.out]; exact rd_nil _, ?_⟩
          exact (B3.out.setCell (Nat.le_refl _) _).setCell (Nat.le_refl _) _
    · obtain hneg : pNeg l = false := by simpa using hneg
      have hb1 := HNB.out
      have hr := HR1.out
      rw [hneg] at hb1 hr
      simp only [Bool.false_eq_true, if_false, Bool.not_false] at hb1 hr
      generalize pRest l = r at *
      have HREQ := Lib.hid hr
      have hll : (l == l) = true := by simp
      have HL0 := Lib.hid (HR0.out hneg)
      clear hr HR0 HR1 HNB
      go_enter Tryz.func118, Tryz.ntmps118
      go_wp2_with fail
      refine (HT.out ⟨#[45]⟩ _).mono ?_
      rintro e w1 ⟨he, rfl⟩
      have he' := he.trans (show _ = Ending.returned (.string ⟨l.toArray⟩) by rw [show (({ data := #[45] } : ByteArray).data.toList) = [45] from rfl, HL0.out])
      subst he'
      clear he
      go_wp2_with fail
      refine (HT.out ⟨#[43]⟩ _).mono ?_
      rintro e w1 ⟨he, rfl⟩
      have he' := he.trans (show _ = Ending.returned (.string ⟨r.toArray⟩) by rw [HREQ.out])
      subst he'
      clear he
      go_wp2_with fail
      refine (HK.out _).mono ?_
      rintro e w2 ⟨rfl, hbw⟩
      clear hb1
      have c0 : w2.cell? ⟨w.heap.size, 0, none⟩ = some (.bool false) := (hbw.cell (p := ⟨w.heap.size, 0, none⟩) (by simp)).trans (by simp)
      have c1 : w2.cell? ⟨w.heap.size, 1, none⟩ = some (.slice none 0 0) := (hbw.cell (p := ⟨w.heap.size, 1, none⟩) (by simp)).trans (by simp)
      have f0 : w2.frozen? ⟨w.heap.size, 0, none⟩ = false := (hbw.frozen (p := ⟨w.heap.size, 0, none⟩) (by simp)).trans (by simp)
      have f1 : w2.frozen? ⟨w.heap.size, 1, none⟩ = false := (hbw.frozen (p := ⟨w.heap.size, 1, none⟩) (by simp)).trans (by simp)
      have hz := hbw.size
      have hzN : w.heap.size < w2.heap.size := by simp at hz; omega
      have B2 := Lib.hid (below_to hbw)
      clear hbw hz HK HT
      by_cases hE : wh ++ fr = []
      · obtain ⟨rfl, rfl⟩ := List.append_eq_nil_iff.1 hE
        have hp : parseR l = (5, false, 0) := by rw [HPR.out]; rfl
        have HP := Lib.hid hp
        clear hp hE HPR HF
        have hem : (({ data := #[] } : ByteArray) ++ { data := #[] }) = { data := #[] } := rfl
        go_wp2
        obtain ⟨k1, k2⟩ := two_stored (x := .bool false) (y := .slice none 0 0) c0 c1
        refine bodyPost_ret (v := .tuple #[.agg #[.bool false, .slice none 0 0], .int .i64 5]) (by simp [results, Tryz.results118, go_sem, hzN, k1, k2]) rfl ⟨.slice none 0 0, by rw [HP.out], by rw [HP.out]; exact rd_nil _, ?_⟩
        exact (B2.out.setCell (Nat.le_refl _) _).setCell (Nat.le_refl _) _
      · have hall : ((⟨wh.toArray⟩ : ByteArray) ++ ⟨fr.toArray⟩) = ⟨(wh ++ fr).toArray⟩ := str_of _ _ (by simp)
        have hne2 : (wh.isEmpty && fr.isEmpty) = false := by
          cases wh <;> cases fr <;> simp_all
        have hne : (wh ++ fr).isEmpty = false := by
          cases wh <;> cases fr <;> simp_all
        have HNE := Lib.hid hne
        have HE := Lib.hid hE
        have hidx := idx_allDig (wh ++ fr)
        have hge := idx_ge noDig ⟨(wh ++ fr).toArray⟩
        have hI := fun W => Tryz.strings_IndexFunc_grows 169 #[] (fun _ _ => rfl) noDig ⟨(wh ++ fr).toArray⟩ W (noDig_any W)
        generalize Lib.idxFunc noDig true ⟨(wh ++ fr).toArray⟩ = z at *
        have HI := Lib.hid hI
        have HIDX := Lib.hid hidx
        have hlw : wh.length + fr.length ≤ 200 := by omega
        clear hI hidx hE
        generalize hAl : wh ++ fr = al at *
        have HAL := Lib.hid hAl
        have hal : al.length ≤ 200 := by rw [← hAl, List.length_append]; exact hlw
        clear hAl
        by_cases hD : allDig al = true
        · obtain rfl : z = -1 := HIDX.out.2 hD
          clear hge
          have HD := Lib.hid ((allDig_iff al).1 hD)
          go_wp2_with fail
          refine (HI.out _).mono ?_
          rintro e w3 ⟨rfl, hb3⟩
          have c0 := (hb3.cell (p := ⟨w.heap.size, 0, none⟩) hzN).trans c0
          have c1 := (hb3.cell (p := ⟨w.heap.size, 1, none⟩) hzN).trans c1
          have f0 := (hb3.frozen (p := ⟨w.heap.size, 0, none⟩) hzN).trans f0
          have f1 := (hb3.frozen (p := ⟨w.heap.size, 1, none⟩) hzN).trans f1
          have hzN := Nat.lt_of_lt_of_le hzN hb3.size
          have B3 := Lib.hid (B2.out.trans (hb3.mono B2.out.size))
          clear hb3 HI
          go_wp2_with fail
          refine (fromDigits_any ⟨al.toArray⟩ _ (fun c hc => HD.out c (by rw [bytes_eq] at hc; exact hc)) (by rw [barr_size]; omega)).mono ?_
          rintro e w4 ⟨u, rfl, hr4, hb4, ho4⟩
          have HO4 := Lib.hid (fun k hk => Nat.lt_of_lt_of_le hzN (ho4 k hk))
          clear ho4
          rw [bytes_eq] at hr4
          obtain ⟨A4, c4, hu, -, -⟩ := id hr4
          subst hu
          generalize hn4 : (words (dgv al)).length = n4 at *
          have HN4 := Lib.hid hn4
          clear hn4
          have c0 := (hb4.cell (p := ⟨w.heap.size, 0, none⟩) hzN).trans c0
          have c1 := (hb4.cell (p := ⟨w.heap.size, 1, none⟩) hzN).trans c1
          have f0 := (hb4.frozen (p := ⟨w.heap.size, 0, none⟩) hzN).trans f0
          have f1 := (hb4.frozen (p := ⟨w.heap.size, 1, none⟩) hzN).trans f1
          have hzN := Nat.lt_of_lt_of_le hzN hb4.size
          have B4 := Lib.hid (B3.out.trans (hb4.mono B3.out.size))
          have R4 := Lib.hid hr4
          clear hb4 hr4
          have HLW := Lib.hid (show (words (dgv al)).length ≤ 1000 by
            have h1 := dgv_lt al HD.out
            have h2 : (10 : Nat) ^ al.length ≤ bs ^ al.length := Nat.pow_le_pow_left (by unfold bs; omega) _
            have h3 := words_len_lt (dgv al) al.length (by omega)
            omega)
          obtain ⟨kk, hkk⟩ : ∃ kk, kk = 20 - fr.length := ⟨_, rfl⟩
          have hk1 : (20 : Int) - (fr.length : Int) = (kk : Int) := by omega
          have hk2 : kk ≤ 20 := by omega
          have HKK := Lib.hid hkk
          have HL66 := Lib.hid (show (words (dgv al * 10 ^ kk)).length ≤ 1000 by
            have h1 := dgv_lt al HD.out
            have h2 : (10 : Nat) ^ al.length * 10 ^ kk ≤ bs ^ (al.length + kk) := by rw [← Nat.pow_add]; exact Nat.pow_le_pow_left (by unfold bs; omega) _
            have h4 : dgv al * 10 ^ kk < 10 ^ al.length * 10 ^ kk := Nat.mul_lt_mul_of_pos_right h1 (Nat.pow_pos (by omega))
            have h3 := words_len_lt (dgv al * 10 ^ kk) (al.length + kk) (by omega)
            omega)
          clear hkk
          go_wp2
          have hst : RdB (w4.setCell ⟨w.heap.size, 1, none⟩ (.slice A4 n4 c4)) (.slice A4 n4 c4) (words (dgv al)) := R4.out.store (fun k hk e => by have := HO4.out k hk; simp only at e; omega)
          have R5 := Lib.hid hst
          have d0 : (w4.setCell ⟨w.heap.size, 1, none⟩ (.slice A4 n4 c4)).cell? ⟨w.heap.size, 0, none⟩ = some (.bool false) := by rw [st_other (by simp)]; exact c0
          have d1 : (w4.setCell ⟨w.heap.size, 1, none⟩ (.slice A4 n4 c4)).cell? ⟨w.heap.size, 1, none⟩ = some (.slice A4 n4 c4) := st_same c1
          have e0 : (w4.setCell ⟨w.heap.size, 1, none⟩ (.slice A4 n4 c4)).frozen? ⟨w.heap.size, 0, none⟩ = false := by simpa using f0
          have e1 : (w4.setCell ⟨w.heap.size, 1, none⟩ (.slice A4 n4 c4)).frozen? ⟨w.heap.size, 1, none⟩ = false := by simpa using f1
          have hzW : w.heap.size < (w4.setCell ⟨w.heap.size, 1, none⟩ (.slice A4 n4 c4)).heap.size := by simpa using hzN
          have B5 := Lib.hid (B4.out.setCell (p := ⟨w.heap.size, 1, none⟩) (Nat.le_refl _) (.slice A4 n4 c4))
          clear hst c0 c1 f0 f1 hzN R4 B4 HO4
          generalize w4.setCell ⟨w.heap.size, 1, none⟩ (.slice A4 n4 c4) = W at *
          go_region_with (first
            | (go_at_call 162
               refine (pow10_any kk _ (by omega)).mono ?_
               rintro e w5 ⟨v5, rfl, hr5, hb5, -⟩
               have hb5' : Below W.heap.size W w5 := by first | exact hb5 | exact Below.trans ((Below.refl _ _).drew) hb5
               have k0 := (hb5'.cell (p := ⟨w.heap.size, 0, none⟩) hzW).trans d0
               have k1 := (hb5'.cell (p := ⟨w.heap.size, 1, none⟩) hzW).trans d1
               have k2 := (hb5'.frozen (p := ⟨w.heap.size, 0, none⟩) hzW).trans e0
               have k3 := (hb5'.frozen (p := ⟨w.heap.size, 1, none⟩) hzW).trans e1
               have hz5 := Nat.lt_of_lt_of_le hzW hb5'.size
               have B6 := Lib.hid (B5.out.trans (hb5'.mono B5.out.size))
               have R6 := Lib.hid (R5.out.below hb5')
               have R7 := Lib.hid hr5
               clear hb5 hb5' hr5)
            | (go_at_call 164
               refine (times_any (words (dgv al)) (words (10 ^ kk)) _ _ _ (R6.out.below (by first | exact Below.refl _ _ | exact (Below.refl _ _).drew)) (R7.out.below (by first | exact Below.refl _ _ | exact (Below.refl _ _).drew)) (okW_words _) (okW_words _) (by have := HN4.out; have := HLW.out; omega) (by have := ten_len kk (by omega); omega)).mono ?_
               rintro e w6 ⟨v6, rfl, hr6, hb6, ho6⟩
               have hb6' : Below w5.heap.size w5 w6 := by first | exact hb6 | exact Below.trans ((Below.refl _ _).drew) hb6
               have m0 := (hb6'.cell (p := ⟨w.heap.size, 0, none⟩) hz5).trans k0
               have m1 := (hb6'.cell (p := ⟨w.heap.size, 1, none⟩) hz5).trans k1
               have m2 := (hb6'.frozen (p := ⟨w.heap.size, 0, none⟩) hz5).trans k2
               have m3 := (hb6'.frozen (p := ⟨w.heap.size, 1, none⟩) hz5).trans k3
               have hz6 := Nat.lt_of_lt_of_le hz5 hb6'.size
               have B7 := Lib.hid (B6.out.trans (hb6'.mono B6.out.size))
               have HO6 := Lib.hid (fun k hk => Nat.lt_of_lt_of_le (show w.heap.size < _ from by first | exact hz5 | simpa using hz5) (ho6 k hk))
               rw [wval_words, wval_words] at hr6
               obtain ⟨A6, c6, hv6, -, -⟩ := id hr6
               subst hv6
               have HL6 := Lib.hid (show (words (dgv al * 10 ^ kk)).length ≤ 1000 from HL66.out)
               generalize hn6 : (words (dgv al * 10 ^ kk)).length = n6 at *
               have HN6 := Lib.hid hn6
               have R8 := Lib.hid hr6
               clear hn6 hr6 hb6 hb6' ho6 k0 k1 k2 k3))
          all_goals
            have hst2 : RdB (w6.setCell ⟨w.heap.size, 1, none⟩ (.slice A6 n6 c6)) (.slice A6 n6 c6) (words (dgv al * 10 ^ kk)) := R8.out.store (fun k hk e => by have := HO6.out k hk; simp only at e; omega)
            have R9 := Lib.hid hst2
            have p0 : (w6.setCell ⟨w.heap.size, 1, none⟩ (.slice A6 n6 c6)).cell? ⟨w.heap.size, 0, none⟩ = some (.bool false) := by rw [st_other (by simp)]; exact m0
            have p1 : (w6.setCell ⟨w.heap.size, 1, none⟩ (.slice A6 n6 c6)).cell? ⟨w.heap.size, 1, none⟩ = some (.slice A6 n6 c6) := st_same m1
            have q0 : (w6.setCell ⟨w.heap.size, 1, none⟩ (.slice A6 n6 c6)).frozen? ⟨w.heap.size, 0, none⟩ = false := by simpa using m2
            have q1 : (w6.setCell ⟨w.heap.size, 1, none⟩ (.slice A6 n6 c6)).frozen? ⟨w.heap.size, 1, none⟩ = false := by simpa using m3
            have hz7 : w.heap.size < (w6.setCell ⟨w.heap.size, 1, none⟩ (.slice A6 n6 c6)).heap.size := by simpa using hz6
            have B8 := Lib.hid (B7.out.setCell (p := ⟨w.heap.size, 1, none⟩) (Nat.le_refl _) (.slice A6 n6 c6))
            clear hst2 m0 m1 m2 m3 hz6 R8 B7
            generalize w6.setCell ⟨w.heap.size, 1, none⟩ (.slice A6 n6 c6) = W7 at *
            go_wp2_with fail
            have hp : parseR l = if 10 ^ 50 ≤ dgv al * 10 ^ kk then (40, false, 0) else (0, false && decide (0 < dgv al * 10 ^ kk), dgv al * 10 ^ kk) := by
              rw [HPR.out, HNE.out, hD, HKK.out, hneg]; rfl
            have HP := Lib.hid hp
            clear hp hD hneg
            refine (checked_any false (dgv al * 10 ^ kk) _ W7 R9.out (by have := HN6.out; have := HL6.out; omega)).mono ?_
            rintro e w8 hq
            unfold CheckQ at hq
            by_cases hbig : 10 ^ 50 ≤ dgv al * 10 ^ kk
            · rw [if_pos hbig] at hq
              obtain ⟨rfl, hb8⟩ := hq
              have HP2 := Lib.hid (HP.out.trans (if_pos hbig))
              have p0 := (hb8.cell (p := ⟨w.heap.size, 0, none⟩) hz7).trans p0
              have p1 := (hb8.cell (p := ⟨w.heap.size, 1, none⟩) hz7).trans p1
              have q0 := (hb8.frozen (p := ⟨w.heap.size, 0, none⟩) hz7).trans q0
              have q1 := (hb8.frozen (p := ⟨w.heap.size, 1, none⟩) hz7).trans q1
              have hz8 := Nat.lt_of_lt_of_le hz7 hb8.size
              have B9 := Lib.hid (B8.out.trans (hb8.mono B8.out.size))
              clear hb8
              go_wp2
              obtain ⟨k1, k2⟩ := two_stored (x := .bool false) (y := .slice none 0 0) p0 p1
              refine bodyPost_ret (v := .tuple #[.agg #[.bool false, .slice none 0 0], .int .i64 40]) (by simp [results, Tryz.results118, go_sem, hz8, k1, k2]) rfl ⟨.slice none 0 0, by rw [HP2.out], by rw [HP2.out]; exact rd_nil _, ?_⟩
              exact (B9.out.setCell (Nat.le_refl _) _).setCell (Nat.le_refl _) _
            · rw [if_neg hbig] at hq
              obtain ⟨rfl, hb8⟩ := hq
              have HP2 := Lib.hid (HP.out.trans (if_neg hbig))
              have p0 := (hb8.cell (p := ⟨w.heap.size, 0, none⟩) hz7).trans p0
              have p1 := (hb8.cell (p := ⟨w.heap.size, 1, none⟩) hz7).trans p1
              have q0 := (hb8.frozen (p := ⟨w.heap.size, 0, none⟩) hz7).trans q0
              have q1 := (hb8.frozen (p := ⟨w.heap.size, 1, none⟩) hz7).trans q1
              have hz8 := Nat.lt_of_lt_of_le hz7 hb8.size
              have B9 := Lib.hid (B8.out.trans (hb8.mono B8.out.size))
              have R10 := Lib.hid (R9.out.below hb8)
              clear hb8
              go_wp2
              have BF := (B9.out.setCell (p := ⟨w.heap.size, 0, none⟩) (Nat.le_refl _) (.bool false)).setCell (p := ⟨w.heap.size, 1, none⟩) (Nat.le_refl _) (.slice A6 n6 c6)
              obtain ⟨k1, k2⟩ := two_stored (x := .bool false) (y := .slice A6 n6 c6) p0 p1
              refine bodyPost_ret (v := .tuple #[.agg #[.bool false, .slice A6 n6 c6], .int .i64 0]) (by simp [results, Tryz.results118, go_sem, hz8, k1, k2]) rfl ⟨.slice A6 n6 c6, ?_, ?_, BF⟩
              · rw [HP2.out]; rfl
              · rw [HP2.out]
                exact (R10.out.store (p := ⟨w.heap.size, 0, none⟩) (fun k hk e => by have := HO6.out k hk; simp only at e; omega)).store (p := ⟨w.heap.size, 1, none⟩) (fun k hk e => by have := HO6.out k hk; simp only at e; omega)
        · have hD' : allDig al = false := by simpa using hD
          have hz0 : 0 ≤ z := by
            have : z ≠ -1 := fun e => hD (HIDX.out.1 e)
            omega
          have hp : parseR l = (5, false, 0) := by rw [HPR.out, hne, hD']; rfl
          have HP := Lib.hid hp
          clear hp hD hD'
          go_wp2_with fail
          refine (HI.out _).mono ?_
          rintro e w3 ⟨rfl, hb3⟩
          have c0 := (hb3.cell (p := ⟨w.heap.size, 0, none⟩) hzN).trans c0
          have c1 := (hb3.cell (p := ⟨w.heap.size, 1, none⟩) hzN).trans c1
          have f0 := (hb3.frozen (p := ⟨w.heap.size, 0, none⟩) hzN).trans f0
          have f1 := (hb3.frozen (p := ⟨w.heap.size, 1, none⟩) hzN).trans f1
          have hzN := Nat.lt_of_lt_of_le hzN hb3.size
          have B3 := Lib.hid (B2.out.trans (hb3.mono B2.out.size))
          clear hb3 HI
          go_wp2
          obtain ⟨k1, k2⟩ := two_stored (x := .bool false) (y := .slice none 0 0) c0 c1
          refine bodyPost_ret (v := .tuple #[.agg #[.bool false, .slice none 0 0], .int .i64 5]) (by simp [results, Tryz.results118, go_sem, hzN, k1, k2]) rfl ⟨.slice none 0 0, by rw [HP.out], by rw [HP.out]; exact rd_nil _, ?_⟩
          exact (B3.out.setCell (Nat.le_refl _) _).setCell (Nat.le_refl _) _
end Go.Proofs.YtajkdllakleakaaGreatDoor
