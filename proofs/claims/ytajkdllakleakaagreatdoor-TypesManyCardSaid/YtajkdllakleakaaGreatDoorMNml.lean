/- Package num: text. -/
import Derived.Test.YtajkdllakleakaaGreatDoorMNmk
namespace Go.Proofs.YtajkdllakleakaaGreatDoor
open Go.RowKit
set_option linter.unusedVariables false
set_option linter.unusedSimpArgs false

theorem rS {a b : ByteArray} (h : a.data.toList = b.data.toList) : Ending.returned (.string a) = .returned (.string b) := by rw [str_of _ _ h]
theorem barr_size (l : List UInt8) : ((⟨l.toArray⟩ : ByteArray)).size = l.length := rfl
theorem barr_extract (l : List UInt8) (a b : Nat) : ((⟨l.toArray⟩ : ByteArray).extract a b) = ⟨((l.drop a).take (b - a)).toArray⟩ := by
  apply str_of
  rw [extract_list]

theorem nd_bs (d k : Nat) (h : d < bs ^ k) : nd d ≤ 9 * k := by
  apply nd_le
  rw [Nat.pow_mul]
  have e : (10 : Nat) ^ 9 = bs := rfl
  rw [e]; exact h
theorem trimR_len (l : List UInt8) (c : UInt8) : (Lib.trimRightB l c).length ≤ l.length := by
  unfold Lib.trimRightB
  rw [List.length_reverse]
  have := (List.dropWhile_sublist (l := l.reverse) (fun x => x == c)).length_le
  rwa [List.length_reverse] at this

set_option maxRecDepth 100000 in
set_option maxHeartbeats 2000000 in
theorem text_any (neg : Bool) (d : Nat) (v : Value) (w : World) (h : RdB w v (words d)) (hd : (words d).length ≤ 1000) :
    Calls Tryz.prog 119 #[.agg #[.bool neg, v]] w fun e w' => e = .returned (.string ⟨(textL neg d).toArray⟩) ∧ Below w.heap.size w w' := by
  have H := Lib.hid h
  clear h
  have hln := decS_len d 21
  have hnd : nd d ≤ 9 * 1000 := Nat.le_trans (nd_bs d _ (words_lt_len d)) (Nat.mul_le_mul_left _ hd)
  obtain ⟨S, hS⟩ : ∃ S, S = decS d 21 := ⟨_, rfl⟩
  have HS := Lib.hid (show (decl d 21).reverse.map dch = S from hS.symm)
  rw [← hS] at hln
  obtain ⟨m, hm⟩ : ∃ m, S.length = m + 20 := ⟨S.length - 20, by omega⟩
  have hm1 : 1 ≤ m := by omega
  have hm2 : m ≤ 10000 := by omega
  have HT := Lib.hid (show textL neg d = (if neg then [45] else []) ++ (S.take m ++ (if (Lib.trimRightB (S.drop m) 48).isEmpty then [] else 46 :: Lib.trimRightB (S.drop m) 48)) by
    unfold textL tWhole tFrac; rw [← hS, hm, Nat.add_sub_cancel])
  have HSZ := Lib.hid (show (⟨S.toArray⟩ : ByteArray).size = m + 20 by rw [barr_size, hm])
  have hmi : ((m + 20 : Nat) : Int) - 20 = (m : Int) := by omega
  have HM := Lib.hid hm
  have HFL := Lib.hid (show (Lib.trimRightB (S.drop m) 48).length ≤ 20 by have := trimR_len (S.drop m) 48; rw [List.length_drop] at this; omega)
  clear hln hnd hS hm
  go_enter Tryz.func119, Tryz.ntmps119
  go_wp2_with fail
  refine (digits_any d 21 v _ (H.out.below ((Below.refl _ _).alloc (Nat.le_refl _) _)) (by omega) (by omega) (by omega)).mono ?_
  rintro e w1 ⟨he, hb⟩
  rw [HS.out] at he
  subst he
  have c0 : w1.cell? ⟨w.heap.size, 0, none⟩ = some (.bool neg) := (hb.cell (p := ⟨w.heap.size, 0, none⟩) (by simp)).trans (by simp)
  have HB := Lib.hid (below_to hb)
  clear hb
  go_wp2
  have hm := HM.out
  have hx : ((m : Int) + 20) - 20 = (m : Int) := by omega
  go_quiet ((go_at_call 156; exact Calls.quiet_of_same (Tryz.strings_TrimRight_one _ 48 (by decide) _ (by simp; omega))))
  have e1 : (⟨S.toArray⟩ : ByteArray).extract 0 m = ⟨(S.take m).toArray⟩ := by rw [barr_extract]; simp
  have e2 : ((⟨S.toArray⟩ : ByteArray).extract m (m + 20)).data.toList = S.drop m := by
    rw [barr_extract]
    have : (S.drop m).length = 20 := by rw [List.length_drop]; omega
    rw [List.take_of_length_le (by omega)]
  rw [e1, e2]
  have hW : (S.take m).length ≤ 10000 := by rw [List.length_take]; omega
  clear hm hx hmi e1 e2
  generalize Lib.trimRightB (S.drop m) 48 = F at *
  generalize S.take m = Wh at *
  have hF := HFL.out
  have HB2 := Lib.hid (bel_dn HB.out nq)
  have c1 : (w1.drewN nq).cell? ⟨w.heap.size, 0, none⟩ = some (.bool neg) := by simpa using c0
  clear c0 HB
  generalize w1.drewN nq = w2 at *
  rcases F with _ | ⟨f0, F⟩
  · have HT2 := Lib.hid (show textL neg d = (if neg then [45] else []) ++ Wh by rw [HT.out]; simp)
    clear HT hF
    go_wp2
    all_goals go_ret
    all_goals refine ⟨rS ?_, HB2.out⟩
    all_goals rw [HT2.out]
    all_goals simp_all
  · have HT2 := Lib.hid (show textL neg d = (if neg then [45] else []) ++ (Wh ++ (46 :: f0 :: F)) by rw [HT.out]; simp)
    simp only [List.length_cons] at hF
    clear HT
    go_wp2
    all_goals go_ret
    all_goals refine ⟨rS ?_, HB2.out⟩
    all_goals rw [HT2.out]
    all_goals simp_all
end Go.Proofs.YtajkdllakleakaaGreatDoor
