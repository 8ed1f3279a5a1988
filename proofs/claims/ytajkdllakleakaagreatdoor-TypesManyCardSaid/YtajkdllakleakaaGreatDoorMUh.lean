/- Chapter 16: Convert of n whole numbers, flat or in an array of two halves. -/
import Derived.Test.YtajkdllakleakaaGreatDoorMUg
import Derived.Test.YtajkdllakleakaaGreatDoorMUd
namespace Go.Proofs.YtajkdllakleakaaGreatDoor
open Go.RowKit
set_option linter.unusedVariables false
set_option linter.unusedSimpArgs false

theorem sev_ok {n : Nat} : ∀ r, r ∈ sev n → ROk r := fun r hr => by rw [sev_at hr]; exact ROk.atomR _ _
theorem sev_can {n U : Nat} (w : World) : ∀ r, r ∈ sev n → CanR w U r := fun r hr => by rw [sev_at hr]; exact can_val d7 vint7 U w
theorem sev_row {n : Nat} : ∀ r, r ∈ sev n → r.k = 0 ∧ AtR r := fun r hr => by rw [sev_at hr]; exact ⟨rfl, rfl, rfl, rfl⟩
theorem sev_len (n : Nat) : (sev n).length = n := by simp [sev]
theorem atmF_app (l r : List IRow) : atmF (l ++ r) = atmF l ++ atmF r := by simp [atmF]
theorem sev_app (a b : Nat) : sev a ++ sev b = sev (a + b) := by simp [sev, List.replicate_append_replicate]
theorem convert_flat (n : Nat) (v : Value) (w : World) (ht : Tabs w) (hn : 0 < n) (hn' : n ≤ 900000) (hl : RdI w (sev n) v) :
    Calls Tryz.prog 6 #[.slice none 0 0, v, tyV plT] w (CvP w n) := by
  obtain ⟨A, c, rfl, hm⟩ := hl.form
  refine Convert_num n A _ c w ht hn hn' (fun U W hW => all_rows U (sev n) _ W (RdRows.below hl hW) (by rw [sev_len]; omega) sev_ok (sev_can W)) (fun U W hW => ?_)
  have := values_rows U (sev n) _ (.slice none 0 0) 0 [] W W (Below.refl _ _) (RdRows.below hl hW) (OwnA.nil _ _) (by rw [sev_len]; omega) sev_row
  simp only [Nat.zero_add, List.nil_append, sev_len] at this ⊢
  exact this
theorem convert_arr (n a b g : Nat) (hab : a + b = n) (m0 m1 v : Value) (w : World) (ht : Tabs w) (hn : 0 < n) (hn' : n ≤ 900000) (ha : a ≤ 65536) (hl : RdI w [arrR g] v) (hm : w.heap[g]? = some (.cells #[m0, m1] 22 (0, 0))) (hr0 : RdI w (sev a) m0) (hr1 : RdI w (sev b) m1) :
    Calls Tryz.prog 6 #[.slice none 0 0, v, tyV plT] w (CvP w n) := by
  obtain ⟨A, c, rfl, _⟩ := hl.form
  have hok : ∀ r, r ∈ [arrR g] → ROk r := fun r hr => by
    obtain rfl : r = arrR g := by simpa using hr
    exact ⟨rfl, rfl, rfl⟩
  refine Convert_num n A _ c w ht hn hn' (fun U W hW => all_rows U [arrR g] _ W (RdRows.below hl hW) (by simp) hok (fun r hr => ?_)) (fun U W hW => ?_)
  · obtain rfl : r = arrR g := by simpa using hr
    exact can_arr U g (sev a) (sev b) m0 m1 W ((hW.block _ (lt_heap hm)).trans hm) (RdRows.below hr0 hW) (RdRows.below hr1 hW) (by rw [sev_len]; omega) (by rw [sev_len]; omega)
      (fun r hr => hr.elim (sev_ok r) (sev_ok r)) (fun r hr => hr.elim (sev_can W r) (sev_can W r))
  · have := values_arr U g (sev a) (sev b) m0 m1 _ W (RdRows.below hl hW) ((hW.block _ (lt_heap hm)).trans hm) (RdRows.below hr0 hW) (RdRows.below hr1 hW) (by simp only [sev_len]; omega) (by simp only [sev_len]; omega) (fun r hr => hr.elim (sev_row r) (sev_row r))
    rw [← atmF_app, sev_app, sev_len, sev_len, hab] at this
    exact this
/-- A part of what has been filled reads. -/
theorem FillS.part {W : World} {g n o a c : Nat} {s : ByteArray} (h : FillS W g n n s) (ho : o + a ≤ n) (hac : a ≤ c) (hc : c ≤ 1000000) : RdI W (List.replicate a (atomR 3 s)) (.slice (some ⟨g, o * 8, none⟩) a c) := by
  refine ⟨some ⟨g, o * 8, none⟩, c, by simp, ⟨fun e => (by cases e), by simpa using hac, by simp [maxLen]; omega⟩, fun _ => ⟨g, o * 8, rfl, h.lt, fun j hj i hi => ?_⟩⟩
  have hj' : j < a := by simpa using hj
  have := h.at_ (o + j) i (by omega) hi
  rw [show o * 8 + j * 8 + i = (o + j) * 8 + i by omega, this]
  congr 2
  simp [List.getD_eq_getElem?_getD, hj']
end Go.Proofs.YtajkdllakleakaaGreatDoor
