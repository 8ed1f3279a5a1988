/- Package atom at the atoms of the chapter's examples: which are the same key. -/
import Derived.Test.YtfheoplcjeimdaaGreatDoorKa
namespace Go.Proofs.YtfheoplcjeimdaaGreatDoor
open Go.RowKit
set_option linter.unusedVariables false
set_option linter.unusedSimpArgs false

def ValidK (k : Int) (s : ByteArray) : Prop := ∀ w, Calls Tryz.prog 23 #[.agg #[.int .i64 k, .string s]] w fun e w' => e = .returned (.bool true) ∧ Below w.heap.size w w'
set_option maxRecDepth 100000 in
theorem same_ex (k k' : Int) (s s' : ByteArray) (w : World) (V : ValidK k s) (V' : ValidK k' s') (hk : strB k = false) (he : exB k = true) (he' : exB k' = true) (h5 : (k == 5) = false) :
    Calls Tryz.prog 24 #[.agg #[.int .i64 k, .string s], .agg #[.int .i64 k', .string s']] w fun e w' => e = .returned (.bool (s.toList == s'.toList)) ∧ Below w.heap.size w w' := by
  have HV := Lib.hid V
  have HV' := Lib.hid V'
  clear V V'
  go_enter Tryz.func24, Tryz.ntmps24
  go_wp2_with fail
  refine (HV.out _).mono ?_
  rintro e w1 ⟨rfl, hb1⟩
  obtain ⟨hc, hf⟩ := belCell hb1
  have hz : w.heap.size + 1 < w1.heap.size := by have := hb1.size; simp at this; omega
  go_wp2_with fail
  refine (HV'.out _).mono ?_
  rintro e w2 ⟨rfl, hb2⟩
  have hb12 : Below (w.heap.size + 2) w1 w2 := hb2.mono (by omega)
  have hc2 : ∀ b o, b < w.heap.size + 2 → w2.cell? ⟨b, o, none⟩ = w1.cell? ⟨b, o, none⟩ := fun b o h => hb12.cell (p := ⟨b, o, none⟩) h
  have hz2 : w.heap.size + 1 < w2.heap.size := by have := hb2.size; omega
  go_wp2_with (first | (go_at_call 40; refine (isString_any _ _).mono ?_; rintro e w' ⟨rfl, rfl⟩) | (go_at_call 43; refine (isExact_any _ _).mono ?_; rintro e w' ⟨rfl, rfl⟩))
  go_ret
  exact ⟨rfl, (((((Below.refl _ _).alloc (Nat.le_refl _) _).alloc (by simp) _).trans (hb1.mono (by simp; omega))).trans (hb2.mono (by omega)))⟩

set_option maxRecDepth 100000 in
theorem same_no (k k' : Int) (s s' : ByteArray) (w : World) (V : ValidK k s) (V' : ValidK k' s') (hs : strB k = true → strB k' = false) (he : exB k = true → exB k' = false) (h5 : (k == 5) = false) (h5' : (k' == 5) = false) (hn : (k == k') = false) :
    Calls Tryz.prog 24 #[.agg #[.int .i64 k, .string s], .agg #[.int .i64 k', .string s']] w fun e w' => e = .returned (.bool false) ∧ Below w.heap.size w w' := by
  have HV := Lib.hid V
  have HV' := Lib.hid V'
  clear V V'
  go_enter Tryz.func24, Tryz.ntmps24
  go_wp2_with fail
  refine (HV.out _).mono ?_
  rintro e w1 ⟨rfl, hb1⟩
  obtain ⟨hc, hf⟩ := belCell hb1
  have hz : w.heap.size + 1 < w1.heap.size := by have := hb1.size; simp at this; omega
  go_wp2_with fail
  refine (HV'.out _).mono ?_
  rintro e w2 ⟨rfl, hb2⟩
  have hb12 : Below (w.heap.size + 2) w1 w2 := hb2.mono (by omega)
  have hc2 : ∀ b o, b < w.heap.size + 2 → w2.cell? ⟨b, o, none⟩ = w1.cell? ⟨b, o, none⟩ := fun b o h => hb12.cell (p := ⟨b, o, none⟩) h
  have hz2 : w.heap.size + 1 < w2.heap.size := by have := hb2.size; omega
  have h5n : (k' != 5) = true := by simp [bne, h5']
  cases h1 : strB k <;> cases h2 : exB k
  all_goals
    first | (have hs2 := hs h1) | (have hs2 : True := trivial)
    first | (have he2 := he h2) | (have he2 : True := trivial)
    clear hs he
    go_wp2_with (first | (go_at_call 40; refine (isString_any _ _).mono ?_; rintro e w' ⟨rfl, rfl⟩) | (go_at_call 43; refine (isExact_any _ _).mono ?_; rintro e w' ⟨rfl, rfl⟩))
    go_ret
    refine ⟨rB ?_, (((((Below.refl _ _).alloc (Nat.le_refl _) _).alloc (by simp) _).trans (hb1.mono (by simp; omega))).trans (hb2.mono (by omega)))⟩
    first | rfl | simp_all
set_option maxRecDepth 100000 in
theorem same_nan (w : World) :
    Calls Tryz.prog 24 #[.agg #[.int .i64 5, .string nanS], .agg #[.int .i64 5, .string nanS]] w fun e w' => e = .returned (.bool true) ∧ Below w.heap.size w w' := by
  go_enter Tryz.func24, Tryz.ntmps24
  go_wp2_with fail
  refine (valid_nan _).mono ?_
  rintro e w1 ⟨rfl, hb1⟩
  obtain ⟨hc, hf⟩ := belCell hb1
  have hz : w.heap.size + 1 < w1.heap.size := by have := hb1.size; simp at this; omega
  go_wp2_with fail
  refine (valid_nan _).mono ?_
  rintro e w2 ⟨rfl, hb2⟩
  have B2 := Lib.hid ((((((Below.refl w.heap.size w).alloc (Nat.le_refl _) (.cells #[.int .i64 5, .string nanS] 38)).alloc (by simp) (.cells #[.int .i64 5, .string nanS] 38)).trans (hb1.mono (by simp; omega))).trans (hb2.mono (by omega))))
  have hb12 : Below (w.heap.size + 2) w1 w2 := hb2.mono (by omega)
  have c0 : w2.cell? ⟨w.heap.size, 0, none⟩ = some (.int .i64 5) := (hb12.cell (p := ⟨w.heap.size, 0, none⟩) (by simp)).trans ((hc _ _ (by simp; omega)).trans (by simp))
  have c1 : w2.cell? ⟨w.heap.size, 1, none⟩ = some (.string nanS) := (hb12.cell (p := ⟨w.heap.size, 1, none⟩) (by simp)).trans ((hc _ _ (by simp; omega)).trans (by simp))
  have c2 : w2.cell? ⟨w.heap.size + 1, 0, none⟩ = some (.int .i64 5) := (hb12.cell (p := ⟨w.heap.size + 1, 0, none⟩) (by simp)).trans ((hc _ _ (by simp)).trans (by simp))
  have c3 : w2.cell? ⟨w.heap.size + 1, 1, none⟩ = some (.string nanS) := (hb12.cell (p := ⟨w.heap.size + 1, 1, none⟩) (by simp)).trans ((hc _ _ (by simp)).trans (by simp))
  have f0 : w2.frozen? ⟨w.heap.size, 0, none⟩ = false := (hb12.frozen (p := ⟨w.heap.size, 0, none⟩) (by simp)).trans ((hf _ _ (by simp; omega)).trans (by simp))
  have f1 : w2.frozen? ⟨w.heap.size, 1, none⟩ = false := (hb12.frozen (p := ⟨w.heap.size, 1, none⟩) (by simp)).trans ((hf _ _ (by simp; omega)).trans (by simp))
  have f2 : w2.frozen? ⟨w.heap.size + 1, 0, none⟩ = false := (hb12.frozen (p := ⟨w.heap.size + 1, 0, none⟩) (by simp)).trans ((hf _ _ (by simp)).trans (by simp))
  have f3 : w2.frozen? ⟨w.heap.size + 1, 1, none⟩ = false := (hb12.frozen (p := ⟨w.heap.size + 1, 1, none⟩) (by simp)).trans ((hf _ _ (by simp)).trans (by simp))
  have hz2 : w.heap.size + 1 < w2.heap.size := by have := hb2.size; omega
  clear hc hf hb12 hb1 hb2
  go_wp2_with (first | (go_at_call 40; refine (isString_any _ _).mono ?_; rintro e w' ⟨rfl, rfl⟩) | (go_at_call 43; refine (isExact_any _ _).mono ?_; rintro e w' ⟨rfl, rfl⟩) | (go_at_call 44; refine (isNumber_any _ _).mono ?_; rintro e w' ⟨rfl, rfl⟩))
  go_ret
  refine ⟨rfl, ?_⟩
  repeat (first | exact B2.out | (refine Below.setCell ?_ (by simp) _))

/-- Three sets of atoms. -/
def S1 (k : Int) (s : ByteArray) : Prop := (k = 3 ∧ s = s1_) ∨ (k = 4 ∧ s = s1_) ∨ (k = 1 ∧ s = s1_)
def S2 (k : Int) (s : ByteArray) : Prop := (k = 99 ∧ s = s0_) ∨ (k = 3 ∧ s = s1_)
def S3 (k : Int) (s : ByteArray) : Prop := k = 5 ∧ s = nanS
def va1 : Int → ByteArray → Bool := fun k _ => !(k == 99)
def sa1 : Int → ByteArray → Int → ByteArray → Bool := fun k _ k' _ => (strB k && strB k') || (exB k && exB k') || (k == 5 && k' == 5)
theorem valid_w1 : ValidK 1 s1_ := fun w => by
  have := valid_str 1 s1_ w rfl (by decide)
  rwa [show isTextB s1_ = true by decide +kernel] at this
theorem ex11 (k k' : Int) (w : World) (V : ValidK k s1_) (V' : ValidK k' s1_) (hk : strB k = false) (he : exB k = true) (he' : exB k' = true) (h5 : (k == 5) = false) :
    Calls Tryz.prog 24 #[.agg #[.int .i64 k, .string s1_], .agg #[.int .i64 k', .string s1_]] w fun e w' => e = .returned (.bool true) ∧ Below w.heap.size w w' := by
  have := same_ex k k' s1_ s1_ w V V' hk he he' h5
  simpa using this
theorem st11 (w : World) : Calls Tryz.prog 24 #[.agg #[.int .i64 1, .string s1_], .agg #[.int .i64 1, .string s1_]] w fun e w' => e = .returned (.bool true) ∧ Below w.heap.size w w' := by
  have := same_str 1 1 s1_ s1_ w rfl rfl (by decide) (by decide) (by decide +kernel) (by decide +kernel)
  simpa using this
theorem atomC1 : AtomC S1 (fun _ => True) va1 sa1 := by
  refine ⟨fun k s w h _ => ?_, fun k s k' s' w h h' hv hv' _ => ?_, fun _ _ _ _ => trivial⟩
  · rcases h with ⟨rfl, rfl⟩ | ⟨rfl, rfl⟩ | ⟨rfl, rfl⟩
    · exact valid_int w
    · exact valid_dec w
    · exact valid_w1 w
  · rcases h with ⟨rfl, rfl⟩ | ⟨rfl, rfl⟩ | ⟨rfl, rfl⟩ <;> rcases h' with ⟨rfl, rfl⟩ | ⟨rfl, rfl⟩ | ⟨rfl, rfl⟩
    · exact ex11 3 3 w valid_int valid_int rfl rfl rfl rfl
    · exact ex11 3 4 w valid_int valid_dec rfl rfl rfl rfl
    · exact same_no 3 1 s1_ s1_ w valid_int valid_w1 (by decide) (by decide) rfl rfl rfl
    · exact ex11 4 3 w valid_dec valid_int rfl rfl rfl rfl
    · exact ex11 4 4 w valid_dec valid_dec rfl rfl rfl rfl
    · exact same_no 4 1 s1_ s1_ w valid_dec valid_w1 (by decide) (by decide) rfl rfl rfl
    · exact same_no 1 3 s1_ s1_ w valid_w1 valid_int (by decide) (by decide) rfl rfl rfl
    · exact same_no 1 4 s1_ s1_ w valid_w1 valid_dec (by decide) (by decide) rfl rfl rfl
    · exact st11 w
theorem atomC2 : AtomC S2 (fun _ => True) va1 sa1 := by
  refine ⟨fun k s w h _ => ?_, fun k s k' s' w h h' hv hv' _ => ?_, fun _ _ _ _ => trivial⟩
  · rcases h with ⟨rfl, rfl⟩ | ⟨rfl, rfl⟩
    · exact valid_bad w
    · exact valid_int w
  · rcases h with ⟨rfl, rfl⟩ | ⟨rfl, rfl⟩
    · exact absurd hv (by decide)
    · rcases h' with ⟨rfl, rfl⟩ | ⟨rfl, rfl⟩
      · exact absurd hv' (by decide)
      · exact ex11 3 3 w valid_int valid_int rfl rfl rfl rfl
theorem atomC3 : AtomC S3 (fun _ => True) va1 sa1 := by
  refine ⟨fun k s w h _ => ?_, fun k s k' s' w h h' hv hv' _ => ?_, fun _ _ _ _ => trivial⟩
  · obtain ⟨rfl, rfl⟩ := h
    exact valid_nan w
  · obtain ⟨rfl, rfl⟩ := h
    obtain ⟨rfl, rfl⟩ := h'
    exact same_nan w
end Go.Proofs.YtfheoplcjeimdaaGreatDoor
