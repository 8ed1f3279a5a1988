/- The law 'chisellaw30.GroupsMarks': for every list of marks it returns true, and the list reads as it did: its card. -/
import Derived.Test.YtfheoplcjeimdaaGreatDoorCards
import Derived.Test.YtfheoplcjeimdaaGreatDoorTie
import Derived.Test.YtfheoplcjeimdaaGreatDoorGs
import Derived.Test.YtfheoplcjeimdaaGreatDoorArg
import Derived.Test.YtfheoplcjeimdaaGreatDoorGsf
import Derived.Test.YtfheoplcjeimdaaGreatDoorGsF2
import Derived.Lay
import Derived.LaidOnce
import Derived.MakeChecks
import Derived.SevenTiedAt
namespace Go.Proofs.YtfheoplcjeimdaaGreatDoor.groupsMarks
open Go.ChangeShapes Go.WideShapes Go.ChangeAt Go.RowKit Go.Deep
set_option linter.unusedVariables false
set_option linter.unusedSimpArgs false

theorem own : ownKnob Tryz.prog.godebug = none := by kernel_rfl
theorem laidOut : laidOutB Tryz.prog = true := by kernel_rfl
theorem cellsBool : Tryz.prog.cellsOf 4 = 1 := by kernel_rfl
set_option maxRecDepth 100000 in
theorem lifted (os : Os) (started : os.Started) (H : Type) (enc : TypeId × Value → H) :
    ReturnsInHanded {} Tryz.checked os 8 .any (fun w args => (Rows.groupsMarksSpec.pre enc Tryz.prog Tryz.f8 [] false w args ∧ laidMetH Tryz.prog Rows.groupsMarksRow.laid w) ∧ sizedMet enc Tryz.prog Tryz.f8 (OpenSpec.ofChange Rows.groupsMarksSpec) false w args)
      (Rows.groupsMarksSpec.post enc Tryz.prog Tryz.f8 false true false false) := by
  refine returnsInHanded_of_change_and (C := Tryz.checked) (X := fun w _ => laidMetH Tryz.prog Rows.groupsMarksRow.laid w) (fun _ _ _ hh h => h.of_heap hh) own started (by kernel_rfl) Tryz.func8
    (ChangeSpec.witness_shaped (enc := enc) (C := Tryz.checked) (os := os) (X := fun w _ => laidMetH Tryz.prog Rows.groupsMarksRow.laid w) false (World.laidAll Tryz.prog os Rows.groupsMarksRow.laid) #[.slice none 0 0] 8 (World.laidAll_os _ _ _)
      (World.shaped_of_ZipB (by kernel_rfl) (by kernel_rfl)) (by kernel_rfl) (by kernel_rfl) (by kernel_rfl)
      (by rw [MakeChecks.laidMetH_plain _ _ _ (by kernel_rfl)]; exact laidMet_laidAll _ (by kernel_rfl) (by kernel_rfl))) ?_
  intro W base args ds gs before hval0 hW _ _ hL _
  have hval : ∀ (j : Nat) t v, Tryz.f8.params[j]? = some t → args[j]? = some v → Value.okWide Tryz.prog W .any base t v := hval0
  have hW' := hW
  obtain ⟨p, q, hA0, hV, rfl, hfz, hnd⟩ := hW
  have hA : DataW.TrodAll enc Tryz.prog W 0 (fun _ => true) true Tryz.f8.params.toList args.toList ds p := hA0
  rw [Tryz.params8] at hA hval
  obtain ⟨v0, d0, rfl, rfl, h0⟩ := trodAll_one hA
  obtain ⟨rfl, rfl⟩ := trodVars_none hV
  clear hA hA0 hval0
  simp only [List.append_nil] at hW'
  obtain ⟨A, len, cap, l, rfl, hl, hn⟩ := open_bools Tryz.underlying32 Tryz.underlying4 cellsBool (hval 0 32 v0 rfl rfl) h0
  refine (marks_any l A len cap W hl hn).mono fun e W' ⟨he, hb⟩ => ?_
  subst he
  exact ⟨_, rfl, _, _, _, [], _, [], hW', trodAll_mk1 (shut_bool Tryz.underlying4 _), trodAll_mk1 (Below.trod laidOut (by kernel_rfl) (by decide +kernel) h0 hb (fun x hx => hW'.lt x hx)), rfl, hb.frame _, fun h => by cases h⟩

theorem said : Rows.GroupsMarksSaid :=
  OpenClaim.holds_of_wide 8 Tryz.f8 rfl rfl rfl rfl rfl rfl rfl ⟨rfl, rfl, rfl, rfl, rfl⟩ rfl rfl rfl rfl rfl gsfacts.fnNamed Tryz.func8 gsfacts.closed
    (of_decide_eq_true (by kernel_rfl)) (by unfold Func.isWrapper; first | (rw [if_pos (by decide +kernel)]; kernel_rfl) | (rw [if_neg (by decide +kernel)]; exact ⟨rfl, rfl⟩))
    (fun os started H enc _ => lifted os started H enc)

theorem plain (f : FuncId) (fn : Func) (hf : Tryz.pinned.checked.prog.funcNamed "chisel/chisellaw30.GroupsMarks" = some f) (hfn : Tryz.pinned.checked.prog.funcs[f]? = some fn) :
    true = Tryz.pinned.checked.prog.looks [] ∧ ∀ (j : Nat) t, fn.params[j]? = some t → Tryz.pinned.checked.prog.wantsStandIn t = false := by
  obtain rfl : f = 8 := Option.some.inj (gsfacts.fnNamed.symm.trans hf) |>.symm
  obtain rfl : fn = Tryz.f8 := (Option.some.inj (Tryz.func8.symm.trans hfn)).symm
  refine ⟨gsfacts.looks, fun j t ht => ?_⟩
  rw [Tryz.params8] at ht
  obtain rfl : t = 32 := by simpa using Array.mem_of_getElem? ht
  exact (show Tryz.prog.wantsStandIn 32 = false by kernel_rfl)
end Go.Proofs.YtfheoplcjeimdaaGreatDoor.groupsMarks
namespace Go.Proofs.YtfheoplcjeimdaaGreatDoor
/-- The law's card. -/
theorem groupsMarks_card : Rows.GroupsMarksCardSaid :=
  Claim7.holds_tied_plain_at .later [] _ _ _ _ groupsMarks.said (fun _ h => by cases h) gsfacts.wfByText (fun _ h => by cases h) groupsMarks_row_tie rfl ⟨rfl, rfl⟩ gsfacts.mainIs rfl groupsMarks.plain gsfacts.goes
#print axioms groupsMarks_card
end Go.Proofs.YtfheoplcjeimdaaGreatDoor
