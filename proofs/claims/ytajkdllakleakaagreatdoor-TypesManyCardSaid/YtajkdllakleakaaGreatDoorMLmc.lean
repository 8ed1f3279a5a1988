/- The law 'chisellaw16.TypesMany': for every number and either form it returns true: its card. -/
import Derived.Test.YtajkdllakleakaaGreatDoorCards
import Derived.Test.YtajkdllakleakaaGreatDoorTie
import Derived.Test.YtajkdllakleakaaGreatDoorMUi
import Derived.Test.YtajkdllakleakaaGreatDoorMToa
import Derived.Test.YtajkdllakleakaaGreatDoorLmf
import Derived.Test.YtajkdllakleakaaGreatDoorLmF2
import Derived.Lay
import Derived.LaidOnce
import Derived.MakeChecks
import Derived.SevenTiedAt
namespace Go.Proofs.YtajkdllakleakaaGreatDoor.typesMany
open Go.ChangeShapes Go.WideShapes Go.ChangeAt Go.RowKit Go.Deep
set_option linter.unusedVariables false
set_option linter.unusedSimpArgs false

theorem own : ownKnob Tryz.prog.godebug = none := by kernel_rfl
theorem laidOut : laidOutB Tryz.prog = true := by kernel_rfl
theorem okWide_u8 {P : Program} {w : World} {r : Reach} {base : Nat} {t : TypeId} {v : Value} (ht : P.underlying t = some (.int .u8)) (h : Value.okWide P w r base t v) : ∃ q : Nat, v = .int .u8 (q : Int) ∧ q < 256 := by
  obtain ⟨n, rfl⟩ := okWide_int ht h
  simp [Value.okWide, ht, Cell.okWide, Cell.ok, IntKind.has] at h
  have h1 : (0 : Int) ≤ n := h.1
  have h2 : n ≤ 255 := h.2
  exact ⟨n.toNat, by congr 1; omega, by omega⟩
theorem okWide_b {P : Program} {w : World} {r : Reach} {base : Nat} {t : TypeId} {v : Value} (ht : P.underlying t = some .bool) (h : Value.okWide P w r base t v) : ∃ b : Bool, v = .bool b := by
  cases v <;> simp [Value.okWide, ht, Cell.okWide, Cell.ok] at h
  exact ⟨_, rfl⟩
theorem tabs_laid {W : World} (h : laidMetH Tryz.prog Rows.typesManyRow.laid W) : Tabs W := by
  rw [MakeChecks.laidMetH_plain _ _ _ (by kernel_rfl)] at h
  obtain ⟨ps, h, _⟩ := h
  exact tabs_of h (List.mem_of_getElem? (i := 13) rfl) (List.mem_of_getElem? (i := 12) rfl)
set_option maxRecDepth 100000 in
theorem lifted (os : Os) (started : os.Started) (H : Type) (enc : TypeId × Value → H) :
    ReturnsInHanded {} Tryz.checked os 3 .any (fun w args => (Rows.typesManySpec.pre enc Tryz.prog Tryz.f3 [] false w args ∧ laidMetH Tryz.prog Rows.typesManyRow.laid w) ∧ sizedMet enc Tryz.prog Tryz.f3 (OpenSpec.ofChange Rows.typesManySpec) false w args)
      (Rows.typesManySpec.post enc Tryz.prog Tryz.f3 false true false false) := by
  refine returnsInHanded_of_change_and (C := Tryz.checked) (X := fun w _ => laidMetH Tryz.prog Rows.typesManyRow.laid w) (fun _ _ _ hh h => h.of_heap hh) own started (by kernel_rfl) Tryz.func3
    (ChangeSpec.witness_shaped (enc := enc) (C := Tryz.checked) (os := os) (X := fun w _ => laidMetH Tryz.prog Rows.typesManyRow.laid w) false (World.laidAll Tryz.prog os Rows.typesManyRow.laid) #[.int .u8 0, .bool false] 8 (World.laidAll_os _ _ _)
      (World.shaped_of_ZipB (by kernel_rfl) (by kernel_rfl)) (by kernel_rfl) (by kernel_rfl) (by kernel_rfl)
      (by rw [MakeChecks.laidMetH_plain _ _ _ (by kernel_rfl)]; exact laidMet_laidAll _ (by kernel_rfl) (by kernel_rfl))) ?_
  intro W base args ds gs before hval0 hW _ _ hL _
  have hval : ∀ (j : Nat) t v, Tryz.f3.params[j]? = some t → args[j]? = some v → Value.okWide Tryz.prog W .any base t v := hval0
  have hW' := hW
  obtain ⟨p, q, hA0, hV, rfl, hfz, hnd⟩ := hW
  have hA : DataW.TrodAll enc Tryz.prog W 0 (fun _ => true) true Tryz.f3.params.toList args.toList ds p := hA0
  rw [Tryz.params3] at hA hval
  obtain ⟨v0, v1, d0, d1, p0, p1, rfl, rfl, rfl, h0, h1⟩ := trodAll_two hA
  obtain ⟨rfl, rfl⟩ := trodVars_none hV
  clear hA hA0 hval0
  simp only [List.append_nil] at hW'
  obtain ⟨q, rfl, hq⟩ := okWide_u8 Tryz.underlying5 (hval 0 5 v0 rfl rfl)
  obtain ⟨b, rfl⟩ := okWide_b Tryz.underlying4 (hval 1 4 v1 rfl rfl)
  refine (many_any q hq b W (tabs_laid hL)).mono fun e W' ⟨he, hb⟩ => ?_
  subst he
  exact ⟨_, rfl, _, _, _, [], _, [], hW', trodAll_mk1 (shut_bool Tryz.underlying4 _), trodAll_mk2 (Below.trod laidOut (by kernel_rfl) (by decide +kernel) h0 hb (fun x hx => hW'.lt x (List.mem_append_left _ hx))) (Below.trod laidOut (by kernel_rfl) (by decide +kernel) h1 hb (fun x hx => hW'.lt x (List.mem_append_right _ hx))), rfl, hb.frame _, fun h => by cases h⟩

theorem said : Rows.TypesManySaid :=
  OpenClaim.holds_of_wide 3 Tryz.f3 rfl rfl rfl rfl rfl rfl rfl ⟨rfl, rfl, rfl, rfl, rfl⟩ rfl rfl rfl rfl rfl tmfacts.fnNamed Tryz.func3 tmfacts.closed
    (of_decide_eq_true (by kernel_rfl)) (by unfold Func.isWrapper; first | (rw [if_pos (by decide +kernel)]; kernel_rfl) | (rw [if_neg (by decide +kernel)]; exact ⟨rfl, rfl⟩))
    (fun os started H enc _ => lifted os started H enc)

theorem plain (f : FuncId) (fn : Func) (hf : Tryz.pinned.checked.prog.funcNamed "chisel/chisellaw16.TypesMany" = some f) (hfn : Tryz.pinned.checked.prog.funcs[f]? = some fn) :
    true = Tryz.pinned.checked.prog.looks [] ∧ ∀ (j : Nat) t, fn.params[j]? = some t → Tryz.pinned.checked.prog.wantsStandIn t = false := by
  obtain rfl : f = 3 := Option.some.inj (tmfacts.fnNamed.symm.trans hf) |>.symm
  obtain rfl : fn = Tryz.f3 := (Option.some.inj (Tryz.func3.symm.trans hfn)).symm
  refine ⟨tmfacts.looks, fun j t ht => ?_⟩
  rw [Tryz.params3] at ht
  have ht' : t = 5 ∨ t = 4 := by simpa using Array.mem_of_getElem? ht
  rcases ht' with rfl | rfl
  · exact (show Tryz.prog.wantsStandIn 5 = false by kernel_rfl)
  · exact (show Tryz.prog.wantsStandIn 4 = false by kernel_rfl)
end Go.Proofs.YtajkdllakleakaaGreatDoor.typesMany
namespace Go.Proofs.YtajkdllakleakaaGreatDoor
/-- The law's card. -/
theorem typesMany_card : Rows.TypesManyCardSaid :=
  Claim7.holds_tied_plain_at .later [] _ _ _ _ typesMany.said (fun _ h => by cases h) tmfacts.wfByText (fun _ h => by cases h) typesMany_row_tie rfl ⟨rfl, rfl⟩ tmfacts.mainIs rfl typesMany.plain tmfacts.goes
#print axioms typesMany_card
end Go.Proofs.YtajkdllakleakaaGreatDoor
