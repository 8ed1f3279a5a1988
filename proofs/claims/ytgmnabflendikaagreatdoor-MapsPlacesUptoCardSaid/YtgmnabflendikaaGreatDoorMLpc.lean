/- The law 'chisellaw18.MapsPlaces': for every list of members, every place and every list of items (of bulk at most 1048576) it returns true, and the arguments read as they did: its card. -/
import Derived.Test.YtgmnabflendikaaGreatDoorCards
import Derived.Test.YtgmnabflendikaaGreatDoorTie
import Derived.Lay
import Derived.LaidOnce
import Derived.MakeChecks
import Derived.SevenTiedAt
import Derived.Deep.DeepHandedRow
import Derived.Test.YtgmnabflendikaaGreatDoorM11
import Derived.Test.YtgmnabflendikaaGreatDoorMLpb
import Derived.Test.YtgmnabflendikaaGreatDoorLpf
import Derived.Test.YtgmnabflendikaaGreatDoorLpF2
namespace Go.Proofs.YtgmnabflendikaaGreatDoor.mapsPlaces
open Go.ChangeShapes Go.WideShapes Go.ChangeAt Go.RowKit Go.Deep
set_option linter.unusedVariables false
set_option linter.unusedSimpArgs false

theorem own : ownKnob Tryz.prog.godebug = none := by kernel_rfl
theorem laidOut : laidOutB Tryz.prog = true := by kernel_rfl
open _root_.Go.Proofs.YtgmnabflendikaaGreatDoor.Rows (uptoBulk uptoBulkAll)
theorem okWide_u16 {P : Program} {w : World} {r : Reach} {base : Nat} {t : TypeId} {v : Value} (ht : P.underlying t = some (.int .u16)) (h : Value.okWide P w r base t v) : ∃ q : Nat, v = .int .u16 (q : Int) ∧ q < 65536 := by
  obtain ⟨n, rfl⟩ := okWide_int ht h
  simp [Value.okWide, ht, Cell.okWide, Cell.ok, IntKind.has] at h
  have h1 : (0 : Int) ≤ n := h.1
  have h2 : n ≤ 65535 := h.2
  exact ⟨n.toNat, by congr 1; omega, by omega⟩

set_option maxRecDepth 100000 in
/-- What the walk gives, for every argument whose reading is of small bulk. -/
theorem contract (H : Type) (enc : TypeId × Value → H) (W : World) (base : Nat) (args : Array Value) (ds gs : List (DataW H)) (before : List MemPlace)
    (hval0 : ∀ (j : Nat) t v, Tryz.f4.params[j]? = some t → args[j]? = some v → Value.okWide Tryz.prog W .any base t v)
    (hW : DataW.Whole enc Tryz.prog Tryz.f4.params.toList Rows.mapsPlacesSpec.vars false W args.toList ds gs before) (hk : Rows.uptoSmall H (ds ++ gs) = true) :
    Calls Tryz.prog 4 args W fun e W' => ∃ v, e = .returned v ∧ Rows.mapsPlacesSpec.post enc Tryz.prog Tryz.f4 false true false false W args v W' := by
  have hval : ∀ (j : Nat) t v, Tryz.f4.params[j]? = some t → args[j]? = some v → Value.okWide Tryz.prog W .any base t v := hval0
  have hW' := hW
  obtain ⟨p, q, hA0, hV, rfl, hfz, hnd⟩ := hW
  have hA : DataW.TrodAll enc Tryz.prog W 0 (fun _ => true) true Tryz.f4.params.toList args.toList ds p := hA0
  rw [Tryz.params4] at hA hval
  obtain ⟨v0, v1, v2, d0, d1, d2, p0, p1, p2, rfl, rfl, rfl, h0, h1, h2⟩ := trodAll_three hA
  obtain ⟨rfl, rfl⟩ := trodVars_none hV
  clear hA hA0 hval0
  simp only [List.append_nil] at hW'
  obtain ⟨A0, m0, c0, rfl⟩ := okWide_slice itemTypes.uqM (hval 0 25 v0 rfl rfl)
  obtain ⟨q, rfl, hq16⟩ := okWide_u16 Tryz.underlying41 (hval 1 41 v1 rfl rfl)
  obtain ⟨A, m, c, rfl⟩ := okWide_slice itemTypes.uqI (hval 2 29 v2 rfl rfl)
  obtain ⟨fuel, hf⟩ := h0
  obtain ⟨fuel', hf'⟩ := h2
  obtain ⟨ms, n, b, f, hrd, hms, hnb⟩ := mem_open itemTypes (n := fuel) hf
  obtain ⟨n', b', f', hq, hnb'⟩ := sq_open itemTypes fuel' _ _ hf'
  have hle : uptoBulk d0 ≤ uptoBulkAll [d0, d1, d2] := bulk_one [d0, d1, d2] 0 d0 rfl
  have hle' : uptoBulk d2 ≤ uptoBulkAll [d0, d1, d2] := bulk_one [d0, d1, d2] 2 d2 rfl
  have hbulk : uptoBulkAll [d0, d1, d2] ≤ 1048576 := by simpa [Rows.uptoSmall] using hk
  have hms' : MemS W (fuel + fuel') ms n b f := hms.mono fun v n b f ⟨n', h1, h2⟩ => ⟨n', SqR.le (by omega) h1, h2⟩
  refine (lawPlaces_any hrd hms' (SqR.le (d' := fuel + fuel') (by omega) hq) (by simp only at hnb; omega) (by simp only at hnb; omega) (by simp only at hnb'; omega) (by simp only at hnb'; omega) q hq16).mono fun e W' ⟨he, hb⟩ => ?_
  subst he
  exact ⟨_, rfl, _, _, _, [], _, [], hW', trodAll_mk1 (shut_bool Tryz.underlying4 _), trodAll_mk3 (Below.trod laidOut (by kernel_rfl) (by decide +kernel) ⟨fuel, hf⟩ hb (fun x hx => hW'.lt x (List.mem_append_left _ (List.mem_append_left _ hx)))) (Below.trod laidOut (by kernel_rfl) (by decide +kernel) h1 hb (fun x hx => hW'.lt x (List.mem_append_left _ (List.mem_append_right _ hx)))) (Below.trod laidOut (by kernel_rfl) (by decide +kernel) ⟨fuel', hf'⟩ hb (fun x hx => hW'.lt x (List.mem_append_right _ hx))), rfl, hb.frame _, fun h => by cases h⟩

/-- The witness: nothing at place 0, in the world that holds the tables. -/
theorem reads (os : Os) {H : Type} (enc : TypeId × Value → H) : (Rows.OpenSpec.upto Rows.mapsPlacesSpec).preRow enc Tryz.prog Tryz.f4 Rows.mapsPlacesUptoRow.domain false Rows.mapsPlacesUptoRow.laid ((World.laidAll Tryz.prog os Rows.mapsPlacesUptoRow.laid).forCall (fun _ _ => 0) ⟨#[], #[.slice none 0 0, .int .u16 0, .slice none 0 0], []⟩).memory #[.slice none 0 0, .int .u16 0, .slice none 0 0] := by
  have hw : (DataW.whole enc Tryz.prog ((World.laidAll Tryz.prog os Rows.mapsPlacesUptoRow.laid).forCall (fun _ _ => 0) ⟨#[], #[.slice none 0 0, .int .u16 0, .slice none 0 0], []⟩).memory Tryz.f4.params.toList Rows.mapsPlacesSpec.vars false #[Value.slice none 0 0, Value.int .u16 0, Value.slice none 0 0].toList 8).map (fun x => (x.1, x.2.1)) = some ([.nil, .lit (.int .u16 0), .nil], []) := by kernel_rfl
  obtain ⟨⟨x1, x2, x3⟩, hx, hx1⟩ := Option.map_eq_some_iff.1 hw
  simp only [Prod.mk.injEq] at hx1
  obtain ⟨rfl, rfl⟩ := hx1
  exact OpenSpec.preRow_of_cond 8 hx (by kernel_rfl) (fun k hk => by cases hk; kernel_rfl) (by kernel_rfl) (laidMet_laidAll _ (by kernel_rfl) (by kernel_rfl))
set_option maxRecDepth 100000 in
theorem liftedUpto (os : Os) (started : os.Started) (H : Type) (enc : TypeId × Value → H) (F : Stop.Interp) :
    ReturnsInHanded {} Tryz.checked os 4 .any ((Rows.OpenSpec.upto Rows.mapsPlacesSpec).preRow enc Tryz.prog Tryz.f4 Rows.mapsPlacesUptoRow.domain false Rows.mapsPlacesUptoRow.laid) (((Rows.OpenSpec.upto Rows.mapsPlacesSpec).at F).post enc Tryz.prog Tryz.f4 false true false false) := by
  refine returnsInHanded_of_row (C := Tryz.checked) (s := Rows.OpenSpec.upto Rows.mapsPlacesSpec) own started (by kernel_rfl) Tryz.func4
    ⟨World.laidAll Tryz.prog os Rows.mapsPlacesUptoRow.laid, fun _ _ => 0, ⟨#[], #[.slice none 0 0, .int .u16 0, .slice none 0 0], []⟩, World.laidAll_os _ _ _, World.shaped_of_ZipB (by kernel_rfl) (by kernel_rfl), rfl, (Input.okWide_of_okWideB (by kernel_rfl)).2, reads os enc, by
      simp only [Assume.holds]
      exact ⟨by simp, by simp, fun _ => Modest.zero, by simp, by simp⟩⟩ ?_
  intro W base args ds gs before hval hW _ hcond _ hL _ _
  exact contract H enc W base args ds gs before hval hW (hcond _ rfl)
theorem saidUpto : Rows.MapsPlacesUptoSaid :=
  OpenClaim.holds_of_cond 4 Tryz.f4 rfl rfl rfl rfl rfl rfl rfl ⟨rfl, rfl, rfl, rfl, rfl⟩ rfl rfl rfl rfl rfl mpfacts.fnNamed Tryz.func4 mpfacts.closed
    (of_decide_eq_true (by kernel_rfl)) (by unfold Func.isWrapper; first | (rw [if_pos (by decide +kernel)]; kernel_rfl) | (rw [if_neg (by decide +kernel)]; exact ⟨rfl, rfl⟩))
    (fun os started H enc _ F => by rw [OpenClaim.pre_eq_preRow]; exact liftedUpto os started H enc F)
theorem plain (f : FuncId) (fn : Func) (hf : Tryz.pinned.checked.prog.funcNamed "chisel/chisellaw18.MapsPlaces" = some f) (hfn : Tryz.pinned.checked.prog.funcs[f]? = some fn) :
    true = Tryz.pinned.checked.prog.looks [] ∧ ∀ (j : Nat) t, fn.params[j]? = some t → Tryz.pinned.checked.prog.wantsStandIn t = false := by
  obtain rfl : f = 4 := Option.some.inj (mpfacts.fnNamed.symm.trans hf) |>.symm
  obtain rfl : fn = Tryz.f4 := (Option.some.inj (Tryz.func4.symm.trans hfn)).symm
  refine ⟨mpfacts.looks, fun j t ht => ?_⟩
  rw [Tryz.params4] at ht
  have ht' : t = 25 ∨ t = 41 ∨ t = 29 := by simpa using Array.mem_of_getElem? ht
  rcases ht' with rfl | rfl | rfl
  · exact (show Tryz.prog.wantsStandIn 25 = false by kernel_rfl)
  · exact (show Tryz.prog.wantsStandIn 41 = false by kernel_rfl)
  · exact (show Tryz.prog.wantsStandIn 29 = false by kernel_rfl)
end Go.Proofs.YtgmnabflendikaaGreatDoor.mapsPlaces
namespace Go.Proofs.YtgmnabflendikaaGreatDoor
/-- The law's card. -/
theorem mapsPlaces_card : Rows.MapsPlacesUptoCardSaid :=
  Claim7.holds_tied_plain_at .later [] _ _ _ _ mapsPlaces.saidUpto (fun _ h => by cases h) mpfacts.wfByText (fun _ h => by cases h) mapsPlacesUpto_row_tie rfl ⟨rfl, rfl⟩ mpfacts.mainIs rfl mapsPlaces.plain mpfacts.goes
#print axioms mapsPlaces_card
end Go.Proofs.YtgmnabflendikaaGreatDoor
