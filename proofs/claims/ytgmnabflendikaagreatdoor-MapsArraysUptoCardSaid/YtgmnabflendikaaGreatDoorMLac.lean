/- The law 'chisellaw18.MapsArrays': for every item, every number and every list of items (of bulk at most 1048576) it returns true, and the arguments read as they did: its card. -/
import Derived.Test.YtgmnabflendikaaGreatDoorCards
import Derived.Test.YtgmnabflendikaaGreatDoorTie
import Derived.Lay
import Derived.LaidOnce
import Derived.MakeChecks
import Derived.SevenTiedAt
import Derived.Deep.DeepHandedRow
import Derived.Test.YtgmnabflendikaaGreatDoorM11
import Derived.Test.YtgmnabflendikaaGreatDoorMLab
import Derived.Test.YtgmnabflendikaaGreatDoorLaf
import Derived.Test.YtgmnabflendikaaGreatDoorLaF2
namespace Go.Proofs.YtgmnabflendikaaGreatDoor.mapsArrays
open Go.ChangeShapes Go.WideShapes Go.ChangeAt Go.RowKit Go.Deep
set_option linter.unusedVariables false
set_option linter.unusedSimpArgs false

theorem own : ownKnob Tryz.prog.godebug = none := by kernel_rfl
theorem laidOut : laidOutB Tryz.prog = true := by kernel_rfl
open _root_.Go.Proofs.YtgmnabflendikaaGreatDoor.Rows (uptoBulk uptoBulkAll)
theorem okWide_i64 {P : Program} {w : World} {r : Reach} {base : Nat} {t : TypeId} {v : Value} (ht : P.underlying t = some (.int .i64)) (h : Value.okWide P w r base t v) : ∃ n, v = .int .i64 n ∧ i64B n := by
  obtain ⟨n, rfl⟩ := okWide_int ht h
  refine ⟨n, rfl, ?_⟩
  simp [Value.okWide, ht, Cell.okWide, Cell.ok, IntKind.has] at h
  unfold i64B
  exact h

set_option maxRecDepth 100000 in
/-- What the walk gives, for every argument whose reading is of small bulk. -/
theorem contract (H : Type) (enc : TypeId × Value → H) (W : World) (base : Nat) (args : Array Value) (ds gs : List (DataW H)) (before : List MemPlace)
    (hval0 : ∀ (j : Nat) t v, Tryz.f3.params[j]? = some t → args[j]? = some v → Value.okWide Tryz.prog W .any base t v)
    (hW : DataW.Whole enc Tryz.prog Tryz.f3.params.toList Rows.mapsArraysSpec.vars false W args.toList ds gs before) (hk : Rows.uptoSmall H (ds ++ gs) = true) :
    Calls Tryz.prog 3 args W fun e W' => ∃ v, e = .returned v ∧ Rows.mapsArraysSpec.post enc Tryz.prog Tryz.f3 false true false false W args v W' := by
  have hval : ∀ (j : Nat) t v, Tryz.f3.params[j]? = some t → args[j]? = some v → Value.okWide Tryz.prog W .any base t v := hval0
  have hW' := hW
  obtain ⟨p, q, hA0, hV, rfl, hfz, hnd⟩ := hW
  have hA : DataW.TrodAll enc Tryz.prog W 0 (fun _ => true) true Tryz.f3.params.toList args.toList ds p := hA0
  rw [Tryz.params3] at hA hval
  obtain ⟨v0, v1, v2, d0, d1, d2, p0, p1, p2, rfl, rfl, rfl, h0, h1, h2⟩ := trodAll_three hA
  obtain ⟨rfl, rfl⟩ := trodVars_none hV
  clear hA hA0 hval0
  simp only [List.append_nil] at hW'
  obtain ⟨cs, rfl, hcs⟩ := okWide_struct Tryz.underlying28 (hval 0 28 v0 rfl rfl)
  obtain ⟨i, rfl, hi⟩ := okWide_i64 Tryz.underlying3 (hval 1 3 v1 rfl rfl)
  obtain ⟨A, m, c, rfl⟩ := okWide_slice itemTypes.uqI (hval 2 29 v2 rfl rfl)
  obtain ⟨fuel, hf⟩ := h0
  obtain ⟨fuel', hf'⟩ := h2
  obtain ⟨r, hr, n, b, f, hit, hnb⟩ := it_open itemTypes (n := fuel) (cs := cs.toList) hf
  obtain rfl : cs = r.cells.toArray := by rw [← hr, Array.toArray_toList]
  obtain ⟨n', b', f', hq, hnb'⟩ := sq_open itemTypes fuel' _ _ hf'
  have hle : uptoBulk d0 ≤ uptoBulkAll [d0, d1, d2] := bulk_one [d0, d1, d2] 0 d0 rfl
  have hle' : uptoBulk d2 ≤ uptoBulkAll [d0, d1, d2] := bulk_one [d0, d1, d2] 2 d2 rfl
  have hbulk : uptoBulkAll [d0, d1, d2] ≤ 1048576 := by simpa [Rows.uptoSmall] using hk
  have hit' : ItP W (SqR W (fuel + fuel')) r n b f := hit.mono fun v n b f h => SqR.le (by omega) h
  refine (lawArrays_any hit' (SqR.le (d' := fuel + fuel') (by omega) hq) (by simp only at hnb; omega) (by simp only at hnb; omega) (by simp only at hnb'; omega) (by simp only at hnb'; omega) i hi).mono fun e W' ⟨he, hb⟩ => ?_
  subst he
  exact ⟨_, rfl, _, _, _, [], _, [], hW', trodAll_mk1 (shut_bool Tryz.underlying4 _), trodAll_mk3 (Below.trod laidOut (by kernel_rfl) (by decide +kernel) ⟨fuel, hf⟩ hb (fun x hx => hW'.lt x (List.mem_append_left _ (List.mem_append_left _ hx)))) (Below.trod laidOut (by kernel_rfl) (by decide +kernel) h1 hb (fun x hx => hW'.lt x (List.mem_append_left _ (List.mem_append_right _ hx)))) (Below.trod laidOut (by kernel_rfl) (by decide +kernel) ⟨fuel', hf'⟩ hb (fun x hx => hW'.lt x (List.mem_append_right _ hx))), rfl, hb.frame _, fun h => by cases h⟩

/-- The witness: an empty item, nothing, in the world that holds the tables. -/
theorem reads (os : Os) {H : Type} (enc : TypeId × Value → H) : (Rows.OpenSpec.upto Rows.mapsArraysSpec).preRow enc Tryz.prog Tryz.f3 Rows.mapsArraysUptoRow.domain false Rows.mapsArraysUptoRow.laid ((World.laidAll Tryz.prog os Rows.mapsArraysUptoRow.laid).forCall (fun _ _ => 0) ⟨#[], #[.agg #[.int .i64 0, .int .i64 0, .string { data := #[] }, .int .i64 0, .int .i64 0, .slice none 0 0, .slice none 0 0, .pointer none], .int .i64 0, .slice none 0 0], []⟩).memory #[.agg #[.int .i64 0, .int .i64 0, .string { data := #[] }, .int .i64 0, .int .i64 0, .slice none 0 0, .slice none 0 0, .pointer none], .int .i64 0, .slice none 0 0] := by
  have hw : (DataW.whole enc Tryz.prog ((World.laidAll Tryz.prog os Rows.mapsArraysUptoRow.laid).forCall (fun _ _ => 0) ⟨#[], #[.agg #[.int .i64 0, .int .i64 0, .string { data := #[] }, .int .i64 0, .int .i64 0, .slice none 0 0, .slice none 0 0, .pointer none], .int .i64 0, .slice none 0 0], []⟩).memory Tryz.f3.params.toList Rows.mapsArraysSpec.vars false #[Value.agg #[Value.int .i64 0, Value.int .i64 0, Value.string { data := #[] }, Value.int .i64 0, Value.int .i64 0, Value.slice none 0 0, Value.slice none 0 0, Value.pointer none], Value.int .i64 0, Value.slice none 0 0].toList 8).map (fun x => (x.1, x.2.1)) = some ([.agg [.lit (.int .i64 0), .agg [.lit (.int .i64 0), .lit (.string [])], .lit (.int .i64 0), .lit (.int .i64 0), .nil, .nil, .nil], .lit (.int .i64 0), .nil], []) := by kernel_rfl
  obtain ⟨⟨x1, x2, x3⟩, hx, hx1⟩ := Option.map_eq_some_iff.1 hw
  simp only [Prod.mk.injEq] at hx1
  obtain ⟨rfl, rfl⟩ := hx1
  exact OpenSpec.preRow_of_cond 8 hx (by kernel_rfl) (fun k hk => by cases hk; kernel_rfl) (by kernel_rfl) (laidMet_laidAll _ (by kernel_rfl) (by kernel_rfl))
set_option maxRecDepth 100000 in
theorem liftedUpto (os : Os) (started : os.Started) (H : Type) (enc : TypeId × Value → H) (F : Stop.Interp) :
    ReturnsInHanded {} Tryz.checked os 3 .any ((Rows.OpenSpec.upto Rows.mapsArraysSpec).preRow enc Tryz.prog Tryz.f3 Rows.mapsArraysUptoRow.domain false Rows.mapsArraysUptoRow.laid) (((Rows.OpenSpec.upto Rows.mapsArraysSpec).at F).post enc Tryz.prog Tryz.f3 false true false false) := by
  refine returnsInHanded_of_row (C := Tryz.checked) (s := Rows.OpenSpec.upto Rows.mapsArraysSpec) own started (by kernel_rfl) Tryz.func3
    ⟨World.laidAll Tryz.prog os Rows.mapsArraysUptoRow.laid, fun _ _ => 0, ⟨#[], #[.agg #[.int .i64 0, .int .i64 0, .string { data := #[] }, .int .i64 0, .int .i64 0, .slice none 0 0, .slice none 0 0, .pointer none], .int .i64 0, .slice none 0 0], []⟩, World.laidAll_os _ _ _, World.shaped_of_ZipB (by kernel_rfl) (by kernel_rfl), rfl, (Input.okWide_of_okWideB (by kernel_rfl)).2, reads os enc, by
      simp only [Assume.holds]
      exact ⟨by simp, by simp, fun _ => Modest.zero, by simp, by simp⟩⟩ ?_
  intro W base args ds gs before hval hW _ hcond _ hL _ _
  exact contract H enc W base args ds gs before hval hW (hcond _ rfl)
theorem saidUpto : Rows.MapsArraysUptoSaid :=
  OpenClaim.holds_of_cond 3 Tryz.f3 rfl rfl rfl rfl rfl rfl rfl ⟨rfl, rfl, rfl, rfl, rfl⟩ rfl rfl rfl rfl rfl mafacts.fnNamed Tryz.func3 mafacts.closed
    (of_decide_eq_true (by kernel_rfl)) (by unfold Func.isWrapper; first | (rw [if_pos (by decide +kernel)]; kernel_rfl) | (rw [if_neg (by decide +kernel)]; exact ⟨rfl, rfl⟩))
    (fun os started H enc _ F => by rw [OpenClaim.pre_eq_preRow]; exact liftedUpto os started H enc F)
theorem plain (f : FuncId) (fn : Func) (hf : Tryz.pinned.checked.prog.funcNamed "chisel/chisellaw18.MapsArrays" = some f) (hfn : Tryz.pinned.checked.prog.funcs[f]? = some fn) :
    true = Tryz.pinned.checked.prog.looks [] ∧ ∀ (j : Nat) t, fn.params[j]? = some t → Tryz.pinned.checked.prog.wantsStandIn t = false := by
  obtain rfl : f = 3 := Option.some.inj (mafacts.fnNamed.symm.trans hf) |>.symm
  obtain rfl : fn = Tryz.f3 := (Option.some.inj (Tryz.func3.symm.trans hfn)).symm
  refine ⟨mafacts.looks, fun j t ht => ?_⟩
  rw [Tryz.params3] at ht
  have ht' : t = 28 ∨ t = 3 ∨ t = 29 := by simpa using Array.mem_of_getElem? ht
  rcases ht' with rfl | rfl | rfl
  · exact (show Tryz.prog.wantsStandIn 28 = false by kernel_rfl)
  · exact (show Tryz.prog.wantsStandIn 3 = false by kernel_rfl)
  · exact (show Tryz.prog.wantsStandIn 29 = false by kernel_rfl)
end Go.Proofs.YtgmnabflendikaaGreatDoor.mapsArrays
namespace Go.Proofs.YtgmnabflendikaaGreatDoor
/-- The law's card. -/
theorem mapsArrays_card : Rows.MapsArraysUptoCardSaid :=
  Claim7.holds_tied_plain_at .later [] _ _ _ _ mapsArrays.saidUpto (fun _ h => by cases h) mafacts.wfByText (fun _ h => by cases h) mapsArraysUpto_row_tie rfl ⟨rfl, rfl⟩ mafacts.mainIs rfl mapsArrays.plain mafacts.goes
#print axioms mapsArrays_card
end Go.Proofs.YtgmnabflendikaaGreatDoor
