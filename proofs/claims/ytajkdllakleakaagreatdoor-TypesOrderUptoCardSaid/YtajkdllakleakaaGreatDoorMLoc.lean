/- The law 'chisellaw16.TypesOrder': for every three types (of bulk at most 1048576) it returns true, and the arguments read as they did: its card. -/
import Derived.Test.YtajkdllakleakaaGreatDoorCards
import Derived.Test.YtajkdllakleakaaGreatDoorTie
import Derived.Lay
import Derived.LaidOnce
import Derived.MakeChecks
import Derived.SevenTiedAt
import Derived.Deep.DeepHandedRow
import Derived.Test.YtajkdllakleakaaGreatDoorMToa
import Derived.Test.YtajkdllakleakaaGreatDoorM13
import Derived.Test.YtajkdllakleakaaGreatDoorLof
import Derived.Test.YtajkdllakleakaaGreatDoorLoF2
namespace Go.Proofs.YtajkdllakleakaaGreatDoor.typesOrder
open Go.ChangeShapes Go.WideShapes Go.ChangeAt Go.RowKit Go.Deep
set_option linter.unusedVariables false
set_option linter.unusedSimpArgs false

theorem own : ownKnob Tryz.prog.godebug = none := by kernel_rfl
theorem laidOut : laidOutB Tryz.prog = true := by kernel_rfl
open _root_.Go.Proofs.YtajkdllakleakaaGreatDoor.Rows (uptoBulk uptoBulkAll)
theorem tabs_laid {W : World} (h : laidMet Tryz.prog Rows.typesOrderUptoRow.laid W) : Tabs W := by
  obtain ⟨ps, h, _⟩ := h
  exact tabs_of h (List.mem_of_getElem? (i := 13) rfl) (List.mem_of_getElem? (i := 12) rfl)
set_option maxRecDepth 100000 in
/-- What the walk gives, for every argument whose reading is of small bulk. -/
theorem contract (H : Type) (enc : TypeId × Value → H) (W : World) (base : Nat) (args : Array Value) (ds gs : List (DataW H)) (before : List MemPlace)
    (hval0 : ∀ (j : Nat) t v, Tryz.f4.params[j]? = some t → args[j]? = some v → Value.okWide Tryz.prog W .any base t v)
    (hW : DataW.Whole enc Tryz.prog Tryz.f4.params.toList Rows.typesOrderSpec.vars false W args.toList ds gs before) (hk : Rows.uptoSmall H (ds ++ gs) = true) (hT : Tabs W) :
    Calls Tryz.prog 4 args W fun e W' => ∃ v, e = .returned v ∧ Rows.typesOrderSpec.post enc Tryz.prog Tryz.f4 false true false false W args v W' := by
  have hval : ∀ (j : Nat) t v, Tryz.f4.params[j]? = some t → args[j]? = some v → Value.okWide Tryz.prog W .any base t v := hval0
  have hW' := hW
  obtain ⟨p, q, hA0, hV, rfl, hfz, hnd⟩ := hW
  have hA : DataW.TrodAll enc Tryz.prog W 0 (fun _ => true) true Tryz.f4.params.toList args.toList ds p := hA0
  rw [Tryz.params4] at hA hval
  obtain ⟨v0, v1, v2, d0, d1, d2, p0, p1, p2, rfl, rfl, rfl, h0, h1, h2⟩ := trodAll_three hA
  obtain ⟨rfl, rfl⟩ := trodVars_none hV
  clear hA hA0 hval0
  simp only [List.append_nil] at hW'
  obtain ⟨c0, rfl, hc0⟩ := okWide_struct Tryz.underlying37 (hval 0 37 v0 rfl rfl)
  obtain ⟨c1, rfl, hc1⟩ := okWide_struct Tryz.underlying37 (hval 1 37 v1 rfl rfl)
  obtain ⟨c2, rfl, hc2⟩ := okWide_struct Tryz.underlying37 (hval 2 37 v2 rfl rfl)
  obtain ⟨fuel0, hf0⟩ := h0
  obtain ⟨fuel1, hf1⟩ := h1
  obtain ⟨fuel2, hf2⟩ := h2
  obtain ⟨t0, e0, hz0⟩ := ty_open (cs := c0.toList) hf0
  rw [Array.toArray_toList] at e0
  obtain ⟨t1, e1, hz1⟩ := ty_open (cs := c1.toList) hf1
  rw [Array.toArray_toList] at e1
  obtain ⟨t2, e2, hz2⟩ := ty_open (cs := c2.toList) hf2
  rw [Array.toArray_toList] at e2
  have hle0 : uptoBulk d0 ≤ uptoBulkAll [d0, d1, d2] := bulk_one [d0, d1, d2] 0 d0 rfl
  have hle1 : uptoBulk d1 ≤ uptoBulkAll [d0, d1, d2] := bulk_one [d0, d1, d2] 1 d1 rfl
  have hle2 : uptoBulk d2 ≤ uptoBulkAll [d0, d1, d2] := bulk_one [d0, d1, d2] 2 d2 rfl
  have hbulk : uptoBulkAll [d0, d1, d2] ≤ 1048576 := by simpa [Rows.uptoSmall] using hk
  have hcall := order_any t0 t1 t2 W hT (by simp only at hz0 hz1 hz2; omega)
  rw [← e0, ← e1, ← e2] at hcall
  refine hcall.mono fun e W' ⟨he, hb⟩ => ?_
  subst he
  exact ⟨_, rfl, _, _, _, [], _, [], hW', trodAll_mk1 (shut_bool Tryz.underlying4 _), trodAll_mk3 (Below.trod laidOut (by kernel_rfl) (by decide +kernel) ⟨fuel0, hf0⟩ hb (fun x hx => hW'.lt x (List.mem_append_left _ (List.mem_append_left _ hx)))) (Below.trod laidOut (by kernel_rfl) (by decide +kernel) ⟨fuel1, hf1⟩ hb (fun x hx => hW'.lt x (List.mem_append_left _ (List.mem_append_right _ hx)))) (Below.trod laidOut (by kernel_rfl) (by decide +kernel) ⟨fuel2, hf2⟩ hb (fun x hx => hW'.lt x (List.mem_append_right _ hx))), rfl, hb.frame _, fun h => by cases h⟩

/-- The witness: three types of nothing, in the world that holds the tables. -/
theorem reads (os : Os) {H : Type} (enc : TypeId × Value → H) : (Rows.OpenSpec.upto Rows.typesOrderSpec).preRow enc Tryz.prog Tryz.f4 Rows.typesOrderUptoRow.domain false Rows.typesOrderUptoRow.laid ((World.laidAll Tryz.prog os Rows.typesOrderUptoRow.laid).forCall (fun _ _ => 0) ⟨#[], #[.agg #[.int .i64 0, .int .i64 0, .int .i64 0, .string { data := #[] }, .string { data := #[] }], .agg #[.int .i64 0, .int .i64 0, .int .i64 0, .string { data := #[] }, .string { data := #[] }], .agg #[.int .i64 0, .int .i64 0, .int .i64 0, .string { data := #[] }, .string { data := #[] }]], []⟩).memory #[.agg #[.int .i64 0, .int .i64 0, .int .i64 0, .string { data := #[] }, .string { data := #[] }], .agg #[.int .i64 0, .int .i64 0, .int .i64 0, .string { data := #[] }, .string { data := #[] }], .agg #[.int .i64 0, .int .i64 0, .int .i64 0, .string { data := #[] }, .string { data := #[] }]] := by
  have hw : (DataW.whole enc Tryz.prog ((World.laidAll Tryz.prog os Rows.typesOrderUptoRow.laid).forCall (fun _ _ => 0) ⟨#[], #[.agg #[.int .i64 0, .int .i64 0, .int .i64 0, .string { data := #[] }, .string { data := #[] }], .agg #[.int .i64 0, .int .i64 0, .int .i64 0, .string { data := #[] }, .string { data := #[] }], .agg #[.int .i64 0, .int .i64 0, .int .i64 0, .string { data := #[] }, .string { data := #[] }]], []⟩).memory Tryz.f4.params.toList Rows.typesOrderSpec.vars false #[Value.agg #[Value.int .i64 0, Value.int .i64 0, Value.int .i64 0, Value.string { data := #[] }, Value.string { data := #[] }], Value.agg #[Value.int .i64 0, Value.int .i64 0, Value.int .i64 0, Value.string { data := #[] }, Value.string { data := #[] }], Value.agg #[Value.int .i64 0, Value.int .i64 0, Value.int .i64 0, Value.string { data := #[] }, Value.string { data := #[] }]].toList 8).map (fun x => (x.1, x.2.1)) = some ([.agg [.lit (.int .i64 0), .lit (.int .i64 0), .agg [.lit (.int .i64 0), .lit (.string [])], .lit (.string [])], .agg [.lit (.int .i64 0), .lit (.int .i64 0), .agg [.lit (.int .i64 0), .lit (.string [])], .lit (.string [])], .agg [.lit (.int .i64 0), .lit (.int .i64 0), .agg [.lit (.int .i64 0), .lit (.string [])], .lit (.string [])]], []) := by kernel_rfl
  obtain ⟨⟨x1, x2, x3⟩, hx, hx1⟩ := Option.map_eq_some_iff.1 hw
  simp only [Prod.mk.injEq] at hx1
  obtain ⟨rfl, rfl⟩ := hx1
  exact OpenSpec.preRow_of_cond 8 hx (by kernel_rfl) (fun k hk => by cases hk; kernel_rfl) (by kernel_rfl) (laidMet_laidAll _ (by kernel_rfl) (by kernel_rfl))
set_option maxRecDepth 100000 in
theorem liftedUpto (os : Os) (started : os.Started) (H : Type) (enc : TypeId × Value → H) (F : Stop.Interp) :
    ReturnsInHanded {} Tryz.checked os 4 .any ((Rows.OpenSpec.upto Rows.typesOrderSpec).preRow enc Tryz.prog Tryz.f4 Rows.typesOrderUptoRow.domain false Rows.typesOrderUptoRow.laid) (((Rows.OpenSpec.upto Rows.typesOrderSpec).at F).post enc Tryz.prog Tryz.f4 false true false false) := by
  refine returnsInHanded_of_row (C := Tryz.checked) (s := Rows.OpenSpec.upto Rows.typesOrderSpec) own started (by kernel_rfl) Tryz.func4
    ⟨World.laidAll Tryz.prog os Rows.typesOrderUptoRow.laid, fun _ _ => 0, ⟨#[], #[.agg #[.int .i64 0, .int .i64 0, .int .i64 0, .string { data := #[] }, .string { data := #[] }], .agg #[.int .i64 0, .int .i64 0, .int .i64 0, .string { data := #[] }, .string { data := #[] }], .agg #[.int .i64 0, .int .i64 0, .int .i64 0, .string { data := #[] }, .string { data := #[] }]], []⟩, World.laidAll_os _ _ _, World.shaped_of_ZipB (by kernel_rfl) (by kernel_rfl), rfl, (Input.okWide_of_okWideB (by kernel_rfl)).2, reads os enc, by
      simp only [Assume.holds]
      exact ⟨by simp, by simp, fun _ => Modest.zero, by simp, by simp⟩⟩ ?_
  intro W base args ds gs before hval hW _ hcond _ hL _ _
  exact contract H enc W base args ds gs before hval hW (hcond _ rfl) (tabs_laid hL)
theorem saidUpto : Rows.TypesOrderUptoSaid :=
  OpenClaim.holds_of_cond 4 Tryz.f4 rfl rfl rfl rfl rfl rfl rfl ⟨rfl, rfl, rfl, rfl, rfl⟩ rfl rfl rfl rfl rfl tofacts.fnNamed Tryz.func4 tofacts.closed
    (of_decide_eq_true (by kernel_rfl)) (by unfold Func.isWrapper; first | (rw [if_pos (by decide +kernel)]; kernel_rfl) | (rw [if_neg (by decide +kernel)]; exact ⟨rfl, rfl⟩))
    (fun os started H enc _ F => by rw [OpenClaim.pre_eq_preRow]; exact liftedUpto os started H enc F)
theorem plain (f : FuncId) (fn : Func) (hf : Tryz.pinned.checked.prog.funcNamed "chisel/chisellaw16.TypesOrder" = some f) (hfn : Tryz.pinned.checked.prog.funcs[f]? = some fn) :
    true = Tryz.pinned.checked.prog.looks [] ∧ ∀ (j : Nat) t, fn.params[j]? = some t → Tryz.pinned.checked.prog.wantsStandIn t = false := by
  obtain rfl : f = 4 := Option.some.inj (tofacts.fnNamed.symm.trans hf) |>.symm
  obtain rfl : fn = Tryz.f4 := (Option.some.inj (Tryz.func4.symm.trans hfn)).symm
  refine ⟨tofacts.looks, fun j t ht => ?_⟩
  rw [Tryz.params4] at ht
  obtain rfl : t = 37 := by simpa using Array.mem_of_getElem? ht
  exact (show Tryz.prog.wantsStandIn 37 = false by kernel_rfl)
end Go.Proofs.YtajkdllakleakaaGreatDoor.typesOrder
namespace Go.Proofs.YtajkdllakleakaaGreatDoor
/-- The law's card. -/
theorem typesOrder_card : Rows.TypesOrderUptoCardSaid :=
  Claim7.holds_tied_plain_at .later [] _ _ _ _ typesOrder.saidUpto (fun _ h => by cases h) tofacts.wfByText (fun _ h => by cases h) typesOrderUpto_row_tie rfl ⟨rfl, rfl⟩ tofacts.mainIs rfl typesOrder.plain tofacts.goes
#print axioms typesOrder_card
end Go.Proofs.YtajkdllakleakaaGreatDoor
