/- Chapter 16: an argument that is a type, opened; the tables of package expr, as the statement lays them. -/
import Derived.Test.YtajkdllakleakaaGreatDoorMIo
import Derived.Test.YtajkdllakleakaaGreatDoorTl
import Derived.Test.YtajkdllakleakaaGreatDoorM8
namespace Go.Proofs.YtajkdllakleakaaGreatDoor
open Go.ChangeShapes Go.WideShapes Go.ChangeAt Go.RowKit Go.Deep
open _root_.Go.Proofs.YtajkdllakleakaaGreatDoor.Rows (uptoBulk uptoBulkAll)
set_option linter.unusedVariables false
set_option linter.unusedSimpArgs false

theorem fld_of' {P : Program} {t off tt : Nat} (k : Nat) (hu : P.underlying t = some (.struct (P.fieldsOf t))) (hk : ((P.fieldsOf t).toList[k]?).map (fun f => (f.type, f.offset)) = some (tt, off)) : Fld P t off tt := by
  cases h : (P.fieldsOf t).toList[k]? with
  | none => rw [h] at hk; cases hk
  | some f =>
    rw [h] at hk
    simp only [Option.map_some, Option.some.injEq, Prod.mk.injEq] at hk
    exact ⟨_, f, hu, List.mem_of_getElem? h, hk.1, hk.2⟩
theorem tyF0 : Fld Tryz.prog 37 0 3 := fld_of' 0 (by kernel_rfl) (by kernel_rfl)
theorem tyF1 : Fld Tryz.prog 37 1 3 := fld_of' 1 (by kernel_rfl) (by kernel_rfl)
theorem tyF2 : Fld Tryz.prog 37 2 35 := fld_of' 2 (by kernel_rfl) (by kernel_rfl)
theorem tyF4 : Fld Tryz.prog 37 4 9 := fld_of' 3 (by kernel_rfl) (by kernel_rfl)
theorem teF0 : Fld Tryz.prog 35 0 3 := fld_of' 0 (by kernel_rfl) (by kernel_rfl)
theorem teF1 : Fld Tryz.prog 35 1 9 := fld_of' 1 (by kernel_rfl) (by kernel_rfl)
theorem c_int : Program.cellsOf Tryz.prog 3 = 1 := by kernel_rfl
theorem c_str : Program.cellsOf Tryz.prog 9 = 1 := by kernel_rfl
theorem c_test : Program.cellsOf Tryz.prog 35 = 2 := by kernel_rfl
theorem c_type : Program.cellsOf Tryz.prog 37 = 5 := by kernel_rfl
section
variable {H : Type} {enc : TypeId × Value → H} {w : World} {spare : Nat → Bool} {held : Bool}
theorem ty_int {fuel : Nat} {c : Value} {x : DataW H × List MemPlace} (h : DataW.trod enc Tryz.prog w 0 spare held fuel 3 [c] = some x) : ∃ k, c = .int .i64 k := by
  obtain ⟨k, e, _⟩ := DataW.trod_int Tryz.underlying3 h
  exact ⟨k, by simpa using e⟩
theorem ty_str {fuel : Nat} {c : Value} {x : DataW H × List MemPlace} (h : DataW.trod enc Tryz.prog w 0 spare held fuel 9 [c] = some x) : ∃ s, c = .string s ∧ s.size + 1 ≤ uptoBulk x.1 := by
  obtain ⟨k, e, hx, _⟩ := DataW.trod_string Tryz.underlying9 h
  refine ⟨k, by simpa using e, ?_⟩
  rw [hx]; simp [uptoBulk]
/-- A type of whatever content. -/
theorem ty_open {fuel : Nat} {cs : List Value} {x : DataW H × List MemPlace} (h : DataW.trod enc Tryz.prog w 0 spare held fuel 37 cs = some x) : ∃ t : TyP, Value.agg cs.toArray = tyV t ∧ t.nm.size ≤ uptoBulk x.1 := by
  obtain ⟨n0, y0, _, hl, h0, _⟩ := fld_open tyF0 h
  obtain ⟨n1, y1, _, _, h1, _⟩ := fld_open tyF1 h
  obtain ⟨n2, y2, _, _, h2, k2⟩ := fld_open tyF2 h
  obtain ⟨n4, y4, _, _, h4, _⟩ := fld_open tyF4 h
  rw [c_int] at h0 h1
  rw [c_str] at h4
  rw [c_test] at h2
  rw [c_type] at hl
  match cs, hl with
  | [a, b, c, d, e], _ =>
    simp only [List.drop_zero, List.drop_succ_cons, List.take_succ_cons, List.take_zero] at h0 h1 h2 h4
    obtain ⟨m0, z0, _, _, g0, _⟩ := fld_open teF0 h2
    obtain ⟨m1, z1, _, _, g1, j1⟩ := fld_open teF1 h2
    rw [c_int] at g0
    rw [c_str] at g1
    simp only [List.drop_zero, List.drop_succ_cons, List.take_succ_cons, List.take_zero] at g0 g1
    obtain ⟨k, rfl⟩ := ty_int h0
    obtain ⟨a, rfl⟩ := ty_int h1
    obtain ⟨tk, rfl⟩ := ty_int g0
    obtain ⟨nm, rfl, hz⟩ := ty_str g1
    obtain ⟨oc, rfl, _⟩ := ty_str h4
    exact ⟨⟨k, a, tk, nm, oc⟩, rfl, by simp only; omega⟩
end
/-- The tables, out of what the statement lays. -/
theorem tabs_of {w : World} {l : List (String × DataW Unit)} {ps : List MemPlace} (h : DataW.LaidVars Tryz.prog w l ps)
    (h1 : ("chisel/expr.atoms", Rows.laid_chisel_expr_atoms) ∈ l) (h2 : ("chisel/expr.tests", Rows.laid_chisel_expr_tests) ∈ l) : Tabs w :=
  ⟨TabW.of (by omega) (tab_of (t := 63) (e := 9) h h1 (by kernel_rfl) (by kernel_rfl) (by kernel_rfl) (by kernel_rfl) (by kernel_rfl) (by kernel_rfl)),
   TabW.of (by omega) (tab_of (t := 100) (e := 9) h h2 (by kernel_rfl) (by kernel_rfl) (by kernel_rfl) (by kernel_rfl) (by kernel_rfl) (by kernel_rfl))⟩
end Go.Proofs.YtajkdllakleakaaGreatDoor
