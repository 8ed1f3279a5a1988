/- package tree: the text of the example's element. -/
import Derived.RangeFuncNested
import Derived.RangeFuncBound
import Derived.RangeFuncCalls
import Derived.RangeFuncLeaves
import Derived.Shelf.Abstract
import Derived.Shelf.RegionOpen
import Derived.WalkKit
import Derived.OwnWalkIn
import Derived.TacticsInMore
import Derived.LoopNIn
import Derived.LoopIn
import Derived.Test.YtajkdllakleakaaGreatDoorMTe
import Derived.Test.YtajkdllakleakaaGreatDoorMTt
namespace Go.Proofs.YtajkdllakleakaaGreatDoor
open Go.RowKit Go.Shelf
set_option linter.unusedVariables false
set_option linter.unusedSimpArgs false
attribute [local go_sem] Oper.semAt_some

set_option maxRecDepth 100000 in
theorem in_ex (n : Int) (hn : n = 1 ∨ n = 2) (Y : Nat) (w : World) (hy : w.heap[Y]? = some (.cells ndC 70 (0, 0))) : Calls Tryz.prog 48 #[tr1 Y, .int .i64 n] w (AllP w) := by
  have HC : Hid (∀ W : World, Below w.heap.size w W → Calls Tryz.prog 45 #[.agg #[.slice (some ⟨Y, 0, none⟩) 4 4]] W fun e w' => e = .returned (.int .i64 0) ∧ Below W.heap.size W w') := Lib.hid fun W hW => check_ex Y W ((hW.block Y (lt_heap hy)).trans hy)
  clear hy
  unfold tr1
  rcases hn with rfl | rfl
  all_goals
    go_enter Tryz.func48, Tryz.ntmps48
    go_wp2_with fail
    refine (HC.out _ (box1 _ _ _)).mono ?_
    rintro e w1 ⟨rfl, hb⟩
    have HB := Lib.hid ((box1 w _ _).trans (hb.mono (by simp)))
    clear hb
    go_wp2
    go_ret
    exact ⟨rB (by simp), HB.out⟩
set_option maxRecDepth 100000 in
theorem below_ex (n : Int) (Y : Nat) (w : World) : Calls Tryz.prog 49 #[tr1 Y, .int .i64 n] w fun e w' => e = .returned (.func (.func 63) #[] #[.pointer (some ⟨w.heap.size + 1, 0, none⟩), .pointer (some ⟨w.heap.size, 0, none⟩)]) ∧ w' = (w.alloc (.cells #[.slice (some ⟨Y, 0, none⟩) 4 4] 73)).alloc (.cells #[.int .i64 n] 3) := by
  unfold tr1
  go_enter Tryz.func49, Tryz.ntmps49
  go_wp2
  go_ret
  exact ⟨rfl, rfl⟩
/-- What a round of the loop keeps. -/
def KpB (n1 b : Nat) (W W' : World) : Prop := ∀ k o, k < n1 → k ≠ b → W.heap[k]? = some o → (∀ c fz, o ≠ .cells c 5 fz) → W'.heap[k]? = some o
theorem KpB.t {n1 b : Nat} {A B C : World} (h : KpB n1 b A B) (k : KpB n1 b B C) : KpB n1 b A C := fun i o hi hb ho hc => k i o hi hb (h i o hi hb ho hc) hc
def encB (x : Bool) : Array Value := match x with
  | false => #[.int .i64 2, .agg #[.int .i64 2, .string xS, .string oS, .int .i64 1]]
  | true => #[.int .i64 3, .agg #[.int .i64 3, .string eS, .string wS, .int .i64 1]]
theorem grown_of_below {W W' : World} (h : Below W.heap.size W W') : W.grownBy W' none := ⟨h.os, h.tape, h.output, h.size, fun k hk _ => h.block k hk⟩
/-- What the iterator reads. -/
structure BL (W : World) (nb tb Y : Nat) : Prop where
  n : W.heap[nb]? = some (.cells #[.int .i64 1] 3 (0, 0))
  t : W.heap[tb]? = some (.cells #[.slice (some ⟨Y, 0, none⟩) 4 4] 73 (0, 0))
  y : W.heap[Y]? = some (.cells ndC 70 (0, 0))
theorem BL.go {W W' : World} {nb tb Y : Nat} (h : BL W nb tb Y) (hb : Below W.heap.size W W') : BL W' nb tb Y := ⟨(hb.block _ (lt_heap h.n)).trans h.n, (hb.block _ (lt_heap h.t)).trans h.t, (hb.block _ (lt_heap h.y)).trans h.y⟩
theorem nu1 : ∀ (c : Array Value) (fz : Nat × Nat) (cs : Array Value), Obj.cells cs 3 (0, 0) ≠ Obj.cells c 5 fz := fun c fz cs h => by injection h with _ h2 _; exact absurd h2 (by decide)
theorem nu2 : ∀ (c : Array Value) (fz : Nat × Nat) (cs : Array Value), Obj.cells cs 73 (0, 0) ≠ Obj.cells c 5 fz := fun c fz cs h => by injection h with _ h2 _; exact absurd h2 (by decide)
theorem nu3 : ∀ (c : Array Value) (fz : Nat × Nat) (cs : Array Value), Obj.cells cs 70 (0, 0) ≠ Obj.cells c 5 fz := fun c fz cs h => by injection h with _ h2 _; exact absurd h2 (by decide)
theorem BL.kp {n1 b nb tb Y : Nat} {W W' : World} (h : BL W nb tb Y) (hk : KpB n1 b W W') (hlt : nb < n1 ∧ tb < n1 ∧ Y < n1) (hne : nb ≠ b ∧ tb ≠ b ∧ Y ≠ b) : BL W' nb tb Y :=
  ⟨hk _ _ hlt.1 hne.1 h.n (fun c fz => nu1 c fz _), hk _ _ hlt.2.1 hne.2.1 h.t (fun c fz => nu2 c fz _), hk _ _ hlt.2.2 hne.2.2 h.y (fun c fz => nu3 c fz _)⟩
set_option maxRecDepth 100000 in
set_option maxHeartbeats 2000000 in
theorem below1_stops (n1 b nb tb Y : Nat) (w0 : World) (hnb : w0.heap[nb]? = some (.cells #[.int .i64 1] 3 (0, 0))) (htb : w0.heap[tb]? = some (.cells #[.slice (some ⟨Y, 0, none⟩) 4 4] 73 (0, 0)))
    (hy : w0.heap[Y]? = some (.cells ndC 70 (0, 0))) (hlt : nb < n1 ∧ tb < n1 ∧ Y < n1) (hne : nb ≠ b ∧ tb ≠ b ∧ Y ≠ b) :
    SeqStopsK Fence.wide 8 Tryz.prog 63 #[.pointer (some ⟨nb, 0, none⟩), .pointer (some ⟨tb, 0, none⟩)] encB (KpB n1 b) (fun xs => xs = [false, true]) (fun pre => pre = [false] ∨ pre = [false, true]) 2 w0 := fun l J Jx W hW hJ hJx hY h0 => by
  have HL0 := Lib.hid (show BL W nb tb Y from ⟨(hW.block nb (lt_heap hnb)).trans hnb, (hW.block tb (lt_heap htb)).trans htb, (hW.block Y (lt_heap hy)).trans hy⟩)
  have c0 := cell_of_row W nb 0 _ _ _ HL0.out.n
  clear hnb htb hy
  refine callsIn_of_wp Tryz.func63 rfl trivial ?_ rfl
  simp only [Tryz.ntmps63, List.size_toArray, List.length_cons, List.length_nil, Nat.reduceAdd, Nat.reduceSub, Array.replicate_succ, Array.replicate_zero, List.push_toArray, List.append_toArray, List.nil_append, List.cons_append]
  gi_wp2
  gi_loopw [4] (fun v wr => ∃ (k : Int) (pre : List Bool), v = .int .i64 k ∧ ((k = 2 ∧ pre = []) ∨ (k = 3 ∧ pre = [false]) ∨ (k = 4 ∧ pre = [false, true])) ∧ Hid (J pre wr ∧ BL wr nb tb Y)) (fun v _ => 4 - (intOf v).toNat)
  case atStart => exact ⟨2, [], rfl, .inl ⟨rfl, rfl⟩, Lib.hid ⟨h0, HL0.out⟩⟩
  case round =>
    obtain ⟨k, pre, rfl, hk, HJ⟩ := hrel
    have c1 := cell_of_row wr tb 0 _ _ _ HJ.out.2.t
    have c2 := cell_of_row wr nb 0 _ _ _ HJ.out.2.n
    rcases hk with ⟨rfl, rfl⟩ | ⟨rfl, rfl⟩ | ⟨rfl, rfl⟩
    · gi_wp2_with fail
      refine ⟨trivial, ?_⟩
      refine (callsIn_wide.2 (above_ex 1 2 Y wr (by omega) HJ.out.2.y)).mono ?_
      rintro e w1 ⟨rfl, hb1⟩
      have HL1 := Lib.hid (HJ.out.2.go hb1)
      have HJ1 := Lib.hid (hJ [] wr w1 none HJ.out.1 (grown_of_below hb1) (fun r e => by cases e))
      have d1 := cell_of_row w1 tb 0 _ _ _ HL1.out.t
      have n8 : w1.cell? ⟨Y, 8, none⟩ = some (.int .i64 2) := nd_cell HL1.out.y
      have n9 : w1.cell? ⟨Y, 9, none⟩ = some (.string xS) := nd_cell HL1.out.y
      have n10 : w1.cell? ⟨Y, 10, none⟩ = some (.string oS) := nd_cell HL1.out.y
      have n11 : w1.cell? ⟨Y, 11, none⟩ = some (.int .i64 1) := nd_cell HL1.out.y
      obtain ⟨fn, tmps, assign, body, hy2, hR⟩ := hY [] false w1 HJ1.out (by simp)
      dsimp only [encB] at hy2
      gi_wp2
      refine hR.mono ?_
      rintro e W3 (⟨rfl, hJ3, hk3⟩ | ⟨rfl, hx3⟩)
      · have HL3 := Lib.hid (HL1.out.kp hk3 hlt hne)
        gi_wp2
        go_roundw
        case rel => exact ⟨3, [false], rfl, .inr (.inl ⟨rfl, rfl⟩), Lib.hid ⟨hJ3, HL3.out⟩⟩
        case measure => simp [intOf]
      · gi_wp2
        refine bodyPost_ret (results_none rfl _ _ _) rfl ?_
        exact ⟨⟨_, rfl⟩, .inr ⟨_, .inl rfl, hx3⟩⟩
    · gi_wp2_with fail
      refine ⟨trivial, ?_⟩
      refine (callsIn_wide.2 (above_ex 1 3 Y wr (by omega) HJ.out.2.y)).mono ?_
      rintro e w1 ⟨rfl, hb1⟩
      have HL1 := Lib.hid (HJ.out.2.go hb1)
      have HJ1 := Lib.hid (hJ [false] wr w1 none HJ.out.1 (grown_of_below hb1) (fun r e => by cases e))
      have d1 := cell_of_row w1 tb 0 _ _ _ HL1.out.t
      have n8 : w1.cell? ⟨Y, 12, none⟩ = some (.int .i64 3) := nd_cell HL1.out.y
      have n9 : w1.cell? ⟨Y, 13, none⟩ = some (.string eS) := nd_cell HL1.out.y
      have n10 : w1.cell? ⟨Y, 14, none⟩ = some (.string wS) := nd_cell HL1.out.y
      have n11 : w1.cell? ⟨Y, 15, none⟩ = some (.int .i64 1) := nd_cell HL1.out.y
      obtain ⟨fn, tmps, assign, body, hy2, hR⟩ := hY [false] true w1 HJ1.out (by simp)
      dsimp only [encB] at hy2
      gi_wp2
      refine hR.mono ?_
      rintro e W3 (⟨rfl, hJ3, hk3⟩ | ⟨rfl, hx3⟩)
      · have HL3 := Lib.hid (HL1.out.kp hk3 hlt hne)
        gi_wp2
        go_roundw
        case rel => exact ⟨4, [false, true], rfl, .inr (.inr ⟨rfl, rfl⟩), Lib.hid ⟨hJ3, HL3.out⟩⟩
        case measure => simp [intOf]
      · gi_wp2
        refine bodyPost_ret (results_none rfl _ _ _) rfl ?_
        exact ⟨⟨_, rfl⟩, .inr ⟨_, .inr rfl, hx3⟩⟩
    · gi_wp2
      refine ⟨trivial, ?_⟩
      gi_wp2
      go_end0
      exact ⟨⟨_, rfl⟩, .inl ⟨_, rfl, HJ.out.1⟩⟩
end Go.Proofs.YtajkdllakleakaaGreatDoor
/- package tree: the text of the example's element and attribute. -/
namespace Go.Proofs.YtajkdllakleakaaGreatDoor
open Go.RowKit Go.Shelf
set_option linter.unusedVariables false
set_option linter.unusedSimpArgs false
attribute [local go_sem] Oper.semAt_some

def accB : List Bool → List UInt8
  | [] => []
  | false :: r => accB r
  | true :: r => 50 :: accB r
theorem accB_app (a b : List Bool) : accB (a ++ b) = accB a ++ accB b := by
  induction a with
  | nil => rfl
  | cons x r ih => cases x <;> simp [accB, ih]
theorem accB_len (a : List Bool) : (accB a).length ≤ a.length := by
  induction a with
  | nil => simp [accB]
  | cons x r ih => cases x <;> simp [accB] <;> omega
theorem bldAt_own {T e : TypeId} {B b : Nat} {p : Value} {bs : List Value} {w w' : World} {row : Option Nat} (h : Lib.BuilderAtF T e B b p bs w) (hg : w.grownBy w' row) (hr : ∀ r, row = some r → ∃ o : Obj, w.heap[r]? = some o ∧ o.isCells = false) : Lib.BuilderAtF T e B b p bs w' := by
  obtain ⟨hB, v, hb, hown, hne⟩ := h
  have hnb : ∀ {k : Nat} {cs : Array Value} {t : TypeId} {fz : Nat × Nat}, w.heap[k]? = some (.cells cs t fz) → some k ≠ row := fun hk e => by
    obtain ⟨o, ho, hc⟩ := hr _ e.symm
    rw [hk] at ho
    cases ho
    cases hc
  refine ⟨hB, v, (hg.block b (lt_heap hb) (hnb hb)).trans hb, hown.kept hg ?_, hne⟩
  have h3 := hown.2
  rcases h3 with ⟨rfl, _⟩ | ⟨g, cap, cur, fz, rfl, _, hc, _⟩
  · exact .inl rfl
  · exact .inr (hnb hc)
theorem bld_own {T e : TypeId} {B b : Nat} {bs : List Value} {w w' : World} {row : Option Nat} (h : Lib.IsBuilderF T e B b bs w) (hg : w.grownBy w' row) (hr : ∀ r, row = some r → ∃ o : Obj, w.heap[r]? = some o ∧ o.isCells = false) : Lib.IsBuilderF T e B b bs w' :=
  h.elim (fun x => .inl (bldAt_own x hg hr)) (fun x => .inr (bldAt_own x hg hr))
def ndB (x : Bool) : Array Value := match x with
  | false => #[.int .i64 2, .string xS, .string oS, .int .i64 1]
  | true => #[.int .i64 3, .string eS, .string wS, .int .i64 1]
def frT (B0 bn bb tb nb Y Bx : Nat) (i : Int) (nd : Array Value) : Array Value := #[.agg #[.slice (some ⟨Y, 0, none⟩) 4 4], .int .i64 1, .pointer (some ⟨B0, 0, none⟩), undef, .string { data := #[] }, .pointer (some ⟨bn, 0, none⟩), .pointer (some ⟨bb, 0, none⟩), undef, .pointer (some ⟨Bx, 0, none⟩),
  .agg #[.slice (some ⟨Y, 0, none⟩) 4 4], .int .i64 1, .bool true, .bool false, .pointer (some ⟨B0, 0, none⟩), .slice (some ⟨Y, 0, none⟩) 4 4, .int .i64 1, .pointer (some ⟨Y, 4, none⟩), .agg #[.int .i64 1, .string aS, .string eS, .int .i64 0], .pointer (some ⟨bn, 0, none⟩), .int .i64 1, .bool true, .bool true, .pointer (some ⟨bn, 0, none⟩), .int .i64 1, .bool false, .bool false, undef, undef,
  .agg #[.slice (some ⟨Y, 0, none⟩) 4 4], .int .i64 1, .func (.func 63) #[] #[.pointer (some ⟨nb, 0, none⟩), .pointer (some ⟨tb, 0, none⟩)], .int .i64 i, .agg nd, undef, undef, undef, undef, undef, undef, undef]
def iB (x : Bool) : Int := match x with
  | false => 2
  | true => 3
/-- What the assignment of a round leaves. -/
def AxT (n1 B0 bn bb tb nb Y : Nat) (x : Bool) (a : Act) (W : World) : Prop := ∃ Bx, n1 ≤ Bx ∧ W.heap[Bx]? = some (.cells (ndB x) 70 (0, 0)) ∧ a = { tmps := frT B0 bn bb tb nb Y Bx (iB x) (ndB x), defers := [] }
theorem AxT.own (n1 B0 bn bb tb nb Y : Nat) (x : Bool) (a : Act) : OwnFrom n1 (fun (_ : Unit) W => AxT n1 B0 bn bb tb nb Y x a W) := fun s W W' row h hg hr => by
  obtain ⟨Bx, h1, h2, h3⟩ := h
  refine ⟨Bx, h1, (hg.block Bx (lt_heap h2) fun e => ?_).trans h2, h3⟩
  obtain ⟨_, o, ho, hc⟩ := hr _ e.symm
  rw [h2] at ho
  cases ho
  cases hc
/-- What the builder holds between two rounds. -/
def IT (w1 : World) (n1 bb : Nat) (pre : List Bool) (W : World) : Prop := Lib.IsBuilderF 109 5 bb bb (Lib.byteCells (accB pre)) W ∧ Below w1.heap.size w1 W ∧ n1 ≤ W.heap.size
theorem IT.own (w1 : World) (n1 bb : Nat) (hn : w1.heap.size ≤ n1) : OwnFrom n1 (IT w1 n1 bb) := fun pre W W' row h hg hr => by
  obtain ⟨h1, h2, h3⟩ := h
  exact ⟨bld_own h1 hg (fun r e => (hr r e).2), h2.grown hg h2.size (fun k e => by have := (hr k e).1; omega), Nat.le_trans h3 hg.size⟩
theorem IT.alloc {w1 : World} {n1 bb : Nat} {pre : List Bool} {W : World} (h : IT w1 n1 bb pre W) (o : Obj) : IT w1 n1 bb pre (W.alloc o) := by
  obtain ⟨h1, h2, h3⟩ := h
  exact ⟨bld_own h1 (World.grownBy_alloc W o none) (fun r e => by cases e), h2.alloc h2.size _, by simp; omega⟩
theorem KpB.refl (n1 b : Nat) (W : World) : KpB n1 b W W := fun k o _ _ h _ => h
theorem KpB.alloc (n1 b : Nat) (W : World) (o : Obj) : KpB n1 b W (W.alloc o) := fun k x _ _ h _ => hp_past h
theorem KpB.b {n1 b : Nat} {w : World} (hn : n1 ≤ w.heap.size) (W : World) (l : Nat) (o o' : Obj) (hl : w.heap.size ≤ l) (_ : W.heap[l]? = some o) (_ : o.isCells = false) (_ : o.isWalk = false) : KpB n1 b W (W.putObj l o') := fun k x hk _ h _ => (World.putObj_heap_other (by omega)).trans h
theorem KpB.kept {n1 b : Nat} {W W' : World} (h : Lib.OthersKept 5 (some b) W W') : KpB n1 b W W' := fun k o _ hne ho hc => h k o ho (fun e => hne (by cases e; rfl)) hc
theorem keepsF {n1 b : Nat} {W W' : World} (hb : b < n1) (hs : W.heap.size ≤ W'.heap.size) (h : Lib.OthersKept 5 (some b) W W') : KeepsFrom n1 W W' :=
  ⟨hs, fun k o hk ho hc => h k o ho (fun e => by cases e; omega) (fun c fz e => by subst e; cases hc)⟩
theorem bytes_app (a b : List UInt8) : Lib.byteCells (a ++ b) = Lib.byteCells a ++ Lib.byteCells b := by simp [Lib.byteCells]
set_option maxRecDepth 100000 in
set_option maxHeartbeats 2000000 in
theorem text1_in (Y : Nat) (w : World) (hy : w.heap[Y]? = some (.cells ndC 70 (0, 0))) :
    CallsIn Fence.wide 9 Tryz.prog 27 #[tr1 Y, .int .i64 1] w fun e W' => e = .returned (.string ⟨#[50]⟩) ∧ Below w.heap.size w W' := by
  refine callsIn_of_wp_marks Tryz.func27 rfl trivial ?_ rfl
  simp only [Tryz.ntmps27, List.size_toArray, List.length_cons, List.length_nil, Nat.reduceAdd, Nat.reduceSub, Array.replicate_succ, Array.replicate_zero, List.push_toArray, List.append_toArray, List.nil_append, List.cons_append]
  have HY := Lib.hid hy
  have hyl := lt_heap hy
  clear hy
  unfold tr1
  gi_wp2_with fail
  refine ⟨trivial, ?_⟩
  refine (callsIn_wide.2 (in_ex 1 (.inl rfl) Y _ (hp_past HY.out))).mono ?_
  rintro e w1 ⟨rfl, hb1⟩
  have HB1 := Lib.hid ((box1 w _ _).trans (hb1.mono (by simp)))
  have HY1 := Lib.hid ((HB1.out.block Y hyl).trans HY.out)
  have HX1 := Lib.hid ((hb1.block w.heap.size (by simp)).trans (hp_new (w := w) (o := .cells #[.slice (some ⟨Y, 0, none⟩) 4 4] 73) rfl))
  have hlt1 : w.heap.size < w1.heap.size := lt_heap HX1.out
  clear hb1
  have c0 := cell_of_row w1 w.heap.size 0 _ _ _ HX1.out
  have n4 : w1.cell? ⟨Y, 4, none⟩ = some (.int .i64 1) := nd_cell HY1.out
  have n5 : w1.cell? ⟨Y, 5, none⟩ = some (.string aS) := nd_cell HY1.out
  have n6 : w1.cell? ⟨Y, 6, none⟩ = some (.string eS) := nd_cell HY1.out
  have n7 : w1.cell? ⟨Y, 7, none⟩ = some (.int .i64 0) := nd_cell HY1.out
  gi_wp2_with fail
  refine ⟨trivial, ?_⟩
  refine (callsIn_wide.2 (below_ex 1 Y _)).mono ?_
  rintro e w2 ⟨rfl, rfl⟩
  clear c0 n4 n5 n6 n7
  have HFB := Lib.hid ((((Lib.IsBuilderF.of (Lib.fresh_isBuilder 109 5 (w1.alloc (.cells #[.int .i64 1, .string aS, .string eS, .int .i64 0] 70)))).alloc (.cells #[.slice (some ⟨Y, 0, none⟩) 4 4] 73)).alloc (.cells #[.int .i64 1] 3)))
  gi_wp2_with fail
  obtain ⟨W5, hW5⟩ : ∃ W5, (((w1.alloc (.cells #[.int .i64 1, .string aS, .string eS, .int .i64 0] 70)).alloc (.cells #[.pointer none, .slice none 0 0] 109)).alloc (.cells #[.slice (some ⟨Y, 0, none⟩) 4 4] 73)).alloc (.cells #[.int .i64 1] 3) = W5 := ⟨_, rfl⟩
  have h0 : IT w1 (w1.heap.size + 4) (w1.heap.size + 1) [] W5 := by
    refine ⟨?_, ?_, ?_⟩
    · have := HFB.out
      rw [World.size_alloc] at this
      rw [← hW5]
      exact this
    · rw [← hW5]
      exact ((((Below.refl _ w1).alloc (Nat.le_refl _) _).alloc (by simp) _).alloc (by simp <;> omega) _).alloc (by simp <;> omega) _
    · rw [← hW5]; simp
  have hsz : W5.heap.size = w1.heap.size + 4 := by rw [← hW5]; simp
  have e5 : W5.heap[w1.heap.size + 1 + 1 + 1]? = some (.cells #[.int .i64 1] 3 (0, 0)) := hW5 ▸ hp_new (by simp)
  have e4 : W5.heap[w1.heap.size + 1 + 1]? = some (.cells #[.slice (some ⟨Y, 0, none⟩) 4 4] 73 (0, 0)) := hW5 ▸ hp_past (hp_new (by simp))
  have e3 : W5.heap[Y]? = some (.cells ndC 70 (0, 0)) := hW5 ▸ hp_past (hp_past (hp_past (hp_past HY1.out)))
  have hYl : Y < w1.heap.size := lt_heap HY1.out
  rw [hW5]
  clear hW5 HFB HX1
  have hAs : ∀ (l : Nat) (pre : List Bool) (x : Bool), encB x = #[.int .i64 (iB x), .agg (ndB x)] := fun _ _ x => by cases x <;> rfl
  refine wpIn_rangeFunc_ownH rfl (by omega) (gf := 63) (lb := #[.pointer (some ⟨w1.heap.size + 1 + 1 + 1, 0, none⟩), .pointer (some ⟨w1.heap.size + 1 + 1, 0, none⟩)]) rfl trivial (enters_of Tryz.func63 (by kernel_rfl) rfl)
    (below1_stops (w1.heap.size + 4) (w1.heap.size + 1) _ _ Y W5 e5 e4 e3 (by omega) (by omega)) KpB.t (KpB.b (by omega)) (Below.refl _ _) (fun x => by cases x <;> rfl)
    (IT w1 (w1.heap.size + 4) (w1.heap.size + 1)) (fun _ _ _ => False) (by rw [hsz]; exact IT.own w1 _ _ (by omega)) (fun c _ _ _ _ h _ _ => h) h0
    (AxT (w1.heap.size + 4) w.heap.size w1.heap.size (w1.heap.size + 1) (w1.heap.size + 1 + 1) (w1.heap.size + 1 + 1 + 1) Y) (fun x a => by rw [hsz]; exact AxT.own _ _ _ _ _ _ _ x a) ?assign ?body ?done ?stop
  case assign =>
    intro l pre x W K hI hK
    cases x
    all_goals
      dsimp only [encB]
      gi_wp2
      exact hK _ _ ((KeepsOthers.alloc _ _).from _) (KpB.alloc _ _ _ _) (hI.alloc _) ⟨W.heap.size, hI.2.2, hp_new rfl, rfl⟩
  case body =>
    rintro l pre x a' W hl ⟨r, hr⟩ hI ⟨Bx, hBx, hX, rfl⟩ hlen
    cases x
    · obtain ⟨m0, m1, m2, m3⟩ := cells4 (show W.heap[Bx]? = some (.cells #[.int .i64 2, .string xS, .string oS, .int .i64 1] 70 (0, 0)) from hX)
      unfold frT iB ndB
      gi_wp2
      exact ⟨KeepsFrom.refl _ _, KpB.refl _ _ _, by simpa [accB_app, accB] using hI.1, hI.2⟩
    · obtain ⟨m0, m1, m2, m3⟩ := cells4 (show W.heap[Bx]? = some (.cells #[.int .i64 3, .string eS, .string wS, .int .i64 1] 70 (0, 0)) from hX)
      have hbl : (Lib.byteCells (accB pre)).length + wS.size ≤ 140737488355328 := by
        have h1 := accB_len pre
        have h2 : (Lib.byteCells (accB pre)).length = (accB pre).length := by simp [Lib.byteCells]
        have h3 : wS.size = 1 := rfl
        omega
      unfold frT iB ndB
      gi_wp2_with fail
      refine ⟨trivial, ?_⟩
      refine (CallsIn.inRound l (callsIn_wide.2 (writeString_k (w1.heap.size + 1) (w1.heap.size + 1) _ wS W hI.1 hbl (by have := hI.2.2; omega)))).mono ?_
      rintro e w3 ⟨rfl, hA, hb, hk⟩
      gi_wp2
      have hs3 := hb.size
      refine ⟨keepsF (by omega) hs3 hk, KpB.kept hk, ?_, hI.2.1.trans (hb.mono (by omega)), by have := hI.2.2; omega⟩
      have e2 : Lib.byteCells (accB (pre ++ [true])) = Lib.byteCells (accB pre) ++ Lib.strCells wS := by
        rw [accB_app, bytes_app]; rfl
      rw [e2]
      exact .inr hA
  case done =>
    rintro D xs W hD rfl hI hK
    gi_wp2_with fail
    refine ⟨trivial, ?_⟩
    refine (callsIn_wide.2 (Tryz.Builder_String_any_k (w1.heap.size + 1) (w1.heap.size + 1) _ W hI.1 (by have := hI.2.2; omega))).mono ?_
    rintro e w3 ⟨rfl, hB3, hb, hk⟩
    have hK3 := hk D _ hK (fun e => by cases e; omega) (fun c fz e => by cases e)
    gi_wp2
    refine ⟨by simp, .inl ⟨_, _, rfl, run_takeDeferred hK3, ?_⟩⟩
    refine ⟨_, results_tmp rfl _ _ _, rfl, ?_⟩
    have hs3 := hb.size
    exact ((HB1.out.trans (hI.2.1.mono HB1.out.size)).trans (hb.mono (by omega))).trans (belowK_b (w := w) (Nat.le_refl _) w3 D _ _ (by have := HB1.out.size; omega) hK3 rfl rfl)
  case stop =>
    rintro D c pre W hD _ h _
    exact h.elim
/-- What the text of a node is. -/
def TextP (s : ByteArray) (w : World) (e : Ending) (w' : World) : Prop := e = .returned (.string s) ∧ Below w.heap.size w w'
theorem text1 (Y : Nat) (w : World) (hy : w.heap[Y]? = some (.cells ndC 70 (0, 0))) : Calls Tryz.prog 27 #[tr1 Y, .int .i64 1] w (TextP wS w) :=
  callsIn_wide.1 (text1_in Y w hy)
set_option maxRecDepth 100000 in
theorem text2 (Y : Nat) (w : World) (hy : w.heap[Y]? = some (.cells ndC 70 (0, 0))) : Calls Tryz.prog 27 #[tr1 Y, .int .i64 2] w (TextP oS w) := by
  have HY := Lib.hid hy
  have hyl := lt_heap hy
  clear hy
  unfold tr1
  go_enter Tryz.func27, Tryz.ntmps27
  go_wp2_with fail
  refine (in_ex 2 (.inr rfl) Y _ (hp_past HY.out)).mono ?_
  rintro e w1 ⟨rfl, hb1⟩
  have HB1 := Lib.hid ((box1 w _ _).trans (hb1.mono (by simp)))
  have HY1 := Lib.hid ((HB1.out.block Y hyl).trans HY.out)
  have HX1 := Lib.hid ((hb1.block w.heap.size (by simp)).trans (hp_new (w := w) (o := .cells #[.slice (some ⟨Y, 0, none⟩) 4 4] 73) rfl))
  clear hb1
  have c0 := cell_of_row w1 w.heap.size 0 _ _ _ HX1.out
  have n4 : w1.cell? ⟨Y, 8, none⟩ = some (.int .i64 2) := nd_cell HY1.out
  have n5 : w1.cell? ⟨Y, 9, none⟩ = some (.string xS) := nd_cell HY1.out
  have n6 : w1.cell? ⟨Y, 10, none⟩ = some (.string oS) := nd_cell HY1.out
  have n7 : w1.cell? ⟨Y, 11, none⟩ = some (.int .i64 1) := nd_cell HY1.out
  go_wp2
  go_ret
  exact ⟨rfl, HB1.out.alloc HB1.out.size _⟩
end Go.Proofs.YtajkdllakleakaaGreatDoor
