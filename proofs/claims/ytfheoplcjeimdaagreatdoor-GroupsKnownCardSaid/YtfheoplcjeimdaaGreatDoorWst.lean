/- The test of chisellaw30.works: each of its operations. -/
import Derived.Test.YtfheoplcjeimdaaGreatDoorWrt
namespace Go.Proofs.YtfheoplcjeimdaaGreatDoor
open Go.RowKit
set_option linter.unusedVariables false
set_option linter.unusedSimpArgs false

def reg4 : Code → Option (Array Oper)
  | .seq a b => (reg4 a).orElse fun _ => reg4 b
  | .region 4 ops true => some ops
  | .block _ b => reg4 b
  | .scope b => reg4 b
  | _ => none
@[irreducible] noncomputable def wkOps : Array Oper := (reg4 (Tryz.f12.body.getD .skip)).getD #[]
@[irreducible] noncomputable def wkO (i : Nat) : Oper := wkOps.getD i default
theorem wkOps_size : wkOps.size = 52 := by kernel_rfl
def rhoL (l : List (Nat × Value)) : Operand → Value
  | .tmp k => (l.lookup k).getD undef
  | .const c => c
  | _ => undef
def rho2 (t : Nat) (u v : Value) : Operand → Value
  | .tmp k => if k = t then u else v
  | .const c => c
  | _ => undef

section
variable {v1 v2 : Value} {Au : Option Addr} {cu bm : Nat} {w0 : World} {ops : Array Oper} {Q : Exit → Act → World → Prop} {P : Program}
theorem ow_call {o : Oper} {a : Act} {w w' : World} {K : Act → World → Prop} {f : FuncId} {args : Array Value} (hr : (execOp a.eval o).run P w = .ok (.enter f args) w')
    (h : Calls P f args w' fun e w'' => ∃ v, e = .returned v ∧ K (a.put o.dst v) w'') : Oper.wp P o a w K Q := by
  unfold Oper.wp; rw [hr, Oper.upon_enter]
  refine h.mono ?_
  rintro e w'' ⟨v, rfl, hk⟩; exact hk
theorem sg_same {i x y : Nat} {o : Oper} {gs : List (List Int)} (hr : ∀ (a : Act) (w : World), (execOp a.eval o).run Tryz.prog w = .ok (.enter 16 #[a.tmps.getD (wkD x) undef, a.tmps.getD (wkD y) undef]) w) (hx : x < 52) (hy : y < 52) (kx : wkK x = .ii gs) (ky : wkK y = .ii gs) (ki : wkK i = .t)
    (hn : gs.length ≤ 1000000) (hna : ∀ x, x ∈ gs → x.length ≤ 1000000) (dx : (o.after.any fun e => e.on == x && Region.binds .any e) = true) (dy : (o.after.any fun e => e.on == y && Region.binds .any e) = true) (hg : GOK ops o) : WOK v1 v2 Au cu bm w0 ops Q i o := by
  intro l a w h hl K hK
  refine ⟨gok h hl hg, ow_call (hr a w) ((same_any gs gs _ _ w (gets h hl x _ hx kx dx) (gets h hl y _ hy ky dy) hn (fun j => ?_)).mono ?_)⟩
  · by_cases hj : j < gs.length
    · rw [List.getD_eq_getElem?_getD, List.getElem?_eq_getElem hj]; exact hna _ (List.getElem_mem hj)
    · rw [List.getD_eq_getElem?_getD, List.getElem?_eq_none (by omega)]; simp
  · rintro e w' ⟨rfl, hb⟩
    exact ⟨_, rfl, hK _ _ hb (by unfold wkΦ; rw [ki]; simp [WK.holds])⟩
theorem st_word {i : Nat} {o : Oper} {s : ByteArray} (hr : ∀ (a : Act) (w : World), (execOp a.eval o).run Tryz.prog w = .ok (.enter 26 #[.string s]) w) (ki : wkK i = .ag s) (hg : GOK ops o) : WOK v1 v2 Au cu bm w0 ops Q i o := by
  intro l a w h hl K hK
  refine ⟨gok h hl hg, ow_call (hr a w) ((word_any s w).mono ?_)⟩
  rintro e w' ⟨rfl, rfl⟩
  exact ⟨_, rfl, hK _ _ ((Below.refl _ _).alloc (Nat.le_refl _) _) (by unfold wkΦ; rw [ki]; rfl)⟩
theorem gr3 : grp (fun j => mks.getD j false) 5 = g3 := by decide +kernel
theorem gr4 : grp (fun j => decide (0 < j) && mks.getD (j - 1) false) 5 = g4 := by decide +kernel
theorem st_start {i x : Nat} {o : Oper} (hr : ∀ (a : Act) (w : World), (execOp a.eval o).run Tryz.prog w = .ok (.enter 19 #[a.tmps.getD (wkD x) undef]) w) (hx : x < 52) (kx : wkK x = .bl mks) (ki : wkK i = .ii g3) (dx : (o.after.any fun e => e.on == x && Region.binds .any e) = true) (hg : GOK ops o) : WOK v1 v2 Au cu bm w0 ops Q i o := by
  intro l a w h hl K hK
  obtain ⟨A, c, e1, e2⟩ := gets h hl x _ hx kx dx
  refine ⟨gok h hl hg, ow_call (hr a w) ?_⟩
  rw [e1]
  refine (starting_any mks A 5 c w e2 (by omega)).mono ?_
  rintro e w' ⟨v, rfl, hv, hb⟩
  rw [gr3] at hv
  exact ⟨_, rfl, hK _ _ hb (by unfold wkΦ; rw [ki]; exact hv)⟩
theorem st_end {i x : Nat} {o : Oper} (hr : ∀ (a : Act) (w : World), (execOp a.eval o).run Tryz.prog w = .ok (.enter 21 #[a.tmps.getD (wkD x) undef]) w) (hx : x < 52) (kx : wkK x = .bl mks) (ki : wkK i = .ii g4) (dx : (o.after.any fun e => e.on == x && Region.binds .any e) = true) (hg : GOK ops o) : WOK v1 v2 Au cu bm w0 ops Q i o := by
  intro l a w h hl K hK
  obtain ⟨A, c, e1, e2⟩ := gets h hl x _ hx kx dx
  refine ⟨gok h hl hg, ow_call (hr a w) ?_⟩
  rw [e1]
  refine (ending_any mks A 5 c w e2 (by omega)).mono ?_
  rintro e w' ⟨v, rfl, hv, hb⟩
  rw [gr4] at hv
  exact ⟨_, rfl, hK _ _ hb (by unfold wkΦ; rw [ki]; exact hv)⟩
theorem st_len {i x : Nat} {o : Oper} (hr : ∀ (a : Act) (w : World), (execOp a.eval o).run Tryz.prog w = (execOp (rho2 0 undef (a.tmps.getD (wkD x) undef)) o).run Tryz.prog w)
    (hv : ∀ (A : Option Addr) (c : Nat) (w : World), (execOp (rho2 0 undef (.slice A 2 c)) o).run Tryz.prog w = .ok (.value (.int .i64 2)) w) (hx : x < 52) (kx : wkK x = .at_) (ki : wkK i = .n2) (dx : (o.after.any fun e => e.on == x && Region.binds .any e) = true) (hg : GOK ops o) : WOK v1 v2 Au cu bm w0 ops Q i o := by
  intro l a w h hl K hK
  obtain ⟨A, c, e1, e2⟩ := gets h hl x _ hx kx dx
  refine ⟨gok h hl hg, ow_value (v := .int .i64 2) (w' := w) ?_ (hK _ _ (Below.refl _ _) (by unfold wkΦ; rw [ki]; rfl))⟩
  rw [hr, e1, hv]
theorem st_eql2 {i x : Nat} {o : Oper} (hr : ∀ (a : Act) (w : World), (execOp a.eval o).run Tryz.prog w = (execOp (rho2 0 undef (a.tmps.getD (wkD x) undef)) o).run Tryz.prog w)
    (hv : ∀ (w : World), (execOp (rho2 0 undef (.int .i64 2)) o).run Tryz.prog w = .ok (.value (.bool true)) w) (hx : x < 52) (kx : wkK x = .n2) (ki : wkK i = .t) (dx : (o.after.any fun e => e.on == x && Region.binds .any e) = true) (hg : GOK ops o) : WOK v1 v2 Au cu bm w0 ops Q i o := by
  intro l a w h hl K hK
  have e1 : a.tmps.getD (wkD x) undef = .int .i64 2 := gets h hl x _ hx kx dx
  refine ⟨gok h hl hg, ow_value (v := .bool true) (w' := w) ?_ (hK _ _ (Below.refl _ _) (by unfold wkΦ; rw [ki]; rfl))⟩
  rw [hr, e1, hv]
theorem st_eqa {i x y : Nat} {o : Oper} {s : ByteArray} (hr : ∀ (a : Act) (w : World), (execOp a.eval o).run Tryz.prog w = (execOp (rho2 (wkD x) (a.tmps.getD (wkD x) undef) (a.tmps.getD (wkD y) undef)) o).run Tryz.prog w)
    (hv : ∀ (w : World), (execOp (rho2 (wkD x) (.agg #[.int .i64 1, .string s]) (.agg #[.int .i64 1, .string s])) o).run Tryz.prog w = .ok (.value (.bool true)) w) (hx : x < 52) (hy : y < 52) (kx : wkK x = .ag s) (ky : wkK y = .ag s) (ki : wkK i = .t) (dx : (o.after.any fun e => e.on == x && Region.binds .any e) = true) (dy : (o.after.any fun e => e.on == y && Region.binds .any e) = true) (hg : GOK ops o) : WOK v1 v2 Au cu bm w0 ops Q i o := by
  intro l a w h hl K hK
  have e1 : a.tmps.getD (wkD x) undef = .agg #[.int .i64 1, .string s] := gets h hl x _ hx kx dx
  have e2 : a.tmps.getD (wkD y) undef = .agg #[.int .i64 1, .string s] := gets h hl y _ hy ky dy
  refine ⟨gok h hl hg, ow_value (v := .bool true) (w' := w) ?_ (hK _ _ (Below.refl _ _) (by unfold wkΦ; rw [ki]; rfl))⟩
  rw [hr, e1, e2, hv]
theorem st_addr {i x k : Nat} {o : Oper} {s : ByteArray} (hr : ∀ (a : Act) (w : World), (execOp a.eval o).run Tryz.prog w = (execOp (rho2 0 undef (a.tmps.getD (wkD x) undef)) o).run Tryz.prog w)
    (hv : ∀ (b off c : Nat) (w : World), (execOp (rho2 0 undef (.slice (some ⟨b, off, none⟩) 2 c)) o).run Tryz.prog w = .ok (.value (.pointer (some ⟨b, off + k * 2, none⟩))) w) (hx : x < 52) (kx : wkK x = .at_) (ki : wkK i = .pt s) (dx : (o.after.any fun e => e.on == x && Region.binds .any e) = true) (hk : k < 2) (hs1 : (lAB.getD k (0, sa_)).1 = 1) (hs2 : (lAB.getD k (0, sa_)).2 = s) (hg : GOK ops o) : WOK v1 v2 Au cu bm w0 ops Q i o := by
  intro l a w h hl K hK
  obtain ⟨A, c, e1, e2⟩ := gets h hl x _ hx kx dx
  obtain ⟨b, off, rfl, hlt, hc⟩ := e2.2.2 (by omega)
  refine ⟨gok h hl hg, ow_value (v := .pointer (some ⟨b, off + k * 2, none⟩)) (w' := w) ?_ (hK _ _ (Below.refl _ _) ?_)⟩
  · rw [hr, e1, hv]
  · unfold wkΦ; rw [ki]
    have := hc k hk
    have hA : lAB.getD k atm0 = (1, s) := by
      have : k = 0 ∨ k = 1 := by omega
      rcases this with rfl | rfl
      · have e : sa_ = s := hs2
        rw [← e]; rfl
      · have e : sb_ = s := hs2
        rw [← e]; rfl
    rw [hA] at this
    exact ⟨b, _, rfl, hlt, this.1, this.2⟩
theorem st_load {i x : Nat} {o : Oper} {s : ByteArray} (ho : o.op = .load 38 (.tmp (wkD x))) (hx : x < 52) (kx : wkK x = .pt s) (ki : wkK i = .ag s) (dx : (o.after.any fun e => e.on == x && Region.binds .any e) = true) (hg : GOK ops o) : WOK v1 v2 Au cu bm w0 ops Q i o := by
  intro l a w h hl K hK
  obtain ⟨b, off, e1, hlt, h1, h2⟩ := gets h hl x _ hx kx dx
  refine ⟨gok h hl hg, ow_value (v := .agg #[.int .i64 1, .string s]) (w' := w) ?_ (hK _ _ (Below.refl _ _) (by unfold wkΦ; rw [ki]; rfl))⟩
  simp only [execOp, ho, Act.eval, e1]
  go_simp
theorem s0 (h : RdII w0 v1 g1) : WOK v1 v2 Au cu bm w0 wkOps Q 0 (wkO 0) :=
  st_keep (j := 1) (x := v1) (by kernel_rfl) (by simp [wkP]) (show (wkK 0).holds _ _ from h) (.inl (by kernel_rfl))
theorem s6 (h : RdAtoms w0 Au 2 lAB) : WOK v1 v2 Au cu bm w0 wkOps Q 6 (wkO 6) :=
  st_keep (j := 2) (x := .slice Au 2 cu) (by kernel_rfl) (by simp [wkP]) (show (wkK 6).holds _ _ from ⟨_, _, rfl, h⟩) (.inr ⟨5, by kernel_rfl, by omega, rfl, by kernel_rfl, by kernel_rfl⟩)
theorem s11 (h : RdAtoms w0 Au 2 lAB) : WOK v1 v2 Au cu bm w0 wkOps Q 11 (wkO 11) :=
  st_keep (j := 2) (x := .slice Au 2 cu) (by kernel_rfl) (by simp [wkP]) (show (wkK 11).holds _ _ from ⟨_, _, rfl, h⟩) (.inr ⟨10, by kernel_rfl, by omega, rfl, by kernel_rfl, by kernel_rfl⟩)
theorem s18 (h : RdAtoms w0 Au 2 lAB) : WOK v1 v2 Au cu bm w0 wkOps Q 18 (wkO 18) :=
  st_keep (j := 2) (x := .slice Au 2 cu) (by kernel_rfl) (by simp [wkP]) (show (wkK 18).holds _ _ from ⟨_, _, rfl, h⟩) (.inr ⟨17, by kernel_rfl, by omega, rfl, by kernel_rfl, by kernel_rfl⟩)
theorem s25 (h : RdII w0 v2 g2) : WOK v1 v2 Au cu bm w0 wkOps Q 25 (wkO 25) :=
  st_keep (j := 3) (x := v2) (by kernel_rfl) (by simp [wkP]) (show (wkK 25).holds _ _ from h) (.inr ⟨24, by kernel_rfl, by omega, rfl, by kernel_rfl, by kernel_rfl⟩)
theorem s34 (h : RdBools w0 (some ⟨bm, 0, none⟩) 5 mks) : WOK v1 v2 Au cu bm w0 wkOps Q 34 (wkO 34) :=
  st_keep (j := 4) (x := .slice (some ⟨bm, 0, none⟩) 5 5) (by kernel_rfl) (by simp [wkP]) (show (wkK 34).holds _ _ from ⟨_, _, rfl, h⟩) (.inr ⟨33, by kernel_rfl, by omega, rfl, by kernel_rfl, by kernel_rfl⟩)
theorem s43 (h : RdBools w0 (some ⟨bm, 0, none⟩) 5 mks) : WOK v1 v2 Au cu bm w0 wkOps Q 43 (wkO 43) :=
  st_keep (j := 4) (x := .slice (some ⟨bm, 0, none⟩) 5 5) (by kernel_rfl) (by simp [wkP]) (show (wkK 43).holds _ _ from ⟨_, _, rfl, h⟩) (.inr ⟨42, by kernel_rfl, by omega, rfl, by kernel_rfl, by kernel_rfl⟩)
theorem s5 : WOK v1 v2 Au cu bm w0 wkOps Q 5 (wkO 5) :=
  st_move (src := 4) (.inl (by kernel_rfl)) (by omega) rfl (by kernel_rfl) (.inl (by kernel_rfl))
theorem s10 : WOK v1 v2 Au cu bm w0 wkOps Q 10 (wkO 10) :=
  st_move (src := 9) (.inl (by kernel_rfl)) (by omega) rfl (by kernel_rfl) (.inl (by kernel_rfl))
theorem s17 : WOK v1 v2 Au cu bm w0 wkOps Q 17 (wkO 17) :=
  st_move (src := 16) (.inl (by kernel_rfl)) (by omega) rfl (by kernel_rfl) (.inl (by kernel_rfl))
theorem s24 : WOK v1 v2 Au cu bm w0 wkOps Q 24 (wkO 24) :=
  st_move (src := 23) (.inl (by kernel_rfl)) (by omega) rfl (by kernel_rfl) (.inl (by kernel_rfl))
theorem s33 : WOK v1 v2 Au cu bm w0 wkOps Q 33 (wkO 33) :=
  st_move (src := 32) (.inl (by kernel_rfl)) (by omega) rfl (by kernel_rfl) (.inl (by kernel_rfl))
theorem s42 : WOK v1 v2 Au cu bm w0 wkOps Q 42 (wkO 42) :=
  st_move (src := 41) (.inl (by kernel_rfl)) (by omega) rfl (by kernel_rfl) (.inl (by kernel_rfl))
theorem s51 : WOK v1 v2 Au cu bm w0 wkOps Q 51 (wkO 51) :=
  st_move (src := 50) (.inr (by kernel_rfl)) (by omega) rfl (by kernel_rfl) (.inl (by kernel_rfl))
theorem s9 : WOK v1 v2 Au cu bm w0 wkOps Q 9 (wkO 9) :=
  st_pick (c := 5) (y := 8) (z := .const (.bool false)) (by kernel_rfl) (by omega) (by omega) rfl rfl rfl (by kernel_rfl) (by kernel_rfl) (.inl (by kernel_rfl))
theorem s16 : WOK v1 v2 Au cu bm w0 wkOps Q 16 (wkO 16) :=
  st_pick (c := 10) (y := 15) (z := .const (.bool false)) (by kernel_rfl) (by omega) (by omega) rfl rfl rfl (by kernel_rfl) (by kernel_rfl) (.inl (by kernel_rfl))
theorem s23 : WOK v1 v2 Au cu bm w0 wkOps Q 23 (wkO 23) :=
  st_pick (c := 17) (y := 22) (z := .const (.bool false)) (by kernel_rfl) (by omega) (by omega) rfl rfl rfl (by kernel_rfl) (by kernel_rfl) (.inl (by kernel_rfl))
theorem s32 : WOK v1 v2 Au cu bm w0 wkOps Q 32 (wkO 32) :=
  st_pick (c := 24) (y := 31) (z := .const (.bool false)) (by kernel_rfl) (by omega) (by omega) rfl rfl rfl (by kernel_rfl) (by kernel_rfl) (.inl (by kernel_rfl))
theorem s41 : WOK v1 v2 Au cu bm w0 wkOps Q 41 (wkO 41) :=
  st_pick (c := 33) (y := 40) (z := .const (.bool false)) (by kernel_rfl) (by omega) (by omega) rfl rfl rfl (by kernel_rfl) (by kernel_rfl) (.inl (by kernel_rfl))
theorem s50 : WOK v1 v2 Au cu bm w0 wkOps Q 50 (wkO 50) :=
  st_pick (c := 42) (y := 49) (z := .const (.bool false)) (by kernel_rfl) (by omega) (by omega) rfl rfl rfl (by kernel_rfl) (by kernel_rfl) (.inl (by kernel_rfl))
theorem s1 : WOK v1 v2 Au cu bm w0 wkOps Q 1 (wkO 1) :=
  st_build (cs := #[.int .i64 0, .int .i64 1]) (xs := [0, 1]) (fun a w => by kernel_rfl) rfl rfl (.inl (by kernel_rfl))
theorem s2 : WOK v1 v2 Au cu bm w0 wkOps Q 2 (wkO 2) :=
  st_build (cs := #[.int .i64 1, .int .i64 3]) (xs := [1, 3]) (fun a w => by kernel_rfl) rfl rfl (.inl (by kernel_rfl))
theorem s26 : WOK v1 v2 Au cu bm w0 wkOps Q 26 (wkO 26) :=
  st_build (cs := #[.int .i64 0, .int .i64 1]) (xs := [0, 1]) (fun a w => by kernel_rfl) rfl rfl (.inr ⟨24, by kernel_rfl, by omega, rfl, by kernel_rfl, by kernel_rfl⟩)
theorem s27 : WOK v1 v2 Au cu bm w0 wkOps Q 27 (wkO 27) :=
  st_build (cs := #[.int .i64 2]) (xs := [2]) (fun a w => by kernel_rfl) rfl rfl (.inr ⟨24, by kernel_rfl, by omega, rfl, by kernel_rfl, by kernel_rfl⟩)
theorem s28 : WOK v1 v2 Au cu bm w0 wkOps Q 28 (wkO 28) :=
  st_build (cs := #[.int .i64 3]) (xs := [3]) (fun a w => by kernel_rfl) rfl rfl (.inr ⟨24, by kernel_rfl, by omega, rfl, by kernel_rfl, by kernel_rfl⟩)
theorem s29 : WOK v1 v2 Au cu bm w0 wkOps Q 29 (wkO 29) :=
  st_build (cs := #[.int .i64 4, .int .i64 5]) (xs := [4, 5]) (fun a w => by kernel_rfl) rfl rfl (.inr ⟨24, by kernel_rfl, by omega, rfl, by kernel_rfl, by kernel_rfl⟩)
theorem s36 : WOK v1 v2 Au cu bm w0 wkOps Q 36 (wkO 36) :=
  st_build (cs := #[.int .i64 0, .int .i64 1]) (xs := [0, 1]) (fun a w => by kernel_rfl) rfl rfl (.inr ⟨33, by kernel_rfl, by omega, rfl, by kernel_rfl, by kernel_rfl⟩)
theorem s37 : WOK v1 v2 Au cu bm w0 wkOps Q 37 (wkO 37) :=
  st_build (cs := #[.int .i64 2]) (xs := [2]) (fun a w => by kernel_rfl) rfl rfl (.inr ⟨33, by kernel_rfl, by omega, rfl, by kernel_rfl, by kernel_rfl⟩)
theorem s38 : WOK v1 v2 Au cu bm w0 wkOps Q 38 (wkO 38) :=
  st_build (cs := #[.int .i64 3, .int .i64 4]) (xs := [3, 4]) (fun a w => by kernel_rfl) rfl rfl (.inr ⟨33, by kernel_rfl, by omega, rfl, by kernel_rfl, by kernel_rfl⟩)
theorem s45 : WOK v1 v2 Au cu bm w0 wkOps Q 45 (wkO 45) :=
  st_build (cs := #[.int .i64 0, .int .i64 1, .int .i64 2]) (xs := [0, 1, 2]) (fun a w => by kernel_rfl) rfl rfl (.inr ⟨42, by kernel_rfl, by omega, rfl, by kernel_rfl, by kernel_rfl⟩)
theorem s46 : WOK v1 v2 Au cu bm w0 wkOps Q 46 (wkO 46) :=
  st_build (cs := #[.int .i64 3]) (xs := [3]) (fun a w => by kernel_rfl) rfl rfl (.inr ⟨42, by kernel_rfl, by omega, rfl, by kernel_rfl, by kernel_rfl⟩)
theorem s47 : WOK v1 v2 Au cu bm w0 wkOps Q 47 (wkO 47) :=
  st_build (cs := #[.int .i64 4]) (xs := [4]) (fun a w => by kernel_rfl) rfl rfl (.inr ⟨42, by kernel_rfl, by omega, rfl, by kernel_rfl, by kernel_rfl⟩)
theorem s3 : WOK v1 v2 Au cu bm w0 wkOps Q 3 (wkO 3) := by
  intro l a w h hl K hK
  obtain ⟨A0, c0, e0, r0⟩ := gets h hl 1 (.il [0, 1]) (by omega) rfl (by kernel_rfl)
  have e0 : a.tmps.getD 33 undef = .slice A0 2 c0 := e0
  obtain ⟨A1, c1, e1, r1⟩ := gets h hl 2 (.il [1, 3]) (by omega) rfl (by kernel_rfl)
  have e1 : a.tmps.getD 34 undef = .slice A1 2 c1 := e1
  have he : (execOp a.eval (wkO 3)).run Tryz.prog w = (execOp (rhoL [(33, a.tmps.getD 33 undef), (34, a.tmps.getD 34 undef)]) (wkO 3)).run Tryz.prog w := by kernel_rfl
  have hv : ∀ (A0 A1 : Option Addr) (c0 c1 : Nat) (w : World), (execOp (rhoL [(33, .slice A0 2 c0), (34, .slice A1 2 c1)]) (wkO 3)).run Tryz.prog w = .ok (.value (.slice (some ⟨w.heap.size, 0, none⟩) 2 2)) (w.alloc (.cells #[.slice A0 2 c0, .slice A1 2 c1] 35)) := fun A0 A1 c0 c1 w => by kernel_rfl
  rw [e0, e1, hv] at he
  refine ⟨gok h hl (.inl (by kernel_rfl)), ow_value he (hK _ _ ((Below.refl _ _).alloc (Nat.le_refl _) _) ?_)⟩
  show RdII _ _ g1
  exact rdII_lit g1 (heap_new rfl) fun j hj => match j, hj with | 0, _ => ⟨_, _, rfl, r0.below ((Below.refl _ _).alloc (Nat.le_refl _) _)⟩ | 1, _ => ⟨_, _, rfl, r1.below ((Below.refl _ _).alloc (Nat.le_refl _) _)⟩
theorem s30 : WOK v1 v2 Au cu bm w0 wkOps Q 30 (wkO 30) := by
  intro l a w h hl K hK
  obtain ⟨A0, c0, e0, r0⟩ := gets h hl 26 (.il [0, 1]) (by omega) rfl (by kernel_rfl)
  have e0 : a.tmps.getD 58 undef = .slice A0 2 c0 := e0
  obtain ⟨A1, c1, e1, r1⟩ := gets h hl 27 (.il [2]) (by omega) rfl (by kernel_rfl)
  have e1 : a.tmps.getD 59 undef = .slice A1 1 c1 := e1
  obtain ⟨A2, c2, e2, r2⟩ := gets h hl 28 (.il [3]) (by omega) rfl (by kernel_rfl)
  have e2 : a.tmps.getD 60 undef = .slice A2 1 c2 := e2
  obtain ⟨A3, c3, e3, r3⟩ := gets h hl 29 (.il [4, 5]) (by omega) rfl (by kernel_rfl)
  have e3 : a.tmps.getD 61 undef = .slice A3 2 c3 := e3
  have he : (execOp a.eval (wkO 30)).run Tryz.prog w = (execOp (rhoL [(58, a.tmps.getD 58 undef), (59, a.tmps.getD 59 undef), (60, a.tmps.getD 60 undef), (61, a.tmps.getD 61 undef)]) (wkO 30)).run Tryz.prog w := by kernel_rfl
  have hv : ∀ (A0 A1 A2 A3 : Option Addr) (c0 c1 c2 c3 : Nat) (w : World), (execOp (rhoL [(58, .slice A0 2 c0), (59, .slice A1 1 c1), (60, .slice A2 1 c2), (61, .slice A3 2 c3)]) (wkO 30)).run Tryz.prog w = .ok (.value (.slice (some ⟨w.heap.size, 0, none⟩) 4 4)) (w.alloc (.cells #[.slice A0 2 c0, .slice A1 1 c1, .slice A2 1 c2, .slice A3 2 c3] 35)) := fun A0 A1 A2 A3 c0 c1 c2 c3 w => by kernel_rfl
  rw [e0, e1, e2, e3, hv] at he
  refine ⟨gok h hl (.inr ⟨24, by kernel_rfl, by omega, rfl, by kernel_rfl, by kernel_rfl⟩), ow_value he (hK _ _ ((Below.refl _ _).alloc (Nat.le_refl _) _) ?_)⟩
  show RdII _ _ g2
  exact rdII_lit g2 (heap_new rfl) fun j hj => match j, hj with | 0, _ => ⟨_, _, rfl, r0.below ((Below.refl _ _).alloc (Nat.le_refl _) _)⟩ | 1, _ => ⟨_, _, rfl, r1.below ((Below.refl _ _).alloc (Nat.le_refl _) _)⟩ | 2, _ => ⟨_, _, rfl, r2.below ((Below.refl _ _).alloc (Nat.le_refl _) _)⟩ | 3, _ => ⟨_, _, rfl, r3.below ((Below.refl _ _).alloc (Nat.le_refl _) _)⟩
theorem s39 : WOK v1 v2 Au cu bm w0 wkOps Q 39 (wkO 39) := by
  intro l a w h hl K hK
  obtain ⟨A0, c0, e0, r0⟩ := gets h hl 36 (.il [0, 1]) (by omega) rfl (by kernel_rfl)
  have e0 : a.tmps.getD 68 undef = .slice A0 2 c0 := e0
  obtain ⟨A1, c1, e1, r1⟩ := gets h hl 37 (.il [2]) (by omega) rfl (by kernel_rfl)
  have e1 : a.tmps.getD 69 undef = .slice A1 1 c1 := e1
  obtain ⟨A2, c2, e2, r2⟩ := gets h hl 38 (.il [3, 4]) (by omega) rfl (by kernel_rfl)
  have e2 : a.tmps.getD 70 undef = .slice A2 2 c2 := e2
  have he : (execOp a.eval (wkO 39)).run Tryz.prog w = (execOp (rhoL [(68, a.tmps.getD 68 undef), (69, a.tmps.getD 69 undef), (70, a.tmps.getD 70 undef)]) (wkO 39)).run Tryz.prog w := by kernel_rfl
  have hv : ∀ (A0 A1 A2 : Option Addr) (c0 c1 c2 : Nat) (w : World), (execOp (rhoL [(68, .slice A0 2 c0), (69, .slice A1 1 c1), (70, .slice A2 2 c2)]) (wkO 39)).run Tryz.prog w = .ok (.value (.slice (some ⟨w.heap.size, 0, none⟩) 3 3)) (w.alloc (.cells #[.slice A0 2 c0, .slice A1 1 c1, .slice A2 2 c2] 35)) := fun A0 A1 A2 c0 c1 c2 w => by kernel_rfl
  rw [e0, e1, e2, hv] at he
  refine ⟨gok h hl (.inr ⟨33, by kernel_rfl, by omega, rfl, by kernel_rfl, by kernel_rfl⟩), ow_value he (hK _ _ ((Below.refl _ _).alloc (Nat.le_refl _) _) ?_)⟩
  show RdII _ _ g3
  exact rdII_lit g3 (heap_new rfl) fun j hj => match j, hj with | 0, _ => ⟨_, _, rfl, r0.below ((Below.refl _ _).alloc (Nat.le_refl _) _)⟩ | 1, _ => ⟨_, _, rfl, r1.below ((Below.refl _ _).alloc (Nat.le_refl _) _)⟩ | 2, _ => ⟨_, _, rfl, r2.below ((Below.refl _ _).alloc (Nat.le_refl _) _)⟩
theorem s48 : WOK v1 v2 Au cu bm w0 wkOps Q 48 (wkO 48) := by
  intro l a w h hl K hK
  obtain ⟨A0, c0, e0, r0⟩ := gets h hl 45 (.il [0, 1, 2]) (by omega) rfl (by kernel_rfl)
  have e0 : a.tmps.getD 77 undef = .slice A0 3 c0 := e0
  obtain ⟨A1, c1, e1, r1⟩ := gets h hl 46 (.il [3]) (by omega) rfl (by kernel_rfl)
  have e1 : a.tmps.getD 78 undef = .slice A1 1 c1 := e1
  obtain ⟨A2, c2, e2, r2⟩ := gets h hl 47 (.il [4]) (by omega) rfl (by kernel_rfl)
  have e2 : a.tmps.getD 79 undef = .slice A2 1 c2 := e2
  have he : (execOp a.eval (wkO 48)).run Tryz.prog w = (execOp (rhoL [(77, a.tmps.getD 77 undef), (78, a.tmps.getD 78 undef), (79, a.tmps.getD 79 undef)]) (wkO 48)).run Tryz.prog w := by kernel_rfl
  have hv : ∀ (A0 A1 A2 : Option Addr) (c0 c1 c2 : Nat) (w : World), (execOp (rhoL [(77, .slice A0 3 c0), (78, .slice A1 1 c1), (79, .slice A2 1 c2)]) (wkO 48)).run Tryz.prog w = .ok (.value (.slice (some ⟨w.heap.size, 0, none⟩) 3 3)) (w.alloc (.cells #[.slice A0 3 c0, .slice A1 1 c1, .slice A2 1 c2] 35)) := fun A0 A1 A2 c0 c1 c2 w => by kernel_rfl
  rw [e0, e1, e2, hv] at he
  refine ⟨gok h hl (.inr ⟨42, by kernel_rfl, by omega, rfl, by kernel_rfl, by kernel_rfl⟩), ow_value he (hK _ _ ((Below.refl _ _).alloc (Nat.le_refl _) _) ?_)⟩
  show RdII _ _ g4
  exact rdII_lit g4 (heap_new rfl) fun j hj => match j, hj with | 0, _ => ⟨_, _, rfl, r0.below ((Below.refl _ _).alloc (Nat.le_refl _) _)⟩ | 1, _ => ⟨_, _, rfl, r1.below ((Below.refl _ _).alloc (Nat.le_refl _) _)⟩ | 2, _ => ⟨_, _, rfl, r2.below ((Below.refl _ _).alloc (Nat.le_refl _) _)⟩
theorem s4 : WOK v1 v2 Au cu bm w0 wkOps Q 4 (wkO 4) :=
  sg_same (x := 0) (y := 3) (gs := g1) (fun a w => by kernel_rfl) (by omega) (by omega) rfl rfl rfl (by decide) (by decide) (by kernel_rfl) (by kernel_rfl) (.inl (by kernel_rfl))
theorem s31 : WOK v1 v2 Au cu bm w0 wkOps Q 31 (wkO 31) :=
  sg_same (x := 25) (y := 30) (gs := g2) (fun a w => by kernel_rfl) (by omega) (by omega) rfl rfl rfl (by decide) (by decide) (by kernel_rfl) (by kernel_rfl) (.inr ⟨24, by kernel_rfl, by omega, rfl, by kernel_rfl, by kernel_rfl⟩)
theorem s40 : WOK v1 v2 Au cu bm w0 wkOps Q 40 (wkO 40) :=
  sg_same (x := 35) (y := 39) (gs := g3) (fun a w => by kernel_rfl) (by omega) (by omega) rfl rfl rfl (by decide) (by decide) (by kernel_rfl) (by kernel_rfl) (.inr ⟨33, by kernel_rfl, by omega, rfl, by kernel_rfl, by kernel_rfl⟩)
theorem s49 : WOK v1 v2 Au cu bm w0 wkOps Q 49 (wkO 49) :=
  sg_same (x := 44) (y := 48) (gs := g4) (fun a w => by kernel_rfl) (by omega) (by omega) rfl rfl rfl (by decide) (by decide) (by kernel_rfl) (by kernel_rfl) (.inr ⟨42, by kernel_rfl, by omega, rfl, by kernel_rfl, by kernel_rfl⟩)
theorem s14 : WOK v1 v2 Au cu bm w0 wkOps Q 14 (wkO 14) :=
  st_word (s := sa_) (fun a w => by kernel_rfl) rfl (.inr ⟨10, by kernel_rfl, by omega, rfl, by kernel_rfl, by kernel_rfl⟩)
theorem s21 : WOK v1 v2 Au cu bm w0 wkOps Q 21 (wkO 21) :=
  st_word (s := sb_) (fun a w => by kernel_rfl) rfl (.inr ⟨17, by kernel_rfl, by omega, rfl, by kernel_rfl, by kernel_rfl⟩)
theorem s35 : WOK v1 v2 Au cu bm w0 wkOps Q 35 (wkO 35) :=
  st_start (x := 34) (fun a w => by kernel_rfl) (by omega) rfl rfl (by kernel_rfl) (.inr ⟨33, by kernel_rfl, by omega, rfl, by kernel_rfl, by kernel_rfl⟩)
theorem s44 : WOK v1 v2 Au cu bm w0 wkOps Q 44 (wkO 44) :=
  st_end (x := 43) (fun a w => by kernel_rfl) (by omega) rfl rfl (by kernel_rfl) (.inr ⟨42, by kernel_rfl, by omega, rfl, by kernel_rfl, by kernel_rfl⟩)
theorem s7 : WOK v1 v2 Au cu bm w0 wkOps Q 7 (wkO 7) :=
  st_len (x := 6) (fun a w => by kernel_rfl) (fun A c w => by kernel_rfl) (by omega) rfl rfl (by kernel_rfl) (.inr ⟨5, by kernel_rfl, by omega, rfl, by kernel_rfl, by kernel_rfl⟩)
theorem s8 : WOK v1 v2 Au cu bm w0 wkOps Q 8 (wkO 8) :=
  st_eql2 (x := 7) (fun a w => by kernel_rfl) (fun w => by kernel_rfl) (by omega) rfl rfl (by kernel_rfl) (.inr ⟨5, by kernel_rfl, by omega, rfl, by kernel_rfl, by kernel_rfl⟩)
theorem s12 : WOK v1 v2 Au cu bm w0 wkOps Q 12 (wkO 12) :=
  st_addr (x := 11) (k := 0) (s := sa_) (fun a w => by kernel_rfl) (fun b o c w => by kernel_rfl) (by omega) rfl rfl (by kernel_rfl) (by decide) rfl rfl (.inr ⟨10, by kernel_rfl, by omega, rfl, by kernel_rfl, by kernel_rfl⟩)
theorem s19 : WOK v1 v2 Au cu bm w0 wkOps Q 19 (wkO 19) :=
  st_addr (x := 18) (k := 1) (s := sb_) (fun a w => by kernel_rfl) (fun b o c w => by kernel_rfl) (by omega) rfl rfl (by kernel_rfl) (by decide) rfl rfl (.inr ⟨17, by kernel_rfl, by omega, rfl, by kernel_rfl, by kernel_rfl⟩)
theorem s13 : WOK v1 v2 Au cu bm w0 wkOps Q 13 (wkO 13) :=
  st_load (x := 12) (s := sa_) (by kernel_rfl) (by omega) rfl rfl (by kernel_rfl) (.inr ⟨10, by kernel_rfl, by omega, rfl, by kernel_rfl, by kernel_rfl⟩)
theorem s20 : WOK v1 v2 Au cu bm w0 wkOps Q 20 (wkO 20) :=
  st_load (x := 19) (s := sb_) (by kernel_rfl) (by omega) rfl rfl (by kernel_rfl) (.inr ⟨17, by kernel_rfl, by omega, rfl, by kernel_rfl, by kernel_rfl⟩)
theorem s15 : WOK v1 v2 Au cu bm w0 wkOps Q 15 (wkO 15) :=
  st_eqa (x := 13) (y := 14) (s := sa_) (fun a w => by kernel_rfl) (fun w => by kernel_rfl) (by omega) (by omega) rfl rfl rfl (by kernel_rfl) (by kernel_rfl) (.inr ⟨10, by kernel_rfl, by omega, rfl, by kernel_rfl, by kernel_rfl⟩)
theorem s22 : WOK v1 v2 Au cu bm w0 wkOps Q 22 (wkO 22) :=
  st_eqa (x := 20) (y := 21) (s := sb_) (fun a w => by kernel_rfl) (fun w => by kernel_rfl) (by omega) (by omega) rfl rfl rfl (by kernel_rfl) (by kernel_rfl) (.inr ⟨17, by kernel_rfl, by omega, rfl, by kernel_rfl, by kernel_rfl⟩)
theorem steps (h1 : RdII w0 v1 g1) (h2 : RdAtoms w0 Au 2 lAB) (h3 : RdII w0 v2 g2) (h4 : RdBools w0 (some ⟨bm, 0, none⟩) 5 mks) : ∀ i, i < 52 → WOK v1 v2 Au cu bm w0 wkOps Q i (wkO i) := fun i hi => match i, hi with
  | 0, _ => s0 h1
  | 1, _ => s1
  | 2, _ => s2
  | 3, _ => s3
  | 4, _ => s4
  | 5, _ => s5
  | 6, _ => s6 h2
  | 7, _ => s7
  | 8, _ => s8
  | 9, _ => s9
  | 10, _ => s10
  | 11, _ => s11 h2
  | 12, _ => s12
  | 13, _ => s13
  | 14, _ => s14
  | 15, _ => s15
  | 16, _ => s16
  | 17, _ => s17
  | 18, _ => s18 h2
  | 19, _ => s19
  | 20, _ => s20
  | 21, _ => s21
  | 22, _ => s22
  | 23, _ => s23
  | 24, _ => s24
  | 25, _ => s25 h3
  | 26, _ => s26
  | 27, _ => s27
  | 28, _ => s28
  | 29, _ => s29
  | 30, _ => s30
  | 31, _ => s31
  | 32, _ => s32
  | 33, _ => s33
  | 34, _ => s34 h4
  | 35, _ => s35
  | 36, _ => s36
  | 37, _ => s37
  | 38, _ => s38
  | 39, _ => s39
  | 40, _ => s40
  | 41, _ => s41
  | 42, _ => s42
  | 43, _ => s43 h4
  | 44, _ => s44
  | 45, _ => s45
  | 46, _ => s46
  | 47, _ => s47
  | 48, _ => s48
  | 49, _ => s49
  | 50, _ => s50
  | 51, _ => s51
  | n + 52, h => absurd h (by omega)
end
end Go.Proofs.YtfheoplcjeimdaaGreatDoor
