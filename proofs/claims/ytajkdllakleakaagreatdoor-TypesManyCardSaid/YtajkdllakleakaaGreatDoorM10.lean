/- Chapter 16: copied at rows of atoms: a row of the call's own (printed by gen_cop.py). -/
import Derived.Deep.QuietTactic
import Derived.BigQuiet
import Derived.Shelf.Abstract
import Derived.Test.YtajkdllakleakaaGreatDoorM3
import Derived.Test.YtajkdllakleakaaGreatDoorDr
namespace Go.Proofs.YtajkdllakleakaaGreatDoor
open Go.RowKit
set_option linter.unusedVariables false
set_option linter.unusedSimpArgs false

/-- A row with nothing in it but an atom. -/
structure AtR (r : IRow) : Prop where
  ps : r.ps = .slice none 0 0
  ms : r.ms = .slice none 0 0
  fn : r.fn = .pointer none
theorem AtR.ok {r : IRow} (h : AtR r) : ROk r := ⟨by rw [h.ps]; rfl, by rw [h.ms]; rfl, by rw [h.fn]; rfl⟩
theorem set_id {W : World} {g i : Nat} {t : TypeId} {cs : Array Value} {v : Value} {fr : Nat × Nat} (h : W.heap[g]? = some (.cells cs t fr)) (hv : cs[i]? = some v) : W.setCell ⟨g, i, none⟩ v = W := by
  have hg := (Array.getElem?_eq_some_iff.1 h)
  obtain ⟨hlt, he⟩ := hg
  have hi := (Array.getElem?_eq_some_iff.1 hv)
  obtain ⟨hil, hie⟩ := hi
  have : (W.setCell ⟨g, i, none⟩ v).heap = W.heap := by
    unfold World.setCell
    apply Array.ext
    · rw [Array.size_modify]
    · intro k h1 h2
      simp only [Array.getElem_modify]
      split
      · rename_i hk
        subst hk
        rw [he]
        have e : cs.setIfInBounds i v = cs := by
          apply Array.ext
          · rw [Array.size_setIfInBounds]
          · intro j h3 h4
            by_cases hj : i = j
            · subst hj
              rw [Array.getElem_setIfInBounds, if_pos rfl]
              · exact hie.symm
              · exact hil
            · rw [Array.getElem_setIfInBounds, if_neg hj]
        show Obj.cells (cs.setIfInBounds i v) t fr = Obj.cells cs t fr
        rw [e]
      · rfl
  unfold World.setCell at this ⊢
  simp only at this
  rw [this]
set_option maxRecDepth 100000 in
theorem cloneP_nil (w : World) : Calls Tryz.prog 37 #[.slice none 0 0] w fun e w' => e = .returned (.slice none 0 0) ∧ w' = w := by
  have q : ∀ (w : World), (binOp .eql 25 (.slice none 0 0) (.slice none 0 0)).run Tryz.prog w = .ok (.bool true) w := fun w => Lib.run_eql_slice_nil w _ _ none 0 0 0 0 Tryz.underlying25
  go_enter Tryz.func37, Tryz.ntmps37
  go_wp2
  go_ret
  exact ⟨rfl, rfl⟩
set_option maxRecDepth 100000 in
theorem cloneM_nil (w : World) : Calls Tryz.prog 38 #[.slice none 0 0] w fun e w' => e = .returned (.slice none 0 0) ∧ w' = w := by
  have q : ∀ (w : World), (binOp .eql 26 (.slice none 0 0) (.slice none 0 0)).run Tryz.prog w = .ok (.bool true) w := fun w => Lib.run_eql_slice_nil w _ _ none 0 0 0 0 Tryz.underlying26
  go_enter Tryz.func38, Tryz.ntmps38
  go_wp2
  go_ret
  exact ⟨rfl, rfl⟩
/-- The state of the copy's loop. -/
structure CpS (w W : World) (g : Nat) (cur : Array Value) : Prop where
  b : Below w.heap.size w W
  h : W.heap[g]? = some (.cells cur 29 (0, 0))
theorem CpS.go {w W W' : World} {g : Nat} {cur : Array Value} (h : CpS w W g cur) (hb : Below W.heap.size W W') : CpS w W' g cur := ⟨h.b.trans (hb.mono h.b.size), (hb.block _ (Array.getElem?_eq_some_iff.1 h.h).1).trans h.h⟩
theorem CpS.cell {w W : World} {g i : Nat} {cur : Array Value} {v : Value} (h : CpS w W g cur) (hv : cur[i]? = some v) : W.cell? ⟨g, i, none⟩ = some v := (cell_of_row W g i _ _ _ h.h).trans hv
theorem CpS.frz {w W : World} {g : Nat} {cur : Array Value} (h : CpS w W g cur) (i : Nat) : W.frozen? ⟨g, i, none⟩ = false := by simp [World.frozen?, h.h]
theorem list14c {l : List Value} (h : l.length = 14) : ∃ y0 y1 y2 y3 y4 y5 y6 y7 y8 y9 y10 y11 y12 y13, l = [y0, y1, y2, y3, y4, y5, y6, y7, y8, y9, y10, y11, y12, y13] := by
  match l, h with
  | y0 :: y1 :: y2 :: y3 :: y4 :: y5 :: y6 :: y7 :: y8 :: y9 :: y10 :: y11 :: y12 :: y13 :: [], _ => exact ⟨y0, y1, y2, y3, y4, y5, y6, y7, y8, y9, y10, y11, y12, y13, rfl⟩
def cop (g k : Nat) : Bool → Nat → Value → World → Prop
  | _, 0 => fun v _ => v = .pointer (some ⟨g, k * 8, none⟩)
  | _, 1 => fun v _ => v = .pointer (some ⟨g, k * 8, none⟩)
  | _, 2 => fun v _ => v = .pointer (some ⟨g, k * 8, none⟩)
  | _, 3 => fun v _ => v = .pointer (some ⟨g, k * 8, none⟩)
  | _, 4 => fun v _ => v = .pointer (some ⟨g, k * 8 + 5, none⟩)
  | _, 5 => fun v _ => v = .slice none 0 0
  | _, 6 => fun v _ => v = .slice none 0 0
  | _, 7 => fun v _ => v = .pointer (some ⟨g, k * 8, none⟩)
  | _, 8 => fun v _ => v = .pointer (some ⟨g, k * 8, none⟩)
  | _, 9 => fun v _ => v = .pointer (some ⟨g, k * 8 + 6, none⟩)
  | _, 10 => fun v _ => v = .slice none 0 0
  | _, 11 => fun v _ => v = .slice none 0 0
  | _, 12 => fun v _ => v = .pointer (some ⟨g, k * 8, none⟩)
  | _, 13 => fun v _ => v = .pointer (some ⟨g, k * 8 + 5, none⟩)
  | _, _ => fun _ _ => True
theorem copm (g k : Nat) (s : Bool) (jx : Nat) (v : Value) (w w' : World) (hb : Below w.heap.size w w') (h : cop g k s jx v w) : cop g k s jx v w' := by
  unfold cop at h ⊢
  split at h
  all_goals first | exact h | trivial
set_option maxRecDepth 100000 in
set_option maxHeartbeats 4000000 in
theorem copied2_any (l : List IRow) (v : Value) (w : World) (B1 B2 : Nat) (h : RdI w l v) (hn : l.length ≤ 900000) (h0 : 0 < l.length) (h1 : ∀ r, r ∈ l → AtR r) :
    Calls Tryz.prog 35 #[v, .pointer (some ⟨B1, 0, none⟩), .pointer (some ⟨B2, 0, none⟩)] w fun e w' => ∃ v', e = .returned v' ∧ OwnI w' w.heap.size v' l ∧ Below w.heap.size w w' := by
  have HC := Lib.hid (cloneI_any l v w h hn fun r hr => (h1 r hr).ok)
  have H1 := Lib.hid h1
  obtain ⟨A, c, rfl, _⟩ := h.form
  have HN := Lib.hid hn
  have HP := Lib.hid h0
  clear h h1 hn h0
  go_enter Tryz.func35, Tryz.ntmps35
  go_wp2_with fail
  refine HC.out.mono ?_
  rintro e w1 ⟨v', rfl, ho, hb⟩
  obtain ⟨g, cap, cur, rfl, hg, hcur, hc1, hc2, hc3, hc4⟩ : ∃ g cap cur, v' = .slice (some ⟨g, 0, none⟩) l.length cap ∧ w.heap.size ≤ g ∧ w1.heap[g]? = some (.cells cur 29 (0, 0)) ∧ l.length ≤ cap ∧ cap ≤ maxLen ∧ cur.size = cap * 8 ∧ cur.toList.take (l.length * 8) = iflat l := by
    rcases ho.2 with ⟨_, e⟩ | ⟨g, cap, cur, e1, e2, e3, e4, e5, e6, e7⟩
    · have := HP.out; omega
    · exact ⟨g, cap, cur, e1, e2, e3, e4, e5, e6, e7⟩
  have HO := Lib.hid ho
  have S0 := Lib.hid (show CpS w w1 g cur from ⟨hb, hcur⟩)
  have HCU : Hid (∀ k r, l[k]? = some r → cur[k * 8 + 5]? = some (.slice none 0 0) ∧ cur[k * 8 + 6]? = some (.slice none 0 0) ∧ cur[k * 8 + 7]? = some (.pointer none)) := Lib.hid fun k r hk => by
    have hkl := (List.getElem?_eq_some_iff.1 hk).1
    have hr := H1.out r (List.mem_of_getElem? hk)
    have key : ∀ i, i < 8 → cur[k * 8 + i]? = some (r.cells.getD i undef) := fun i hi => by
      have h2 := flat_get (wd := 8) (l.map IRow.cells) (cells_all8 l) k i (by simpa using hkl) hi
      have h3 : (l.map IRow.cells).getD k [] = r.cells := by simp [List.getD_eq_getElem?_getD, hk]
      have h4 : cur.toList[k * 8 + i]? = (iflat l)[k * 8 + i]? := by rw [← hc4, List.getElem?_take_of_lt (by omega)]
      rw [h3] at h2
      rw [← Array.getElem?_toList, h4]
      exact h2
    have k5 := key 5 (by omega)
    have k6 := key 6 (by omega)
    have k7 := key 7 (by omega)
    exact ⟨k5.trans (by rw [← hr.ps]; rfl), k6.trans (by rw [← hr.ms]; rfl), k7.trans (by rw [← hr.fn]; rfl)⟩
  have HC4 := Lib.hid hc4
  have hcm : l.length ≤ 900000 := HN.out
  have HC2 := Lib.hid hc2
  unfold maxLen at hc2
  clear ho hcur hb hc4
  generalize hm : l.length = m at *
  go_wp2
  go_loopw [15] (fun i wr => ∃ k : Nat, k ≤ m ∧ i = .int .i64 k ∧ Hid (CpS w wr g cur)) (fun i _ => m - (intOf i).toNat)
  case atStart => exact ⟨0, Nat.zero_le _, rfl, S0⟩
  case round =>
    obtain ⟨k, hk, rfl, S⟩ := hrel
    clear S0
    by_cases hlt : k < m
    · obtain ⟨r, hr⟩ : ∃ r, l[k]? = some r := ⟨l[k]'(by omega), List.getElem?_eq_getElem (by omega)⟩
      have H5 := Lib.hid (HCU.out k r hr).1
      have H6 := Lib.hid (HCU.out k r hr).2.1
      have H7 := Lib.hid (HCU.out k r hr).2.2
      go_wp2_with fail
      have c5 := S.out.cell H5.out
      have c6 := S.out.cell H6.out
      have c7 := S.out.cell H7.out
      have f5 := S.out.frz (k * 8 + 5)
      have f6 := S.out.frz (k * 8 + 6)
      have hid5 : ∀ n, (wr.drewN n).setCell ⟨g, k * 8 + 5, none⟩ (.slice none 0 0) = wr.drewN n := fun n => set_id (W := wr.drewN n) (by simpa using S.out.h) H5.out
      have hid6 : ∀ n, (wr.drewN n).setCell ⟨g, k * 8 + 6, none⟩ (.slice none 0 0) = wr.drewN n := fun n => set_id (W := wr.drewN n) (by simpa using S.out.h) H6.out
      go_quiet (first | (go_at_call 37; exact Calls.quiet_of_same (cloneP_nil _)) | (go_at_call 38; exact Calls.quiet_of_same (cloneM_nil _)))
      obtain ⟨W2, hW2⟩ : ∃ W2, wr.drewN nq = W2 := ⟨_, rfl⟩
      have S2 := Lib.hid (show CpS w W2 g cur from hW2 ▸ ⟨bel_dn S.out.b _, by simpa using S.out.h⟩)
      rw [hW2]
      clear hW2 c5 c6 c7 f5 f6 hid5 hid6 S
      have c5 := S2.out.cell H5.out
      have c6 := S2.out.cell H6.out
      have c7 := S2.out.cell H7.out
      go_wp2_with fail
      go_loopw [42] (fun v w2 => v = .int .i64 0 ∧ w2 = W2) (fun _ _ => 0)
      case atStart => exact ⟨rfl, rfl⟩
      case round =>
        obtain ⟨rfl, rfl⟩ := hrel
        go_wp2_with fail
        go_loopw [68] (fun v w2 => v = .int .i64 0 ∧ w2 = wr) (fun _ _ => 0)
        case atStart => exact ⟨rfl, rfl⟩
        case round =>
          obtain ⟨rfl, rfl⟩ := hrel
          go_wp2
          exact ⟨⟨k + 1, by omega, by go_num, S2⟩, by simp [intOf]; omega⟩

    · obtain rfl : k = m := by omega
      go_wp2
      go_ret
      have ho1 := HO.out.1
      refine ⟨_, rfl, ⟨ho1, .inr ⟨g, cap, cur, ?_, hg, S.out.h, ?_, HC2.out, hc3, ?_⟩⟩, S.out.b⟩
      · rw [hm]; rfl
      · omega
      · rw [hm]; exact HC4.out
theorem belC (w : World) (cs ds : Array Value) (t u : TypeId) : Below w.heap.size w ((w.alloc (.cells cs t)).alloc (.cells ds u)) := ((Below.refl _ w).alloc (Nat.le_refl _) _).alloc (by simp) _
theorem ent_cop (args : Array Value) (W : World) : (callFunc 35 args).run Tryz.prog W = .ok (.enter 35 args) W := enters_of Tryz.func35 (by kernel_rfl) rfl args W
set_option maxRecDepth 100000 in
theorem copied_any (l : List IRow) (v : Value) (w : World) (h : RdI w l v) (hn : l.length ≤ 900000) (h0 : 0 < l.length) (h1 : ∀ r, r ∈ l → AtR r) :
    Calls Tryz.prog 15 #[v] w fun e w' => ∃ v', e = .returned v' ∧ RdI w' l v' ∧ OwnI w' w.heap.size v' l ∧ Below w.heap.size w w' := by
  obtain ⟨A, c, rfl, _⟩ := h.form
  have HC : Hid (∀ W, Below w.heap.size w W → Calls Tryz.prog 35 #[.slice A l.length c, .pointer (some ⟨w.heap.size + 1, 0, none⟩), .pointer (some ⟨w.heap.size, 0, none⟩)] W fun e w' => ∃ v', e = .returned v' ∧ OwnI w' W.heap.size v' l ∧ Below W.heap.size W w') := Lib.hid fun W hW => copied2_any l _ W _ _ (RdRows.below h hW) hn h0 h1
  have HN := Lib.hid hn
  have hent := ent_cop
  clear h h1 hn h0
  generalize hm : l.length = m at *
  go_enter Tryz.func15, Tryz.ntmps15
  go_wp2_with fail
  have hb0 := belC w #[.func (.func 32) #[] #[.pointer (some ⟨w.heap.size, 0, none⟩)]] #[.func (.func 35) #[] #[.pointer (some ⟨w.heap.size + 1, 0, none⟩), .pointer (some ⟨w.heap.size, 0, none⟩)]] 79 57
  refine (HC.out _ hb0).mono ?_
  rintro e w1 ⟨v', rfl, ho, hb⟩
  have hs := hb0.size
  have HO := Lib.hid (ho.mono hs)
  have HB := Lib.hid (hb0.trans (hb.mono hs))
  have h1 : ∃ g cap, v' = .slice g m cap := by
    obtain ⟨A', c', e⟩ := ho.form
    exact ⟨A', c', by rw [e, hm]⟩
  have HR := Lib.hid (OwnI.reads ho (by simp only [maxLen]; have := HN.out; omega))
  obtain ⟨g, cap, rfl⟩ := h1
  clear hb0 ho hb HC hent
  go_wp2
  go_ret
  exact ⟨_, rfl, HR.out, HO.out, HB.out⟩
end Go.Proofs.YtajkdllakleakaaGreatDoor
/- Chapter 16: the reference's Same at rows of atoms that are alike (printed by gen_sam.py). -/
namespace Go.Proofs.YtajkdllakleakaaGreatDoor
open Go.RowKit
set_option linter.unusedVariables false
set_option linter.unusedSimpArgs false

set_option maxRecDepth 100000 in
theorem atm_neq (k : Int) (s : ByteArray) (w : World) : (binOp .neq 24 (.agg #[.int .i64 k, .string s]) (.agg #[.int .i64 k, .string s])).run Tryz.prog w = .ok (.bool false) w := by
  have hS : Tryz.prog.underlying 24 = some (.struct (Tryz.prog.fieldsOf 24)) := by kernel_rfl
  have hp : Tryz.prog.stoodInHeld 24 = false := by kernel_rfl
  rw [run_neq_struct, show (10000 : Nat) = 9999 + 1 from rfl, run_equalIn_agg w 9999 24 _ _ hS hp]
  simp only [Program.fieldsOf, Tryz.underlying24]
  go_simp
set_option maxRecDepth 100000 in
set_option maxHeartbeats 2000000 in
theorem same_any (r : IRow) (hr : AtR r) (w : World) : Calls Tryz.prog 41 #[itV r, itV r] w fun e w' => e = .returned (.bool true) ∧ Below w.heap.size w w' := by
  obtain ⟨k, ak, tx, tr, nd, ps, ms, fn⟩ := r
  obtain ⟨h1, h2, h3⟩ := hr
  simp only at h1 h2 h3
  subst h1 h2 h3
  have hq := fun W => atm_neq ak tx W
  unfold itV
  simp only
  go_enter Tryz.func41, Tryz.ntmps41
  go_wp2_with fail
  go_loopw [5] (fun v w2 => v = .int .i64 0 ∧ w2 = (w.alloc (.cells #[.int .i64 k, .int .i64 ak, .string tx, .int .i64 tr, .int .i64 nd, .slice none 0 0, .slice none 0 0, .pointer none] 29)).alloc (.cells #[.int .i64 k, .int .i64 ak, .string tx, .int .i64 tr, .int .i64 nd, .slice none 0 0, .slice none 0 0, .pointer none] 29)) (fun _ _ => 0)
  case atStart => exact ⟨rfl, rfl⟩
  case round =>
    obtain ⟨rfl, rfl⟩ := hrel
    go_wp2_with fail
    go_loopw [6] (fun v w2 => v = .int .i64 0 ∧ w2 = (w.alloc (.cells #[.int .i64 k, .int .i64 ak, .string tx, .int .i64 tr, .int .i64 nd, .slice none 0 0, .slice none 0 0, .pointer none] 29)).alloc (.cells #[.int .i64 k, .int .i64 ak, .string tx, .int .i64 tr, .int .i64 nd, .slice none 0 0, .slice none 0 0, .pointer none] 29)) (fun _ _ => 0)
    case atStart => exact ⟨rfl, rfl⟩
    case round =>
      obtain ⟨rfl, rfl⟩ := hrel
      go_wp2
      go_ret
      exact ⟨rfl, ((Below.refl _ w).alloc (Nat.le_refl _) _).alloc (by simp) _⟩
theorem list10s {l : List Value} (h : l.length = 10) : ∃ y0 y1 y2 y3 y4 y5 y6 y7 y8 y9, l = [y0, y1, y2, y3, y4, y5, y6, y7, y8, y9] := by
  match l, h with
  | y0 :: y1 :: y2 :: y3 :: y4 :: y5 :: y6 :: y7 :: y8 :: y9 :: [], _ => exact ⟨y0, y1, y2, y3, y4, y5, y6, y7, y8, y9, rfl⟩
def sam (b1 o1 c1 b2 o2 c2 m k : Nat) (r : IRow) : Nat → Value → World → Prop
  | 0 => fun v _ => v = .slice (some ⟨b1, o1, none⟩) m c1
  | 1 => fun v _ => v = .int .i64 (k : Int)
  | 2 => fun v _ => v = .pointer (some ⟨b1, o1 + k * 8, none⟩)
  | 3 => fun v _ => v = .agg #[.int .i64 r.k, .int .i64 r.ak, .string r.tx, .int .i64 r.tr, .int .i64 r.nd, r.ps, r.ms, r.fn]
  | 4 => fun v _ => v = .slice (some ⟨b2, o2, none⟩) m c2
  | 5 => fun v _ => v = .int .i64 (k : Int)
  | 6 => fun v _ => v = .pointer (some ⟨b2, o2 + k * 8, none⟩)
  | 7 => fun v _ => v = .agg #[.int .i64 r.k, .int .i64 r.ak, .string r.tx, .int .i64 r.tr, .int .i64 r.nd, r.ps, r.ms, r.fn]
  | 8 => fun v _ => v = .bool true
  | 9 => fun v _ => v = .bool false
  | _ => fun _ _ => True
theorem samm (b1 o1 c1 b2 o2 c2 m k : Nat) (r : IRow) (jx : Nat) (v : Value) (w w' : World) (hb : Below w.heap.size w w') (h : sam b1 o1 c1 b2 o2 c2 m k r jx v w) : sam b1 o1 c1 b2 o2 c2 m k r jx v w' := by
  unfold sam at h ⊢
  split at h
  all_goals first | exact h | trivial
theorem icT {W W' : World} {b o : Nat} {r : IRow} (h : ICells W b o r ∧ b < W.heap.size) (hb : Below W.heap.size W W') : ICells W' b o r := by
  obtain ⟨⟨h0, h1, h2, h3, h4, h5, h6, h7⟩, hl⟩ := h
  have e : ∀ i, W'.cell? ⟨b, i, none⟩ = W.cell? ⟨b, i, none⟩ := fun i => hb.cell (p := ⟨b, i, none⟩) hl
  exact ⟨(e _).trans h0, (e _).trans h1, (e _).trans h2, (e _).trans h3, (e _).trans h4, (e _).trans h5, (e _).trans h6, (e _).trans h7⟩
set_option maxRecDepth 100000 in
set_option maxHeartbeats 4000000 in
theorem Same_any (l : List IRow) (v v' : Value) (w : World) (h : RdI w l v) (h' : RdI w l v') (hn : l.length ≤ 900000) (h1 : ∀ r, r ∈ l → AtR r) :
    Calls Tryz.prog 18 #[v, v'] w fun e w' => e = .returned (.bool true) ∧ Below w.heap.size w w' := by
  obtain ⟨A, c, rfl, _⟩ := h.form
  obtain ⟨A', c', rfl, _⟩ := h'.form
  have H := Lib.hid h
  have H' := Lib.hid h'
  have H1 := Lib.hid h1
  clear h h' h1
  generalize hm : l.length = m at *
  go_enter Tryz.func18, Tryz.ntmps18
  go_wp2
  go_loopw [5] (fun i wr => ∃ k : Nat, k ≤ m ∧ i = .int .i64 k ∧ Hid (Below w.heap.size w wr)) (fun i _ => m - (intOf i).toNat)
  case atStart => exact ⟨0, Nat.zero_le _, rfl, Lib.hid (Below.refl _ _)⟩
  case round =>
    obtain ⟨k, hk, rfl, HB⟩ := hrel
    by_cases hlt : k < m
    · obtain ⟨b1, o1, r, rfl, hb1, hg1, _, x0, x1, x2, x3, x4, x5, x6, x7⟩ := H.out.row HB.out hlt
      obtain ⟨b2, o2, r', rfl, hb2, hg2, _, y0, y1, y2, y3, y4, y5, y6, y7⟩ := H'.out.row HB.out hlt
      obtain rfl : r' = r := by rw [hg1] at hg2; exact (Option.some.inj hg2).symm
      have hs := HB.out.size
      have I1 : Hid (ICells wr b1 (o1 + k * 8) r' ∧ b1 < wr.heap.size) := Lib.hid ⟨⟨x0, x1, x2, x3, x4, x5, x6, x7⟩, by omega⟩
      have I2 : Hid (ICells wr b2 (o2 + k * 8) r' ∧ b2 < wr.heap.size) := Lib.hid ⟨⟨y0, y1, y2, y3, y4, y5, y6, y7⟩, by omega⟩
      have HAR := Lib.hid (H1.out r' (List.mem_of_getElem? hg1))
      clear x0 x1 x2 x3 x4 x5 x6 x7 y0 y1 y2 y3 y4 y5 y6 y7 hg1 hg2 hb1 hb2 hs
      generalize r' = r at *
      go_wp2_with fail
      refine wp_region_drawn (by kernel_rfl) 10 27 [17, 18, 19, 20, 21, 22, 23, 24, 25, 26] (sam b1 o1 c b2 o2 c' m k r) rfl (by kernel_rfl) (samm _ _ _ _ _ _ _ _ _) ?_ ?_
      · intro i o hi ho ys W hys hb hdep
        obtain ⟨y0, y1, y2, y3, y4, y5, y6, y7, y8, y9, rfl⟩ := list10s hys
        have hi' : i = 0 ∨ i = 1 ∨ i = 2 ∨ i = 3 ∨ i = 4 ∨ i = 5 ∨ i = 6 ∨ i = 7 ∨ i = 8 ∨ i = 9 := by omega
        simp only [setM, List.setIfInBounds_toArray, List.set_cons_zero, List.set_cons_succ]
        rcases hi' with rfl | rfl | rfl | rfl | rfl | rfl | rfl | rfl | rfl | rfl
        · cases ho
          go_wp2
          exact ⟨rfl, _, rfl, Below.refl _ _, rfl⟩
        · cases ho
          go_wp2
          exact ⟨rfl, _, rfl, Below.refl _ _, rfl⟩
        · cases ho
          obtain rfl : y0 = .slice (some ⟨b1, o1, none⟩) m c := hdep 0 (by omega) (by kernel_rfl)
          obtain rfl : y1 = .int .i64 (k : Int) := hdep 1 (by omega) (by kernel_rfl)
          go_wp2
          exact ⟨rfl, _, rfl, Below.refl _ _, rfl⟩
        · cases ho
          obtain rfl : y2 = .pointer (some ⟨b1, o1 + k * 8, none⟩) := hdep 2 (by omega) (by kernel_rfl)
          obtain ⟨d0, d1, d2, d3, d4, d5, d6, d7⟩ := icT I1.out hb
          go_wp2
          exact ⟨rfl, _, rfl, Below.refl _ _, rfl⟩
        · cases ho
          go_wp2
          exact ⟨rfl, _, rfl, Below.refl _ _, rfl⟩
        · cases ho
          go_wp2
          exact ⟨rfl, _, rfl, Below.refl _ _, rfl⟩
        · cases ho
          obtain rfl : y4 = .slice (some ⟨b2, o2, none⟩) m c' := hdep 4 (by omega) (by kernel_rfl)
          obtain rfl : y5 = .int .i64 (k : Int) := hdep 5 (by omega) (by kernel_rfl)
          go_wp2
          exact ⟨rfl, _, rfl, Below.refl _ _, rfl⟩
        · cases ho
          obtain rfl : y6 = .pointer (some ⟨b2, o2 + k * 8, none⟩) := hdep 6 (by omega) (by kernel_rfl)
          obtain ⟨d0, d1, d2, d3, d4, d5, d6, d7⟩ := icT I2.out hb
          go_wp2
          exact ⟨rfl, _, rfl, Below.refl _ _, rfl⟩
        · cases ho
          obtain rfl : y3 = .agg #[.int .i64 r.k, .int .i64 r.ak, .string r.tx, .int .i64 r.tr, .int .i64 r.nd, r.ps, r.ms, r.fn] := hdep 3 (by omega) (by kernel_rfl)
          obtain rfl : y7 = .agg #[.int .i64 r.k, .int .i64 r.ak, .string r.tx, .int .i64 r.tr, .int .i64 r.nd, r.ps, r.ms, r.fn] := hdep 7 (by omega) (by kernel_rfl)
          go_wp2_with fail
          refine (same_any r HAR.out _).mono ?_
          rintro e w1 ⟨rfl, hb1⟩
          go_wp2
          exact ⟨rfl, _, rfl, hb1, rfl⟩
        · cases ho
          obtain rfl : y8 = .bool true := hdep 8 (by omega) (by kernel_rfl)
          go_wp2
          exact ⟨rfl, _, rfl, Below.refl _ _, rfl⟩
      · intro ys W hys hb hall
        obtain ⟨y0, y1, y2, y3, y4, y5, y6, y7, y8, y9, rfl⟩ := list10s hys
        simp only [setM, List.setIfInBounds_toArray, List.set_cons_zero, List.set_cons_succ]
        obtain rfl : y9 = .bool false := hall 9 (by omega)
        clear hall
        simp only [List.drop_succ_cons, List.drop_zero]
        have HB2 := Lib.hid (HB.out.trans (hb.mono HB.out.size))
        clear hb I1 I2
        go_wp2
        go_roundw
        case rel => exact ⟨k + 1, by omega, by go_num, HB2⟩
        case measure => simp [intOf]; omega
    · obtain rfl : k = m := by omega
      go_wp2
      go_ret
      exact ⟨rfl, HB.out⟩
end Go.Proofs.YtajkdllakleakaaGreatDoor
