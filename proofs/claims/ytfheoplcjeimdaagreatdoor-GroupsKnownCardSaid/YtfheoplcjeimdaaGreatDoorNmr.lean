/- Rows of digits; slices.Reverse of bytes. -/
import Derived.Test.YtfheoplcjeimdaaGreatDoorNmb
import Derived.RegionTactic
import Derived.ChangeAlike
namespace Go.Proofs.YtfheoplcjeimdaaGreatDoor
open Go.RowKit
set_option linter.unusedVariables false
set_option linter.unusedSimpArgs false

/-- Digits as bytes. -/
def dbs (l : List Nat) : List Value := l.map fun (d : Nat) => .int .u8 ((48 + d : Nat) : Int)
theorem dbs_len (l : List Nat) : (dbs l).length = l.length := by simp [dbs]
theorem dbs_append (a b : List Nat) : dbs (a ++ b) = dbs a ++ dbs b := by simp [dbs]
theorem dbs_set (l : List Nat) (k x : Nat) : dbs (l.set k x) = (dbs l).set k (.int .u8 ((48 + x : Nat) : Int)) := by simp [dbs, List.map_set]
theorem info_u8 : (Tryz.prog.info? 5).map (fun i => (i.zero, i.size, i.bytes)) = some (some (.int .u8 0), 1, 1) := by kernel_rfl
def OwnD (w : World) (base : Nat) (v : Value) (l : List Nat) : Prop := w.ownsRow base 5 1 v l.length (dbs l)
theorem OwnD.below {w w1 : World} {base : Nat} {v : Value} {l : List Nat} (h : OwnD w base v l) (hb : Below w.heap.size w w1) : OwnD w1 base v l := ownB h hb
theorem OwnD.cell {w : World} {base g cap : Nat} {l : List Nat} (h : OwnD w base (.slice (some ⟨g, 0, none⟩) l.length cap) l) (j : Nat) (hj : j < l.length) : w.cell? ⟨g, j, none⟩ = some (.int .u8 ((48 + l.getD j 0 : Nat) : Int)) ∧ w.frozen? ⟨g, j, none⟩ = false := by
  have h' : w.ownsRow base 5 1 (.slice (some ⟨g, 0, none⟩) l.length cap) l.length (dbs l) := h
  refine ⟨?_, h'.frozenAt j⟩
  rw [h'.cellAt j (by omega)]
  simp [dbs, List.getElem?_eq_getElem hj, List.getD_eq_getElem?_getD]
theorem OwnD.put {w w0 : World} {base B g cap : Nat} {l : List Nat} (h : OwnD w base (.slice (some ⟨g, 0, none⟩) l.length cap) l) (k x : Nat) (hB : B ≤ base) (hb : Below B w0 w) :
    OwnD (w.setCell ⟨g, k, none⟩ (.int .u8 ((48 + x : Nat) : Int))) base (.slice (some ⟨g, 0, none⟩) (l.set k x).length cap) (l.set k x) ∧ Below B w0 (w.setCell ⟨g, k, none⟩ (.int .u8 ((48 + x : Nat) : Int))) := by
  have h' : w.ownsRow base 5 1 (.slice (some ⟨g, 0, none⟩) l.length cap) l.length (dbs l) := h
  obtain ⟨h1, h2⟩ := h'.stored k (.int .u8 ((48 + x : Nat) : Int))
  refine ⟨?_, hb.grown h2 ?_ ?_⟩
  · unfold OwnD; rw [List.length_set, dbs_set]; exact h1
  · have := (h'.lt g rfl); omega
  · intro q hq; injection hq with hq; subst hq; have := (h'.lt g rfl).1; omega
theorem OwnD.form {w : World} {base : Nat} {v : Value} {l : List Nat} (h : OwnD w base v l) (h0 : 0 < l.length) : ∃ g cap, v = .slice (some ⟨g, 0, none⟩) l.length cap := by
  obtain ⟨g, c, e, _⟩ := World.ownsRow.form h h0
  exact ⟨g, c, e⟩
theorem OwnD.cap {w : World} {base n g cap : Nat} {l : List Nat} (h : OwnD w base (.slice (some ⟨g, 0, none⟩) n cap) l) : l.length ≤ cap := by
  rcases h.2 with ⟨c, _⟩ | ⟨g', cap', cur, e1, _, _, e4, _⟩
  · cases c
  · injection e1 with _ e2 e3
    omega
/-- A row is cut at its end. -/
theorem own_cut {w : World} {base g n cap m : Nat} {e : TypeId} {xs : List Value} (h : w.ownsRow base e 1 (.slice (some ⟨g, 0, none⟩) n cap) n xs) (hm : m ≤ n) : w.ownsRow base e 1 (.slice (some ⟨g, 0, none⟩) m cap) m (xs.take m) := by
  obtain ⟨h1, h2⟩ := h
  rcases h2 with ⟨c, _⟩ | ⟨g', cap', cur, e1, e2, e3, e4, e5, e6, e7⟩
  · cases c
  · injection e1 with e1 _ ec
    injection e1 with e1
    injection e1 with e1
    subst e1 ec
    refine ⟨by rw [List.length_take]; omega, .inr ⟨g, cap, cur, rfl, e2, e3, by omega, e5, e6, ?_⟩⟩
    rw [← e7, List.take_take, Nat.min_eq_left (by omega), Nat.mul_one]
theorem OwnD.cut {w : World} {base g cap : Nat} {l : List Nat} (h : OwnD w base (.slice (some ⟨g, 0, none⟩) l.length cap) l) (m : Nat) (hm : m ≤ l.length) : OwnD w base (.slice (some ⟨g, 0, none⟩) m cap) (l.take m) := by
  have := own_cut h hm
  unfold OwnD
  rw [List.length_take, Nat.min_eq_left hm]
  simpa [dbs, List.map_take] using this

/-- A list that is reversed from both ends, up to place i. -/
def RevI (l : List Nat) (i : Nat) (t : List Nat) : Prop := t.length = l.length ∧ 2 * i ≤ l.length + 1 ∧ ∀ j, j < l.length → t.getD j 0 = if j < i ∨ l.length - i ≤ j then l.getD (l.length - 1 - j) 0 else l.getD j 0
theorem rev_start (l : List Nat) : RevI l 0 l := ⟨rfl, by omega, fun j hj => by rw [if_neg (by omega)]⟩
theorem getD_set (t : List Nat) (k x j : Nat) (hk : k < t.length) : (t.set k x).getD j 0 = if j = k then x else t.getD j 0 := by
  rw [List.getD_eq_getElem?_getD, List.getElem?_set, List.getD_eq_getElem?_getD]
  by_cases e : k = j
  · subst e; simp [hk]
  · rw [if_neg e, if_neg (fun c => e c.symm)]
theorem rev_step {l t : List Nat} {i : Nat} (h : RevI l i t) (hi : 2 * i + 1 < l.length) : RevI l (i + 1) ((t.set i (t.getD (l.length - 1 - i) 0)).set (l.length - 1 - i) (t.getD i 0)) := by
  obtain ⟨h1, h2, h3⟩ := h
  refine ⟨by simpa using h1, by omega, fun j hj => ?_⟩
  rw [getD_set _ _ _ _ (by simp; omega), getD_set _ _ _ _ (by omega)]
  by_cases e1 : j = l.length - 1 - i
  · rw [if_pos e1, if_pos (by omega), h3 i (by omega), if_neg (by omega)]
    congr 1; omega
  · rw [if_neg e1]
    by_cases e2 : j = i
    · rw [if_pos e2, if_pos (by omega), h3 _ (by omega), if_neg (by omega), e2]
    · rw [if_neg e2, h3 j hj]
      by_cases c : j < i ∨ l.length - i ≤ j
      · rw [if_pos c, if_pos (by omega)]
      · rw [if_neg c, if_neg (by omega)]
theorem rev_end {l t : List Nat} {i : Nat} (h : RevI l i t) (hi : l.length ≤ 2 * i + 1) : t = l.reverse := by
  obtain ⟨h1, h2, h3⟩ := h
  apply List.ext_getElem (by simpa using h1)
  intro j a b
  have hj : j < l.length := by omega
  have := h3 j hj
  rw [List.getD_eq_getElem?_getD, List.getElem?_eq_getElem a, Option.getD_some] at this
  rw [this, List.getElem_reverse]
  have e : l.getD (l.length - 1 - j) 0 = l[l.length - 1 - j]'(by omega) := by rw [List.getD_eq_getElem?_getD, List.getElem?_eq_getElem]; rfl
  by_cases c : j < i ∨ l.length - i ≤ j
  · rw [if_pos c, e]
  · rw [if_neg c, ← e]
    congr 1; omega

def RevQ (base g cap : Nat) (l : List Nat) (w0 : World) (e : Ending) (w' : World) : Prop := e = .returned (.tuple #[]) ∧ OwnD w' base (.slice (some ⟨g, 0, none⟩) l.length cap) l.reverse ∧ Below base w0 w'
set_option maxRecDepth 100000 in
set_option maxHeartbeats 1000000 in
theorem reverse_any (l : List Nat) (base g cap : Nat) (w0 w : World) (h : OwnD w base (.slice (some ⟨g, 0, none⟩) l.length cap) l) (hb : Below base w0 w) (hl : l.length ≤ 1000000) :
    Calls Tryz.prog 243 #[.slice (some ⟨g, 0, none⟩) l.length cap] w (RevQ base g cap l w0) := by
  have HO := Lib.hid h
  have HR := Lib.hid (rev_start l)
  clear h
  generalize hn : l.length = n at *
  have HN := Lib.hid hn
  clear hn
  go_enter Tryz.func243, Tryz.ntmps243
  go_wp2
  go_loopw [2, 3] (fun a b wr => ∃ (i : Nat) (t : List Nat), a = .int .i64 i ∧ b = .int .i64 ((n : Int) - 1 - i) ∧ Hid (RevI l i t) ∧ Hid (OwnD wr base (.slice (some ⟨g, 0, none⟩) n cap) t) ∧ Below base w0 wr) (fun a _ _ => n + 1 - (intOf a).toNat)
  case atStart => exact ⟨0, l, rfl, by simp, HR, HO, hb⟩
  case round =>
    obtain ⟨i, t, rfl, rfl, HI, HT, hbr⟩ := hrel
    have ht : t.length = n := HI.out.1.trans HN.out
    by_cases hlt : 2 * i + 1 < n
    · obtain ⟨j, hj⟩ : ∃ j, j = n - 1 - i := ⟨_, rfl⟩
      have hj1 : (n : Int) - 1 - i = (j : Int) := by omega
      have hij : i < j := by omega
      have hjn : j < n := by omega
      have HT' : OwnD wr base (.slice (some ⟨g, 0, none⟩) t.length cap) t := by rw [ht]; exact HT.out
      obtain ⟨g1, g2⟩ := HT'.cell i (by omega)
      obtain ⟨g3, g4⟩ := HT'.cell j (by omega)
      have HS := Lib.hid (rev_step HI.out (by have := HN.out; omega))
      rw [HN.out, ← hj] at HS
      obtain ⟨p1, p2⟩ := HT'.put i (t.getD j 0) (Nat.le_refl _) hbr
      have HP1 := Lib.hid (p1.put j (t.getD i 0) (Nat.le_refl _) p2)
      obtain ⟨p3, p4⟩ := HT'.put j (t.getD i 0) (Nat.le_refl _) hbr
      have HP2 := Lib.hid (p3.put i (t.getD j 0) (Nat.le_refl _) p4)
      rw [List.set_comm _ _ (by omega)] at HP2
      simp only [List.length_set] at HP1 HP2
      rw [ht] at HP1 HP2
      clear p1 p2 p3 p4 HT'
      have HJ := Lib.hid hj
      have HT2 := Lib.hid ht
      generalize hx : t.getD i 0 = x at *
      generalize hy : t.getD j 0 = y at *
      clear hx hy ht hj
      rw [hj1]
      clear hj1
      go_wp2
      go_region
      go_wp2
      go_roundw
      case rel =>
        have hp := HP1.out
        push_cast at hp
        exact ⟨i + 1, _, by go_num, vI (by have := HJ.out; omega), HS, Lib.hid (OwnD.below hp.1 ((Below.refl _ _).drew)), hp.2.drew⟩
      case measure => simp [intOf]; omega
    · have HE := Lib.hid (rev_end HI.out (by have := HN.out; omega))
      go_wp2
      go_end0
      exact ⟨rfl, by rw [← HE.out, HN.out]; exact HT.out, hbr⟩
end Go.Proofs.YtfheoplcjeimdaaGreatDoor
