/- Chapter 16: the atoms of a row of atoms, whatever its length. -/
import Derived.Test.YtajkdllakleakaaGreatDoorMTx
import Derived.Test.YtajkdllakleakaaGreatDoorM10
namespace Go.Proofs.YtajkdllakleakaaGreatDoor
open Go.RowKit
set_option linter.unusedVariables false
set_option linter.unusedSimpArgs false

/-- The cells of the atoms of a row. -/
def atmF (l : List IRow) : List Value := l.flatMap fun r => [.int .i64 r.ak, .string r.tx]
theorem OwnA.form {W : World} {base : Nat} {v : Value} {n : Nat} {xs : List Value} (h : OwnA W base v n xs) : ∃ A c, v = .slice A n c := by
  rcases h.2 with ⟨rfl, rfl⟩ | ⟨g, cap, cur, rfl, _⟩
  · exact ⟨_, _, rfl⟩
  · exact ⟨_, _, rfl⟩
theorem atmF_step {l : List IRow} {k : Nat} {r : IRow} (h : l[k]? = some r) : atmF (l.take (k + 1)) = atmF (l.take k) ++ [.int .i64 r.ak, .string r.tx] := by
  rw [List.take_add_one, h]
  simp [atmF]
/-- What values gives. -/
def ValP (w0 : World) (n : Nat) (ys : List Value) (e : Ending) (w' : World) : Prop := ∃ o', e = .returned (.tuple #[o', .int .i64 (if 65536 < n then 7 else 0)]) ∧ OwnA w' w0.heap.size o' n ys ∧ Below w0.heap.size w0 w'
set_option maxRecDepth 100000 in
set_option maxHeartbeats 4000000 in
theorem values_rows (U : Nat) (l : List IRow) (v o : Value) (n : Nat) (xs : List Value) (w0 w : World) (hb : Below w0.heap.size w0 w) (hl : RdI w0 l v) (ho : OwnA w w0.heap.size o n xs) (hn : n + l.length ≤ 900000) (hat : ∀ r, r ∈ l → r.k = 0 ∧ AtR r) :
    Calls Tryz.prog 12 #[.pointer (some ⟨U, 0, none⟩), v, o] w (ValP w0 (n + l.length) (xs ++ atmF l)) := by
  obtain ⟨A, c, rfl, hm⟩ := hl.form
  have HL := Lib.hid hl
  have HAT := Lib.hid hat
  have HB := Lib.hid hb
  have HO : Hid (OwnA w w0.heap.size o (n + 0) (xs ++ atmF (l.take 0))) := Lib.hid (by simpa [atmF] using ho)
  clear hl hat hb ho hm
  have HE : Hid (l.take l.length = l) := Lib.hid (List.take_length ..)
  generalize hl' : l.length = m at *
  have HM := Lib.hid hl'
  clear hl'
  unfold ValP
  go_enter Tryz.func12, Tryz.ntmps12
  go_wp2
  go_loopw [2, 9, 18] (fun v lg i wr => ∃ (k : Nat) (q : Value), k ≤ m ∧ i = .int .i64 k ∧ q = v ∧ lg = .bool false ∧ Hid (Below w0.heap.size w0 wr) ∧ Hid (OwnA wr w0.heap.size q (n + k) (xs ++ atmF (l.take k)))) (fun _ _ i _ => m - (intOf i).toNat)
  case atStart => exact ⟨0, _, by omega, rfl, rfl, rfl, HB, HO⟩
  case round =>
    obtain ⟨k, v, hk, rfl, rfl, rfl, S, V⟩ := hrel
    clear HB HO
    by_cases hlt : k < m
    · obtain ⟨bI, off, r, rfl, hbI, hget, hdrop, g0, g1, g2, g3, g4, g5, g6, g7⟩ := HL.out.row S.out hlt
      obtain ⟨e0, ea⟩ := HAT.out r (List.mem_of_getElem? hget)
      have hstep := Lib.hid (atmF_step hget)
      obtain ⟨rk, ra, rt, rtr, rnd, rps, rms, rfn⟩ := r
      obtain ⟨e5, e6, e7⟩ := ea
      simp only at e0 e5 e6 e7
      subst e0 e5 e6 e7
      simp only at g0 g1 g2 g3 g4 g5 g6 g7
      clear hdrop hget hbI
      have hbw := Lib.hid (box1 wr 29 #[.int .i64 0, .int .i64 ra, .string rt, .int .i64 rtr, .int .i64 rnd, .slice none 0 0, .slice none 0 0, .pointer none])
      have S1 := Lib.hid (S.out.trans (hbw.out.mono S.out.size))
      have V1 := Lib.hid (OwnA.below V.out hbw.out)
      go_wp2_with (at_builtin; refine appA w0.heap.size rfl (.tmp 26) (.tmp 29) rfl _ (n + k) _ rfl ra rt (wr.heap.size + 1) (by simp) rfl V1.out S1.out.size (by omega) ?_)
      intro g cap w1 ho hg _ hlt
      have hb1 := S1.out.grown hg S1.out.size (fun k e => own_ge V1.out (by rw [e]))
      have HB1 := Lib.hid hb1
      have HO1 : Hid (OwnA w1 w0.heap.size (.slice (some ⟨g, 0, none⟩) (n + k + 1) cap) (n + (k + 1)) (xs ++ atmF (l.take (k + 1)))) := Lib.hid (by rw [hstep.out]; first | exact ho | (rw [← List.append_assoc]; exact ho))
      clear ho hg hb1
      go_wp2
      go_roundw
      case rel => exact ⟨k + 1, _, by omega, by go_num, rfl, rfl, HB1, HO1⟩
      case measure => simp [intOf]; omega
    · obtain rfl : k = m := by omega
      obtain ⟨A', c', rfl⟩ := V.out.form
      rw [HE.out] at V
      by_cases hz : 65536 < n + k
      · have hz' : (65536 : Int) < ((n + k : Nat) : Int) := by omega
        go_wp2
        go_ret2
        exact ⟨_, by first | rfl | (rw [if_pos hz]; rfl), V.out, S.out⟩
      · have hz' : ¬ (65536 : Int) < ((n + k : Nat) : Int) := by omega
        go_wp2
        go_ret2
        exact ⟨_, by first | rfl | (rw [if_neg hz]; rfl), V.out, S.out⟩
end Go.Proofs.YtajkdllakleakaaGreatDoor
