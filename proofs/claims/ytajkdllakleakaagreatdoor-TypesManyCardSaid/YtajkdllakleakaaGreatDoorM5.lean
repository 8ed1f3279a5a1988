/- Package num: rows of words that a call has made. -/
import Derived.Test.YtajkdllakleakaaGreatDoorMNma
import Derived.RegionTactic
import Derived.ChangeAlike


namespace Go.Proofs.YtajkdllakleakaaGreatDoor
open Go.RowKit
set_option linter.unusedVariables false
set_option linter.unusedSimpArgs false

theorem u64s_len (l : List Nat) : (u64s l).length = l.length := by simp [u64s]
theorem u64s_append (a b : List Nat) : u64s (a ++ b) = u64s a ++ u64s b := by simp [u64s]
theorem u64s_set (l : List Nat) (k x : Nat) : u64s (l.set k x) = (u64s l).set k (.int .u64 (x : Int)) := by simp [u64s, List.map_set]
theorem info_u64 : (Tryz.prog.info? 218).map (fun i => (i.zero, i.size, i.bytes)) = some (some (.int .u64 0), 1, 8) := by kernel_rfl
theorem make_big (m : Nat) (hm : m ≤ 1000000) : ∀ W : World, (Instr.makeSlice 175 (.int .i64 (m : Int)) (.int .i64 (m : Int))).run Tryz.prog W = .ok (.slice (some ⟨W.heap.size, 0, none⟩) m m) (W.alloc (.cells (madeCells #[.int .u64 0] m) 218)) := by
  intro W
  exact run_make_row' 175 218 (.int .u64 0) 8 Tryz.underlying175 info_u64 rfl .i64 .i64 m (by omega) (by omega) W
/-- A row of words of the call's own. -/
def OwnW (w : World) (base : Nat) (v : Value) (l : List Nat) : Prop := w.ownsRow base 218 1 v l.length (u64s l)
theorem own_big (W : World) (base m : Nat) (hb : base ≤ W.heap.size) (hm : m ≤ 1000000) :
    OwnW (W.alloc (.cells (madeCells #[.int .u64 0] m) 218)) base (.slice (some ⟨W.heap.size, 0, none⟩) m m) (List.replicate m 0) := by
  have := World.ownsRow_lit (base := base) (e := 218) (size := 1) W (madeCells #[.int .u64 0] m) m hb (by simp only [maxLen]; omega) (by simp [madeCells])
  have hl : (madeCells #[Value.int .u64 0] m).toList = u64s (List.replicate m 0) := by
    apply List.ext_getElem
    · simp [u64s, madeCells]
    · intro i h1 h2
      simp [u64s, madeCells, Nat.mod_one]
  unfold OwnW
  rw [List.length_replicate]
  rwa [hl] at this
theorem OwnW.below {w w1 : World} {base : Nat} {v : Value} {l : List Nat} (h : OwnW w base v l) (hb : Below w.heap.size w w1) : OwnW w1 base v l := ownB h hb
theorem OwnW.reads {w : World} {base : Nat} {v : Value} {l : List Nat} (h : OwnW w base v l) : RdB w v l := by
  rcases h.2 with ⟨rfl, h1⟩ | ⟨g, cap, cur, rfl, _, hh, hc, _⟩
  · exact ⟨none, 0, by rw [h1], by omega, fun hp => absurd hp (by omega)⟩
  · refine ⟨_, cap, rfl, hc, fun h0 => ⟨g, 0, rfl, (h.lt g rfl).2, fun j hj => ?_⟩⟩
    have h' : w.ownsRow base 218 1 (.slice (some ⟨g, 0, none⟩) l.length cap) l.length (u64s l) := h
    rw [Nat.zero_add, h'.cellAt j (by omega)]
    simp [u64s, List.getElem?_eq_getElem hj, List.getD_eq_getElem?_getD]
theorem OwnW.cell {w : World} {base g n cap : Nat} {l : List Nat} (h : OwnW w base (.slice (some ⟨g, 0, none⟩) n cap) l) (j : Nat) (hj : j < l.length) : w.cell? ⟨g, j, none⟩ = some (.int .u64 (l.getD j 0 : Nat)) ∧ w.frozen? ⟨g, j, none⟩ = false := by
  have hn : n = l.length := by
    rcases h.2 with ⟨h1, _⟩ | ⟨g, cap, cur, h1, _⟩
    · cases h1
    · injection h1
  subst hn
  have h' : w.ownsRow base 218 1 (.slice (some ⟨g, 0, none⟩) l.length cap) l.length (u64s l) := h
  refine ⟨?_, h'.frozenAt j⟩
  rw [h'.cellAt j (by omega)]
  simp [u64s, List.getElem?_eq_getElem hj, List.getD_eq_getElem?_getD]
/-- A word is stored. -/
theorem OwnW.put {w w0 : World} {base B g n cap : Nat} {l : List Nat} (h : OwnW w base (.slice (some ⟨g, 0, none⟩) n cap) l) (k x : Nat) (hB : B ≤ base) (hb : Below B w0 w) :
    OwnW (w.setCell ⟨g, k, none⟩ (.int .u64 (x : Int))) base (.slice (some ⟨g, 0, none⟩) n cap) (l.set k x) ∧ Below B w0 (w.setCell ⟨g, k, none⟩ (.int .u64 (x : Int))) := by
  have hn : n = l.length := by
    rcases h.2 with ⟨h1, _⟩ | ⟨g, cap, cur, h1, _⟩
    · cases h1
    · injection h1
  subst hn
  have h' : w.ownsRow base 218 1 (.slice (some ⟨g, 0, none⟩) l.length cap) l.length (u64s l) := h
  obtain ⟨h1, h2⟩ := h'.stored k (.int .u64 (x : Int))
  refine ⟨?_, hb.grown h2 ?_ ?_⟩
  · unfold OwnW; rw [List.length_set, u64s_set]; exact h1
  · have := (h'.lt g rfl); omega
  · intro q hq; injection hq with hq; subst hq; have := (h'.lt g rfl).1; omega
theorem val_u64 {a b : Int} (h : a = b) : Value.int .u64 a = .int .u64 b := by rw [h]

theorem modc (a : Nat) {z : Int} (h : z = a) : z % 1000000000 = ((a % bs : Nat) : Int) := by unfold bs; omega
theorem divc (a : Nat) {z : Int} (h : z = a) : z / 1000000000 = ((a / bs : Nat) : Int) := by unfold bs; omega
/-- '[]byte(s)': the bytes stand in a new block. -/
theorem conv_any (s : ByteArray) (w : World) : (convert 9 107 (.string s)).run Tryz.prog w = .ok (.slice (some ⟨w.heap.size, 0, none⟩) s.size (grownCap w s.size 0 5)) (w.drew.alloc (.cells (bytesRow s (grownCap w s.size 0 5)) 5 ((bytesRow s (grownCap w s.size 0 5)).size, (bytesRow s (grownCap w s.size 0 5)).size + 1))) :=
  run_bytes_of_string w _ _ _ s Tryz.underlying9 Tryz.underlying107 Tryz.underlying5
theorem bytesRow_get (s : ByteArray) (cap j : Nat) (h : j < s.size) : (bytesRow s cap)[j]? = some (.int .u8 (s.data.toList.getD j 0).toNat) := by
  have hs : s.data.size = s.size := rfl
  unfold bytesRow
  rw [Array.getElem?_append_left (by simp; omega)]
  simp [List.getD_eq_getElem?_getD, Array.getElem?_eq_getElem (show j < s.data.size by omega)]
theorem bytes_cell (s : ByteArray) (cap j : Nat) (w : World) (t : TypeId) (fr : Nat × Nat) (h : j < s.size) : (w.alloc (.cells (bytesRow s cap) t fr)).cell? ⟨w.heap.size, j, none⟩ = some (.int .u8 (s.data.toList.getD j 0).toNat) := by
  rw [cell_of_row _ w.heap.size j (bytesRow s cap) t fr (heap_alloc_new w _)]
  exact bytesRow_get s cap j h
end Go.Proofs.YtajkdllakleakaaGreatDoor
/- Package num: times. -/
namespace Go.Proofs.YtajkdllakleakaaGreatDoor
open Go.RowKit
set_option linter.unusedVariables false
set_option linter.unusedSimpArgs false

theorem wcell {w wr : World} {A : Option Addr} {l : List Nat} {n k : Nat} (h : 0 < n → ∃ b off, A = some ⟨b, off, none⟩ ∧ b < w.heap.size ∧ ∀ j, j < n → w.cell? ⟨b, off + j, none⟩ = some (.int .u64 (l.getD j 0 : Nat))) (hb : Below w.heap.size w wr) (hk : k < n) :
    ∃ b off, A = some ⟨b, off, none⟩ ∧ wr.cell? ⟨b, off + k, none⟩ = some (.int .u64 (l.getD k 0 : Nat)) := by
  obtain ⟨b1, o1, e, hb1, h1⟩ := h (by omega)
  exact ⟨b1, o1, e, (hb.cell (p := ⟨b1, o1 + k, none⟩) hb1).trans (h1 k hk)⟩
theorem mul_bd (x y : Nat) (hx : x < 1000000000) (hy : y < 1000000000) : 0 ≤ (x : Int) * (y : Int) ∧ (x : Int) * (y : Int) ≤ 999999998000000001 := by
  have h : x * y ≤ 999999999 * 999999999 := Nat.mul_le_mul (by omega) (by omega)
  rw [← Int.natCast_mul]
  omega
set_option maxRecDepth 100000 in
set_option maxHeartbeats 2000000 in
theorem times_any (la lb : List Nat) (u v : Value) (w : World) (ha : RdB w u la) (hb : RdB w v lb) (oa : okW la) (ob : okW lb) (na : la.length ≤ 100000) (nb : lb.length ≤ 100000) :
    Calls Tryz.prog 164 #[u, v] w (GivesB (wval la * wval lb) w) := by
  obtain ⟨A, c, rfl, hca, hra⟩ := ha
  obtain ⟨B, d, rfl, hcb, hrb⟩ := hb
  have HRA := Lib.hid hra
  have HRB := Lib.hid hrb
  have OA := Lib.hid oa
  have OB := Lib.hid ob
  clear hra hrb oa ob
  generalize hka : la.length = ka at *
  generalize hkb : lb.length = kb at *
  have KA := Lib.hid hka
  have KB := Lib.hid hkb
  have hmk := make_big (ka + kb) (by omega)
  rw [show ((ka + kb : Nat) : Int) = (ka : Int) + (kb : Int) by omega] at hmk
  have HOB := Lib.hid (own_big w w.heap.size (ka + kb) (Nat.le_refl _) (by omega))
  have HST := Lib.hid (times_start la lb)
  rw [hka, hkb] at HST
  clear hka hkb
  go_enter Tryz.func164, Tryz.ntmps164
  go_wp2
  clear hmk
  go_loopw [19] (fun i wr => ∃ (j : Nat) (o : List Nat), j ≤ ka ∧ i = .int .i64 j ∧ Hid (TimesI la lb j 0 o 0) ∧ Hid (OwnW wr w.heap.size (.slice (some ⟨w.heap.size, 0, none⟩) (ka + kb) (ka + kb)) o) ∧ Below w.heap.size w wr) (fun i _ => ka - (intOf i).toNat)
  case atStart => exact ⟨0, _, Nat.zero_le _, rfl, HST, HOB, (Below.refl _ _).alloc (Nat.le_refl _) _⟩
  case round =>
    obtain ⟨i, o, hi, rfl, HT, HO, hb⟩ := hrel
    by_cases hlt : i < ka
    · obtain ⟨b1, o1, rfl, c1⟩ := wcell HRA.out hb hlt
      have x1 : la.getD i 0 < 1000000000 := okW_get OA.out i
      generalize hx : la.getD i 0 = x at *
      have HX := Lib.hid hx
      clear hx
      go_wp2
      obtain ⟨wo, rfl⟩ : ∃ wo : World, wo = wr := ⟨_, rfl⟩
      go_loopw [8, 26] (fun cv k wq => ∃ (q cr : Nat) (o : List Nat), q ≤ kb ∧ k = .int .i64 q ∧ cv = .int .u64 (cr : Int) ∧ Hid (TimesI la lb i q o cr) ∧ Hid (OwnW wq w.heap.size (.slice (some ⟨w.heap.size, 0, none⟩) (ka + kb) (ka + kb)) o) ∧ Below w.heap.size w wq) (fun _ k _ => kb - (intOf k).toNat)
      case atStart => exact ⟨0, 0, o, Nat.zero_le _, rfl, rfl, HT, HO, hb⟩
      case round =>
        obtain ⟨q, cr, o', hq, rfl, rfl, HQ, HO', hbq⟩ := hrel
        have hol : o'.length = ka + kb := by have := HQ.out.1; rw [KA.out, KB.out] at this; exact this
        have hcr : cr < 1000000000 := HQ.out.2.2.1
        by_cases hqt : q < kb
        · obtain ⟨b2, o2, rfl, c2⟩ := wcell HRB.out hbq hqt
          have y1 : lb.getD q 0 < 1000000000 := okW_get OB.out q
          have v1 : o'.getD (i + q) 0 < 1000000000 := okW_get HQ.out.2.1 (i + q)
          obtain ⟨g1, g2⟩ := HO'.out.cell (i + q) (by omega)
          have HS := Lib.hid (times_step HQ.out OA.out OB.out (by rw [KA.out]; exact hlt) (by rw [KB.out]; exact hqt))
          have HPUT := Lib.hid (HO'.out.put (i + q) ((cr + (o'.getD (i + q) 0 + la.getD i 0 * lb.getD q 0)) % bs) (Nat.le_refl _) hbq)
          rw [HX.out] at HS HPUT
          have HOL := Lib.hid hol
          clear hol
          generalize lb.getD q 0 = y at *
          generalize o'.getD (i + q) 0 = ov at *
          obtain ⟨m0, m1⟩ := mul_bd x y x1 y1
          go_wp2
          go_roundw
          case rel =>
            refine ⟨q + 1, _, _, by omega, by go_num, ?_, HS, Lib.hid ?_, ?_⟩
            · exact vI (by rw [divc (cr + (ov + x * y))]; push_cast; omega)
            · rw [modc (cr + (ov + x * y))]
              · exact HPUT.out.1
              · push_cast; omega
            · rw [modc (cr + (ov + x * y))]
              · exact HPUT.out.2
              · push_cast; omega
          case measure => simp [intOf]; omega
        · obtain rfl : q = kb := by omega
          have v1 : o'.getD (i + q) 0 < 1000000000 := okW_get HQ.out.2.1 (i + q)
          obtain ⟨g1, g2⟩ := HO'.out.cell (i + q) (by omega)
          have HS := Lib.hid (times_row (by rw [KB.out]; exact HQ.out) (by rw [KA.out]; exact hlt))
          have HPUT := Lib.hid (HO'.out.put (i + q) (o'.getD (i + q) 0 + cr) (Nat.le_refl _) hbq)
          rw [KB.out] at HS
          have HOL := Lib.hid hol
          clear hol
          generalize o'.getD (i + q) 0 = ov at *
          go_wp2
          go_roundw
          case rel =>
            refine ⟨i + 1, _, by omega, by go_num, HS, Lib.hid ?_, ?_⟩
            · have := HPUT.out.1; push_cast at this; exact this
            · have := HPUT.out.2; push_cast at this; exact this
          case measure => simp [intOf]; omega
    · obtain rfl : i = ka := by omega
      have hend := times_end (by rw [KA.out]; exact HT.out) rfl
      have HE := Lib.hid hend
      clear hend
      have HOL := Lib.hid HT.out.1
      go_wp2_with fail
      refine (norm_any o _ wr HO.out.reads HT.out.2.1 (by have := HOL.out; rw [KA.out, KB.out] at this; omega)).mono ?_
      rintro e w1 ⟨u, rfl, hr, hob, rfl⟩
      have HOB2 := Lib.hid (fun k (hk : u.ownBlock = some k) => (World.ownsRow.lt HO.out k (hob ▸ hk)).1)
      clear hob
      rw [HE.out] at hr
      have HR := Lib.hid hr
      clear hr
      go_wp2
      go_ret
      exact ⟨_, rfl, HR.out, hb, HOB2.out⟩
end Go.Proofs.YtajkdllakleakaaGreatDoor
/- Rows of digits; slices.Reverse of bytes. -/
namespace Go.Proofs.YtajkdllakleakaaGreatDoor
open Go.RowKit
set_option linter.unusedVariables false
set_option linter.unusedSimpArgs false

/-- Digits as bytes. -/
def dbs (l : List Nat) : List Value := l.map fun (d : Nat) => .int .u8 ((48 + d : Nat) : Int)
theorem dbs_len (l : List Nat) : (dbs l).length = l.length := by simp [dbs]
theorem dbs_append (a b : List Nat) : dbs (a ++ b) = dbs a ++ dbs b := by simp [dbs]
theorem dbs_set (l : List Nat) (k x : Nat) : dbs (l.set k x) = (dbs l).set k (.int .u8 ((48 + x : Nat) : Int)) := by simp [dbs, List.map_set]
theorem info_u8 : (Tryz.prog.info? 5).map (fun i => (i.zero, i.size, i.bytes)) = some (some (.int .u8 0), 1, 1) := by kernel_rfl
def OwnD (w : World) (base : Nat) (v : Value) (l : List Nat) : Prop := w.ownsRow base 5 1 v l.length (dbs l)
theorem OwnD.below {w w1 : World} {base : Nat} {v : Value} {l : List Nat} (h : OwnD w base v l) (hb : Below w.heap.size w w1) : OwnD w1 base v l := ownB h hb
theorem OwnD.cell {w : World} {base g cap : Nat} {l : List Nat} (h : OwnD w base (.slice (some ⟨g, 0, none⟩) l.length cap) l) (j : Nat) (hj : j < l.length) : w.cell? ⟨g, j, none⟩ = some (.int .u8 ((48 + l.getD j 0 : Nat) : Int)) ∧ w.frozen? ⟨g, j, none⟩ = false := by
  have h' : w.ownsRow base 5 1 (.slice (some ⟨g, 0, none⟩) l.length cap) l.length (dbs l) := h
  refine ⟨?_, h'.frozenAt j⟩
  rw [h'.cellAt j (by omega)]
  simp [dbs, List.getElem?_eq_getElem hj, List.getD_eq_getElem?_getD]
theorem OwnD.put {w w0 : World} {base B g cap : Nat} {l : List Nat} (h : OwnD w base (.slice (some ⟨g, 0, none⟩) l.length cap) l) (k x : Nat) (hB : B ≤ base) (hb : Below B w0 w) :
    OwnD (w.setCell ⟨g, k, none⟩ (.int .u8 ((48 + x : Nat) : Int))) base (.slice (some ⟨g, 0, none⟩) (l.set k x).length cap) (l.set k x) ∧ Below B w0 (w.setCell ⟨g, k, none⟩ (.int .u8 ((48 + x : Nat) : Int))) := by
  have h' : w.ownsRow base 5 1 (.slice (some ⟨g, 0, none⟩) l.length cap) l.length (dbs l) := h
  obtain ⟨h1, h2⟩ := h'.stored k (.int .u8 ((48 + x : Nat) : Int))
  refine ⟨?_, hb.grown h2 ?_ ?_⟩
  · unfold OwnD; rw [List.length_set, dbs_set]; exact h1
  · have := (h'.lt g rfl); omega
  · intro q hq; injection hq with hq; subst hq; have := (h'.lt g rfl).1; omega
theorem OwnD.form {w : World} {base : Nat} {v : Value} {l : List Nat} (h : OwnD w base v l) (h0 : 0 < l.length) : ∃ g cap, v = .slice (some ⟨g, 0, none⟩) l.length cap := by
  obtain ⟨g, c, e, _⟩ := World.ownsRow.form h h0
  exact ⟨g, c, e⟩
theorem OwnD.cap {w : World} {base n g cap : Nat} {l : List Nat} (h : OwnD w base (.slice (some ⟨g, 0, none⟩) n cap) l) : l.length ≤ cap := by
  rcases h.2 with ⟨c, _⟩ | ⟨g', cap', cur, e1, _, _, e4, _⟩
  · cases c
  · injection e1 with _ e2 e3
    omega
/-- A row is cut at its end. -/
theorem own_cut {w : World} {base g n cap m : Nat} {e : TypeId} {xs : List Value} (h : w.ownsRow base e 1 (.slice (some ⟨g, 0, none⟩) n cap) n xs) (hm : m ≤ n) : w.ownsRow base e 1 (.slice (some ⟨g, 0, none⟩) m cap) m (xs.take m) := by
  obtain ⟨h1, h2⟩ := h
  rcases h2 with ⟨c, _⟩ | ⟨g', cap', cur, e1, e2, e3, e4, e5, e6, e7⟩
  · cases c
  · injection e1 with e1 _ ec
    injection e1 with e1
    injection e1 with e1
    subst e1 ec
    refine ⟨by rw [List.length_take]; omega, .inr ⟨g, cap, cur, rfl, e2, e3, by omega, e5, e6, ?_⟩⟩
    rw [← e7, List.take_take, Nat.min_eq_left (by omega), Nat.mul_one]
theorem OwnD.cut {w : World} {base g cap : Nat} {l : List Nat} (h : OwnD w base (.slice (some ⟨g, 0, none⟩) l.length cap) l) (m : Nat) (hm : m ≤ l.length) : OwnD w base (.slice (some ⟨g, 0, none⟩) m cap) (l.take m) := by
  have := own_cut h hm
  unfold OwnD
  rw [List.length_take, Nat.min_eq_left hm]
  simpa [dbs, List.map_take] using this

/-- A list that is reversed from both ends, up to place i. -/
def RevI (l : List Nat) (i : Nat) (t : List Nat) : Prop := t.length = l.length ∧ 2 * i ≤ l.length + 1 ∧ ∀ j, j < l.length → t.getD j 0 = if j < i ∨ l.length - i ≤ j then l.getD (l.length - 1 - j) 0 else l.getD j 0
theorem rev_start (l : List Nat) : RevI l 0 l := ⟨rfl, by omega, fun j hj => by rw [if_neg (by omega)]⟩
theorem getD_set (t : List Nat) (k x j : Nat) (hk : k < t.length) : (t.set k x).getD j 0 = if j = k then x else t.getD j 0 := by
  rw [List.getD_eq_getElem?_getD, List.getElem?_set, List.getD_eq_getElem?_getD]
  by_cases e : k = j
  · subst e; simp [hk]
  · rw [if_neg e, if_neg (fun c => e c.symm)]
theorem rev_step {l t : List Nat} {i : Nat} (h : RevI l i t) (hi : 2 * i + 1 < l.length) : RevI l (i + 1) ((t.set i (t.getD (l.length - 1 - i) 0)).set (l.length - 1 - i) (t.getD i 0)) := by
  obtain ⟨h1, h2, h3⟩ := h
  refine ⟨by simpa using h1, by omega, fun j hj => ?_⟩
  rw [getD_set _ _ _ _ (by simp; omega), getD_set _ _ _ _ (by omega)]
  by_cases e1 : j = l.length - 1 - i
  · rw [if_pos e1, if_pos (by omega), h3 i (by omega), if_neg (by omega)]
    congr 1; omega
  · rw [if_neg e1]
    by_cases e2 : j = i
    · rw [if_pos e2, if_pos (by omega), h3 _ (by omega), if_neg (by omega), e2]
    · rw [if_neg e2, h3 j hj]
      by_cases c : j < i ∨ l.length - i ≤ j
      · rw [if_pos c, if_pos (by omega)]
      · rw [if_neg c, if_neg (by omega)]
theorem rev_end {l t : List Nat} {i : Nat} (h : RevI l i t) (hi : l.length ≤ 2 * i + 1) : t = l.reverse := by
  obtain ⟨h1, h2, h3⟩ := h
  apply List.ext_getElem (by simpa using h1)
  intro j a b
  have hj : j < l.length := by omega
  have := h3 j hj
  rw [List.getD_eq_getElem?_getD, List.getElem?_eq_getElem a, Option.getD_some] at this
  rw [this, List.getElem_reverse]
  have e : l.getD (l.length - 1 - j) 0 = l[l.length - 1 - j]'(by omega) := by rw [List.getD_eq_getElem?_getD, List.getElem?_eq_getElem]; rfl
  by_cases c : j < i ∨ l.length - i ≤ j
  · rw [if_pos c, e]
  · rw [if_neg c, ← e]
    congr 1; omega

def RevQ (base g cap : Nat) (l : List Nat) (w0 : World) (e : Ending) (w' : World) : Prop := e = .returned (.tuple #[]) ∧ OwnD w' base (.slice (some ⟨g, 0, none⟩) l.length cap) l.reverse ∧ Below base w0 w'
set_option maxRecDepth 100000 in
set_option maxHeartbeats 1000000 in
theorem reverse_any (l : List Nat) (base g cap : Nat) (w0 w : World) (h : OwnD w base (.slice (some ⟨g, 0, none⟩) l.length cap) l) (hb : Below base w0 w) (hl : l.length ≤ 1000000) :
    Calls Tryz.prog 224 #[.slice (some ⟨g, 0, none⟩) l.length cap] w (RevQ base g cap l w0) := by
  have HO := Lib.hid h
  have HR := Lib.hid (rev_start l)
  clear h
  generalize hn : l.length = n at *
  have HN := Lib.hid hn
  clear hn
  go_enter Tryz.func224, Tryz.ntmps224
  go_wp2
  go_loopw [2, 3] (fun a b wr => ∃ (i : Nat) (t : List Nat), a = .int .i64 i ∧ b = .int .i64 ((n : Int) - 1 - i) ∧ Hid (RevI l i t) ∧ Hid (OwnD wr base (.slice (some ⟨g, 0, none⟩) n cap) t) ∧ Below base w0 wr) (fun a _ _ => n + 1 - (intOf a).toNat)
  case atStart => exact ⟨0, l, rfl, by simp, HR, HO, hb⟩
  case round =>
    obtain ⟨i, t, rfl, rfl, HI, HT, hbr⟩ := hrel
    have ht : t.length = n := HI.out.1.trans HN.out
    by_cases hlt : 2 * i + 1 < n
    · obtain ⟨j, hj⟩ : ∃ j, j = n - 1 - i := ⟨_, rfl⟩
      have hj1 : (n : Int) - 1 - i = (j : Int) := by omega
      have hij : i < j := by omega
      have hjn : j < n := by omega
      have HT' : OwnD wr base (.slice (some ⟨g, 0, none⟩) t.length cap) t := by rw [ht]; exact HT.out
      obtain ⟨g1, g2⟩ := HT'.cell i (by omega)
      obtain ⟨g3, g4⟩ := HT'.cell j (by omega)
      have HS := Lib.hid (rev_step HI.out (by have := HN.out; omega))
      rw [HN.out, ← hj] at HS
      obtain ⟨p1, p2⟩ := HT'.put i (t.getD j 0) (Nat.le_refl _) hbr
      have HP1 := Lib.hid (p1.put j (t.getD i 0) (Nat.le_refl _) p2)
      obtain ⟨p3, p4⟩ := HT'.put j (t.getD i 0) (Nat.le_refl _) hbr
      have HP2 := Lib.hid (p3.put i (t.getD j 0) (Nat.le_refl _) p4)
      rw [List.set_comm _ _ (by omega)] at HP2
      simp only [List.length_set] at HP1 HP2
      rw [ht] at HP1 HP2
      clear p1 p2 p3 p4 HT'
      have HJ := Lib.hid hj
      have HT2 := Lib.hid ht
      generalize hx : t.getD i 0 = x at *
      generalize hy : t.getD j 0 = y at *
      clear hx hy ht hj
      rw [hj1]
      clear hj1
      go_wp2
      go_region
      go_wp2
      go_roundw
      case rel =>
        have hp := HP1.out
        push_cast at hp
        exact ⟨i + 1, _, by go_num, vI (by have := HJ.out; omega), HS, Lib.hid (OwnD.below hp.1 ((Below.refl _ _).drew)), hp.2.drew⟩
      case measure => simp [intOf]; omega
    · have HE := Lib.hid (rev_end HI.out (by have := HN.out; omega))
      go_wp2
      go_end0
      exact ⟨rfl, by rw [← HE.out, HN.out]; exact HT.out, hbr⟩
end Go.Proofs.YtajkdllakleakaaGreatDoor
