/- Package num: numbers in words: norm and cmp. -/
import Derived.Test.YtahidclhplmkiaaGreatDoorM1
import Derived.Test.YtahidclhplmkiaaGreatDoorM6
import Derived.RegionTactic
import Derived.ChangeAlike
import Derived.Deep.RegionLaw
import Derived.Deep.RegionLawGrows
namespace Go.Proofs.YtahidclhplmkiaaGreatDoor
open Go.RowKit
set_option linter.unusedVariables false
set_option linter.unusedSimpArgs false

def u64s (l : List Nat) : List Value := l.map fun (x : Nat) => .int .u64 (x : Int)
/-- A slice of words reads as a list. -/
def RdB (w : World) (v : Value) (l : List Nat) : Prop :=
  ∃ A c, v = .slice A l.length c ∧ l.length ≤ c ∧ (0 < l.length → ∃ b off, A = some ⟨b, off, none⟩ ∧ b < w.heap.size ∧ ∀ j, j < l.length → w.cell? ⟨b, off + j, none⟩ = some (.int .u64 (l.getD j 0 : Nat)))
theorem RdB.below {w w1 : World} {v : Value} {l : List Nat} (h : RdB w v l) (hb : Below w.heap.size w w1) : RdB w1 v l := by
  obtain ⟨A, c, e, hc, h⟩ := h
  refine ⟨A, c, e, hc, fun hn => ?_⟩
  obtain ⟨b, off, e, hlt, hc⟩ := h hn
  have hs := hb.size
  exact ⟨b, off, e, by omega, fun j hj => (hb.cell (p := ⟨b, _, none⟩) hlt).trans (hc j hj)⟩
theorem RdB.store {w : World} {v x : Value} {l : List Nat} {p : Addr} (h : RdB w v l) (hp : ∀ k, v.ownBlock = some k → p.block ≠ k) : RdB (w.setCell p x) v l := by
  obtain ⟨A, c, rfl, hc, h⟩ := h
  refine ⟨A, c, rfl, hc, fun hn => ?_⟩
  obtain ⟨b, off, rfl, hlt, hc⟩ := h hn
  have hne := hp b rfl
  refine ⟨b, off, rfl, by simpa [World.setCell] using hlt, fun j hj => ?_⟩
  rw [st_other (fun e => hne (by rw [e]))]
  exact hc j hj
theorem RdB.drawn {w : World} {v : Value} {l : List Nat} (h : RdB w v l) (n : Nat) : RdB (w.drewN n) v l := h.below (bel_dn (Below.refl _ _) n)
/-- What a call hands back: a number. -/
def GivesB (n : Nat) (w : World) (e : Ending) (w' : World) : Prop := ∃ v, e = .returned v ∧ RdB w' v (words n) ∧ Below w.heap.size w w' ∧ ∀ k, v.ownBlock = some k → w.heap.size ≤ k


theorem ownBlock_same (A : Option Addr) (n c m d : Nat) : (Value.slice A n c).ownBlock = (Value.slice A m d).ownBlock := by cases A <;> rfl
set_option maxRecDepth 100000 in
theorem norm_any (l : List Nat) (v : Value) (w : World) (h : RdB w v l) (ho : okW l) (hn : l.length ≤ 1000000) :
    Calls Tryz.prog 176 #[v] w fun e w' => ∃ u, e = .returned u ∧ RdB w u (words (wval l)) ∧ u.ownBlock = v.ownBlock ∧ w = w' := by
  obtain ⟨A, c, rfl, hc, hr⟩ := h
  have HO := Lib.hid ho
  clear ho
  have hfin : ∀ m, m ≤ l.length → wval (l.take m) = wval l → (∀ k, m = k + 1 → l.getD k 0 ≠ 0) → RdB w (.slice A m c) (words (wval l)) := by
    intro m hm hv he
    have e := norm_end l m HO.out hm hv he
    rw [← e]
    have hl : (l.take m).length = m := by rw [List.length_take]; omega
    refine ⟨A, c, by rw [hl], by omega, fun h0 => ?_⟩
    obtain ⟨b, off, e1, e2, e3⟩ := hr (by omega)
    refine ⟨b, off, e1, e2, fun j hj => ?_⟩
    rw [e3 j (by omega), List.getD_eq_getElem?_getD, List.getD_eq_getElem?_getD, List.getElem?_take, if_pos (by omega)]
  have HF := Lib.hid hfin
  have HR := Lib.hid hr
  clear hfin hr
  generalize hgn : l.length = n at *
  have HN := Lib.hid hgn
  clear hgn
  go_enter Tryz.func176, Tryz.ntmps176
  go_wp2
  go_loop [0] (fun a => ∃ m : Nat, m ≤ n ∧ a = .slice A m c ∧ Hid (wval (l.take m) = wval l)) (fun a => lenOf a)
  case atStart => exact ⟨n, Nat.le_refl _, rfl, Lib.hid (by rw [List.take_of_length_le (by have := HN.out; omega)])⟩
  case round =>
    obtain ⟨m, hm, rfl, HV⟩ := hrel
    rcases m with _ | m
    · go_wp2
      go_ret
      exact ⟨_, rfl, HF.out 0 (Nat.zero_le _) HV.out (fun k hk => by omega), ownBlock_same _ _ _ _ _, rfl⟩
    · obtain ⟨b, off, rfl, hb, hcell⟩ := HR.out (by omega)
      have g := hcell m (by omega)
      clear hcell
      generalize hx : l.getD m 0 = x at g
      have HX := Lib.hid hx
      clear hx
      by_cases h0 : x = 0
      · subst h0
        go_wp2
        go_round
        case rel => exact ⟨m, by omega, rfl, Lib.hid (norm_step l m (by have := HN.out; omega) HV.out HX.out)⟩
        case measure => simp [lenOf]
      · have hx1 : ((x : Int) == 0) = false := by simp; omega
        have hne : ∀ k, m + 1 = k + 1 → l.getD k 0 ≠ 0 := by
          intro k hk
          obtain rfl : m = k := by omega
          rw [HX.out]; exact h0
        have HNE := Lib.hid hne
        clear hne
        go_wp2
        go_ret
        exact ⟨_, rfl, HF.out (m + 1) hm HV.out HNE.out, ownBlock_same _ _ _ _ _, rfl⟩

/-- How two numbers compare, as an int tells. -/
def CmpI (n m : Nat) (z : Int) : Prop := (z < 0 ↔ n < m) ∧ (z = 0 ↔ n = m)
theorem CmpI.gt {n m : Nat} {z : Int} (h : CmpI n m z) : 0 < z ↔ m < n := by obtain ⟨h1, h2⟩ := h; omega
theorem cmp_len {a b : Nat} (h : (words a).length ≠ (words b).length) : CmpI a b ((words a).length - (words b).length) := by
  rcases Nat.lt_or_ge (words a).length (words b).length with e | e
  · have := lt_of_len e; exact ⟨by omega, by omega⟩
  · have := lt_of_len (n := b) (m := a) (by omega); exact ⟨by omega, by omega⟩
theorem cmp_word {a b : Nat} {i : Nat} (h1 : i < (words a).length) (h2 : i < (words b).length) (hd : (words a).drop (i + 1) = (words b).drop (i + 1)) (h : (words a).getD i 0 ≠ (words b).getD i 0) :
    CmpI a b (((words a).getD i 0 : Nat) - ((words b).getD i 0 : Nat)) := by
  rcases Nat.lt_or_ge ((words a).getD i 0) ((words b).getD i 0) with e | e
  · have := lt_of_word (okW_words a) (okW_words b) i h1 h2 hd e
    rw [wval_words, wval_words] at this
    exact ⟨by omega, by omega⟩
  · have := lt_of_word (okW_words b) (okW_words a) i h2 h1 hd.symm (by omega)
    rw [wval_words, wval_words] at this
    exact ⟨by omega, by omega⟩
theorem cmp_same {a b : Nat} (h : words a = words b) : CmpI a b 0 := by
  have : a = b := by rw [← wval_words a, h, wval_words]
  subst this
  exact ⟨by omega, by omega⟩

def CmpQ (n m : Nat) (w : World) (e : Ending) (w' : World) : Prop := ∃ z : Int, e = .returned (.int .i64 z) ∧ CmpI n m z ∧ Below w.heap.size w w'
set_option maxRecDepth 100000 in
theorem cmp_any (a b : Nat) (u v : Value) (w : World) (ha : RdB w u (words a)) (hb : RdB w v (words b)) (hla : (words a).length ≤ 1000000) (hlb : (words b).length ≤ 1000000) :
    Calls Tryz.prog 177 #[u, v] w (CmpQ a b w) := by
  obtain ⟨A, c, rfl, hca, hra⟩ := ha
  obtain ⟨B, d, rfl, hcb, hrb⟩ := hb
  have HRA := Lib.hid hra
  have HRB := Lib.hid hrb
  clear hra hrb
  by_cases hlen : (words a).length = (words b).length
  · have HL := Lib.hid hlen
    rw [← hlen] at HRB hlb hcb ⊢
    clear hlen
    generalize hgn : (words a).length = n at *
    have HN := Lib.hid hgn
    clear hgn
    go_enter Tryz.func177, Tryz.ntmps177
    go_wp2
    go_loopw [5] (fun i wr => ∃ k : Nat, k ≤ n ∧ i = .int .i64 ((k : Int) - 1) ∧ Hid ((words a).drop k = (words b).drop k) ∧ Below w.heap.size w wr) (fun i _ => (intOf i + 1).toNat)
    case atStart => exact ⟨n, Nat.le_refl _, rfl, Lib.hid (by rw [List.drop_of_length_le (by have := HN.out; omega), List.drop_of_length_le (by have := HN.out; have := HL.out; omega)]), Below.refl _ _⟩
    case round =>
      obtain ⟨k, hk, rfl, HD, hbw⟩ := hrel
      rcases k with _ | k
      · go_wp2
        go_ret
        exact ⟨0, rfl, cmp_same HD.out, hbw⟩
      · obtain ⟨b1, o1, rfl, q1, k1⟩ := HRA.out (by omega)
        obtain ⟨b2, o2, rfl, q2, k2⟩ := HRB.out (by omega)
        have g1 := (hbw.cell (p := ⟨b1, o1 + k, none⟩) q1).trans (k1 k (by omega))
        have g2 := (hbw.cell (p := ⟨b2, o2 + k, none⟩) q2).trans (k2 k (by omega))
        clear k1 k2
        have hk1 : ((k + 1 : Nat) : Int) - 1 = (k : Int) := by omega
        rw [hk1]
        have hx := Lib.hid (okW_get (okW_words a) k)
        have hy := Lib.hid (okW_get (okW_words b) k)
        have hw := fun h => cmp_word (a := a) (b := b) (i := k) (by have := HN.out; omega) (by have := HN.out; have := HL.out; omega) HD.out h
        generalize hgx : (words a).getD k 0 = x at *
        generalize hgy : (words b).getD k 0 = y at *
        have HX := Lib.hid hgx
        have HY := Lib.hid hgy
        have HW := Lib.hid hw
        clear hgx hgy hw hk1
        have hx1 : x < 1000000000 := hx.out
        have hy1 : y < 1000000000 := hy.out
        by_cases hxy : x = y
        · subst hxy
          go_wp2
          go_quiet (fail)
          go_wp2
          go_roundw
          case rel =>
            refine ⟨k, by omega, rfl, Lib.hid ?_, bel_dn hbw _⟩
            have q1 : k < (words a).length := by have := HN.out; omega
            have q2 : k < (words b).length := by have := HN.out; have := HL.out; omega
            rw [List.drop_eq_getElem_cons q1, List.drop_eq_getElem_cons q2, HD.out]
            congr 1
            have e1 := HX.out
            have e2 := HY.out
            rw [List.getD_eq_getElem?_getD, List.getElem?_eq_getElem q1] at e1
            rw [List.getD_eq_getElem?_getD, List.getElem?_eq_getElem q2] at e2
            exact e1.trans e2.symm
          case measure => simp [intOf]
        · have hne : ((x : Int) != (y : Int)) = true := by simp; omega
          go_wp2
          go_quiet (fail)
          go_wp2
          go_quiet (fail)
          go_wp2
          go_ret
          exact ⟨_, rfl, HW.out hxy, bel_dn (bel_dn hbw _) _⟩
  · have hbl : (((words a).length : Int) != ((words b).length : Int)) = true := by simp; omega
    have HC := Lib.hid (cmp_len hlen)
    clear hlen
    go_enter Tryz.func177, Tryz.ntmps177
    go_wp2
    go_ret
    exact ⟨_, rfl, HC.out, Below.refl _ _⟩
end Go.Proofs.YtahidclhplmkiaaGreatDoor
/- Package num: rows of words that a call has made. -/


namespace Go.Proofs.YtahidclhplmkiaaGreatDoor
open Go.RowKit
set_option linter.unusedVariables false
set_option linter.unusedSimpArgs false

theorem u64s_len (l : List Nat) : (u64s l).length = l.length := by simp [u64s]
theorem u64s_append (a b : List Nat) : u64s (a ++ b) = u64s a ++ u64s b := by simp [u64s]
theorem u64s_set (l : List Nat) (k x : Nat) : u64s (l.set k x) = (u64s l).set k (.int .u64 (x : Int)) := by simp [u64s, List.map_set]
theorem info_u64 : (Tryz.prog.info? 155).map (fun i => (i.zero, i.size, i.bytes)) = some (some (.int .u64 0), 1, 8) := by kernel_rfl
theorem make_big (m : Nat) (hm : m ≤ 1000000) : ∀ W : World, (Instr.makeSlice 131 (.int .i64 (m : Int)) (.int .i64 (m : Int))).run Tryz.prog W = .ok (.slice (some ⟨W.heap.size, 0, none⟩) m m) (W.alloc (.cells (madeCells #[.int .u64 0] m) 155)) := by
  intro W
  exact run_make_row' 131 155 (.int .u64 0) 8 Tryz.underlying131 info_u64 rfl .i64 .i64 m (by omega) (by omega) W
/-- A row of words of the call's own. -/
def OwnW (w : World) (base : Nat) (v : Value) (l : List Nat) : Prop := w.ownsRow base 155 1 v l.length (u64s l)
theorem own_big (W : World) (base m : Nat) (hb : base ≤ W.heap.size) (hm : m ≤ 1000000) :
    OwnW (W.alloc (.cells (madeCells #[.int .u64 0] m) 155)) base (.slice (some ⟨W.heap.size, 0, none⟩) m m) (List.replicate m 0) := by
  have := World.ownsRow_lit (base := base) (e := 155) (size := 1) W (madeCells #[.int .u64 0] m) m hb (by simp only [maxLen]; omega) (by simp [madeCells])
  have hl : (madeCells #[Value.int .u64 0] m).toList = u64s (List.replicate m 0) := by
    apply List.ext_getElem
    · simp [u64s, madeCells]
    · intro i h1 h2
      simp [u64s, madeCells, Nat.mod_one]
  unfold OwnW
  rw [List.length_replicate]
  rwa [hl] at this
theorem OwnW.below {w w1 : World} {base : Nat} {v : Value} {l : List Nat} (h : OwnW w base v l) (hb : Below w.heap.size w w1) : OwnW w1 base v l := ownB h hb
theorem OwnW.reads {w : World} {base : Nat} {v : Value} {l : List Nat} (h : OwnW w base v l) : RdB w v l := by
  rcases h.2 with ⟨rfl, h1⟩ | ⟨g, cap, cur, rfl, _, hh, hc, _⟩
  · exact ⟨none, 0, by rw [h1], by omega, fun hp => absurd hp (by omega)⟩
  · refine ⟨_, cap, rfl, hc, fun h0 => ⟨g, 0, rfl, (h.lt g rfl).2, fun j hj => ?_⟩⟩
    have h' : w.ownsRow base 155 1 (.slice (some ⟨g, 0, none⟩) l.length cap) l.length (u64s l) := h
    rw [Nat.zero_add, h'.cellAt j (by omega)]
    simp [u64s, List.getElem?_eq_getElem hj, List.getD_eq_getElem?_getD]
theorem OwnW.cell {w : World} {base g n cap : Nat} {l : List Nat} (h : OwnW w base (.slice (some ⟨g, 0, none⟩) n cap) l) (j : Nat) (hj : j < l.length) : w.cell? ⟨g, j, none⟩ = some (.int .u64 (l.getD j 0 : Nat)) ∧ w.frozen? ⟨g, j, none⟩ = false := by
  have hn : n = l.length := by
    rcases h.2 with ⟨h1, _⟩ | ⟨g, cap, cur, h1, _⟩
    · cases h1
    · injection h1
  subst hn
  have h' : w.ownsRow base 155 1 (.slice (some ⟨g, 0, none⟩) l.length cap) l.length (u64s l) := h
  refine ⟨?_, h'.frozenAt j⟩
  rw [h'.cellAt j (by omega)]
  simp [u64s, List.getElem?_eq_getElem hj, List.getD_eq_getElem?_getD]
/-- A word is stored. -/
theorem OwnW.put {w w0 : World} {base B g n cap : Nat} {l : List Nat} (h : OwnW w base (.slice (some ⟨g, 0, none⟩) n cap) l) (k x : Nat) (hB : B ≤ base) (hb : Below B w0 w) :
    OwnW (w.setCell ⟨g, k, none⟩ (.int .u64 (x : Int))) base (.slice (some ⟨g, 0, none⟩) n cap) (l.set k x) ∧ Below B w0 (w.setCell ⟨g, k, none⟩ (.int .u64 (x : Int))) := by
  have hn : n = l.length := by
    rcases h.2 with ⟨h1, _⟩ | ⟨g, cap, cur, h1, _⟩
    · cases h1
    · injection h1
  subst hn
  have h' : w.ownsRow base 155 1 (.slice (some ⟨g, 0, none⟩) l.length cap) l.length (u64s l) := h
  obtain ⟨h1, h2⟩ := h'.stored k (.int .u64 (x : Int))
  refine ⟨?_, hb.grown h2 ?_ ?_⟩
  · unfold OwnW; rw [List.length_set, u64s_set]; exact h1
  · have := (h'.lt g rfl); omega
  · intro q hq; injection hq with hq; subst hq; have := (h'.lt g rfl).1; omega
theorem val_u64 {a b : Int} (h : a = b) : Value.int .u64 a = .int .u64 b := by rw [h]

theorem modc (a : Nat) {z : Int} (h : z = a) : z % 1000000000 = ((a % bs : Nat) : Int) := by unfold bs; omega
theorem divc (a : Nat) {z : Int} (h : z = a) : z / 1000000000 = ((a / bs : Nat) : Int) := by unfold bs; omega
/-- '[]byte(s)': the bytes stand in a new block. -/
theorem conv_any (s : ByteArray) (w : World) : (convert 9 178 (.string s)).run Tryz.prog w = .ok (.slice (some ⟨w.heap.size, 0, none⟩) s.size (grownCap w s.size 0 5)) (w.drew.alloc (.cells (bytesRow s (grownCap w s.size 0 5)) 5 ((bytesRow s (grownCap w s.size 0 5)).size, (bytesRow s (grownCap w s.size 0 5)).size + 1))) :=
  run_bytes_of_string w _ _ _ s Tryz.underlying9 Tryz.underlying178 Tryz.underlying5
theorem bytesRow_get (s : ByteArray) (cap j : Nat) (h : j < s.size) : (bytesRow s cap)[j]? = some (.int .u8 (s.data.toList.getD j 0).toNat) := by
  have hs : s.data.size = s.size := rfl
  unfold bytesRow
  rw [Array.getElem?_append_left (by simp; omega)]
  simp [List.getD_eq_getElem?_getD, Array.getElem?_eq_getElem (show j < s.data.size by omega)]
theorem bytes_cell (s : ByteArray) (cap j : Nat) (w : World) (t : TypeId) (fr : Nat × Nat) (h : j < s.size) : (w.alloc (.cells (bytesRow s cap) t fr)).cell? ⟨w.heap.size, j, none⟩ = some (.int .u8 (s.data.toList.getD j 0).toNat) := by
  rw [cell_of_row _ w.heap.size j (bytesRow s cap) t fr (heap_alloc_new w _)]
  exact bytesRow_get s cap j h
end Go.Proofs.YtahidclhplmkiaaGreatDoor
/- Package num: times. -/
namespace Go.Proofs.YtahidclhplmkiaaGreatDoor
open Go.RowKit
set_option linter.unusedVariables false
set_option linter.unusedSimpArgs false

theorem wcell {w wr : World} {A : Option Addr} {l : List Nat} {n k : Nat} (h : 0 < n → ∃ b off, A = some ⟨b, off, none⟩ ∧ b < w.heap.size ∧ ∀ j, j < n → w.cell? ⟨b, off + j, none⟩ = some (.int .u64 (l.getD j 0 : Nat))) (hb : Below w.heap.size w wr) (hk : k < n) :
    ∃ b off, A = some ⟨b, off, none⟩ ∧ wr.cell? ⟨b, off + k, none⟩ = some (.int .u64 (l.getD k 0 : Nat)) := by
  obtain ⟨b1, o1, e, hb1, h1⟩ := h (by omega)
  exact ⟨b1, o1, e, (hb.cell (p := ⟨b1, o1 + k, none⟩) hb1).trans (h1 k hk)⟩
theorem mul_bd (x y : Nat) (hx : x < 1000000000) (hy : y < 1000000000) : 0 ≤ (x : Int) * (y : Int) ∧ (x : Int) * (y : Int) ≤ 999999998000000001 := by
  have h : x * y ≤ 999999999 * 999999999 := Nat.mul_le_mul (by omega) (by omega)
  rw [← Int.natCast_mul]
  omega
set_option maxRecDepth 100000 in
set_option maxHeartbeats 2000000 in
theorem times_any (la lb : List Nat) (u v : Value) (w : World) (ha : RdB w u la) (hb : RdB w v lb) (oa : okW la) (ob : okW lb) (na : la.length ≤ 100000) (nb : lb.length ≤ 100000) :
    Calls Tryz.prog 125 #[u, v] w (GivesB (wval la * wval lb) w) := by
  obtain ⟨A, c, rfl, hca, hra⟩ := ha
  obtain ⟨B, d, rfl, hcb, hrb⟩ := hb
  have HRA := Lib.hid hra
  have HRB := Lib.hid hrb
  have OA := Lib.hid oa
  have OB := Lib.hid ob
  clear hra hrb oa ob
  generalize hka : la.length = ka at *
  generalize hkb : lb.length = kb at *
  have KA := Lib.hid hka
  have KB := Lib.hid hkb
  have hmk := make_big (ka + kb) (by omega)
  rw [show ((ka + kb : Nat) : Int) = (ka : Int) + (kb : Int) by omega] at hmk
  have HOB := Lib.hid (own_big w w.heap.size (ka + kb) (Nat.le_refl _) (by omega))
  have HST := Lib.hid (times_start la lb)
  rw [hka, hkb] at HST
  clear hka hkb
  go_enter Tryz.func125, Tryz.ntmps125
  go_wp2
  clear hmk
  go_loopw [19] (fun i wr => ∃ (j : Nat) (o : List Nat), j ≤ ka ∧ i = .int .i64 j ∧ Hid (TimesI la lb j 0 o 0) ∧ Hid (OwnW wr w.heap.size (.slice (some ⟨w.heap.size, 0, none⟩) (ka + kb) (ka + kb)) o) ∧ Below w.heap.size w wr) (fun i _ => ka - (intOf i).toNat)
  case atStart => exact ⟨0, _, Nat.zero_le _, rfl, HST, HOB, (Below.refl _ _).alloc (Nat.le_refl _) _⟩
  case round =>
    obtain ⟨i, o, hi, rfl, HT, HO, hb⟩ := hrel
    by_cases hlt : i < ka
    · obtain ⟨b1, o1, rfl, c1⟩ := wcell HRA.out hb hlt
      have x1 : la.getD i 0 < 1000000000 := okW_get OA.out i
      generalize hx : la.getD i 0 = x at *
      have HX := Lib.hid hx
      clear hx
      go_wp2
      obtain ⟨wo, rfl⟩ : ∃ wo : World, wo = wr := ⟨_, rfl⟩
      go_loopw [8, 26] (fun cv k wq => ∃ (q cr : Nat) (o : List Nat), q ≤ kb ∧ k = .int .i64 q ∧ cv = .int .u64 (cr : Int) ∧ Hid (TimesI la lb i q o cr) ∧ Hid (OwnW wq w.heap.size (.slice (some ⟨w.heap.size, 0, none⟩) (ka + kb) (ka + kb)) o) ∧ Below w.heap.size w wq) (fun _ k _ => kb - (intOf k).toNat)
      case atStart => exact ⟨0, 0, o, Nat.zero_le _, rfl, rfl, HT, HO, hb⟩
      case round =>
        obtain ⟨q, cr, o', hq, rfl, rfl, HQ, HO', hbq⟩ := hrel
        have hol : o'.length = ka + kb := by have := HQ.out.1; rw [KA.out, KB.out] at this; exact this
        have hcr : cr < 1000000000 := HQ.out.2.2.1
        by_cases hqt : q < kb
        · obtain ⟨b2, o2, rfl, c2⟩ := wcell HRB.out hbq hqt
          have y1 : lb.getD q 0 < 1000000000 := okW_get OB.out q
          have v1 : o'.getD (i + q) 0 < 1000000000 := okW_get HQ.out.2.1 (i + q)
          obtain ⟨g1, g2⟩ := HO'.out.cell (i + q) (by omega)
          have HS := Lib.hid (times_step HQ.out OA.out OB.out (by rw [KA.out]; exact hlt) (by rw [KB.out]; exact hqt))
          have HPUT := Lib.hid (HO'.out.put (i + q) ((cr + (o'.getD (i + q) 0 + la.getD i 0 * lb.getD q 0)) % bs) (Nat.le_refl _) hbq)
          rw [HX.out] at HS HPUT
          have HOL := Lib.hid hol
          clear hol
          generalize lb.getD q 0 = y at *
          generalize o'.getD (i + q) 0 = ov at *
          obtain ⟨m0, m1⟩ := mul_bd x y x1 y1
          go_wp2
          go_roundw
          case rel =>
            refine ⟨q + 1, _, _, by omega, by go_num, ?_, HS, Lib.hid ?_, ?_⟩
            · exact vI (by rw [divc (cr + (ov + x * y))]; push_cast; omega)
            · rw [modc (cr + (ov + x * y))]
              · exact HPUT.out.1
              · push_cast; omega
            · rw [modc (cr + (ov + x * y))]
              · exact HPUT.out.2
              · push_cast; omega
          case measure => simp [intOf]; omega
        · obtain rfl : q = kb := by omega
          have v1 : o'.getD (i + q) 0 < 1000000000 := okW_get HQ.out.2.1 (i + q)
          obtain ⟨g1, g2⟩ := HO'.out.cell (i + q) (by omega)
          have HS := Lib.hid (times_row (by rw [KB.out]; exact HQ.out) (by rw [KA.out]; exact hlt))
          have HPUT := Lib.hid (HO'.out.put (i + q) (o'.getD (i + q) 0 + cr) (Nat.le_refl _) hbq)
          rw [KB.out] at HS
          have HOL := Lib.hid hol
          clear hol
          generalize o'.getD (i + q) 0 = ov at *
          go_wp2
          go_roundw
          case rel =>
            refine ⟨i + 1, _, by omega, by go_num, HS, Lib.hid ?_, ?_⟩
            · have := HPUT.out.1; push_cast at this; exact this
            · have := HPUT.out.2; push_cast at this; exact this
          case measure => simp [intOf]; omega
    · obtain rfl : i = ka := by omega
      have hend := times_end (by rw [KA.out]; exact HT.out) rfl
      have HE := Lib.hid hend
      clear hend
      have HOL := Lib.hid HT.out.1
      go_wp2_with fail
      refine (norm_any o _ wr HO.out.reads HT.out.2.1 (by have := HOL.out; rw [KA.out, KB.out] at this; omega)).mono ?_
      rintro e w1 ⟨u, rfl, hr, hob, rfl⟩
      have HOB2 := Lib.hid (fun k (hk : u.ownBlock = some k) => (World.ownsRow.lt HO.out k (hob ▸ hk)).1)
      clear hob
      rw [HE.out] at hr
      have HR := Lib.hid hr
      clear hr
      go_wp2
      go_ret
      exact ⟨_, rfl, HR.out, hb, HOB2.out⟩
end Go.Proofs.YtahidclhplmkiaaGreatDoor
/- Rows of digits; slices.Reverse of bytes. -/
namespace Go.Proofs.YtahidclhplmkiaaGreatDoor
open Go.RowKit
set_option linter.unusedVariables false
set_option linter.unusedSimpArgs false

/-- Digits as bytes. -/
def dbs (l : List Nat) : List Value := l.map fun (d : Nat) => .int .u8 ((48 + d : Nat) : Int)
theorem dbs_len (l : List Nat) : (dbs l).length = l.length := by simp [dbs]
theorem dbs_append (a b : List Nat) : dbs (a ++ b) = dbs a ++ dbs b := by simp [dbs]
theorem dbs_set (l : List Nat) (k x : Nat) : dbs (l.set k x) = (dbs l).set k (.int .u8 ((48 + x : Nat) : Int)) := by simp [dbs, List.map_set]
theorem info_u8 : (Tryz.prog.info? 5).map (fun i => (i.zero, i.size, i.bytes)) = some (some (.int .u8 0), 1, 1) := by kernel_rfl
def OwnD (w : World) (base : Nat) (v : Value) (l : List Nat) : Prop := w.ownsRow base 5 1 v l.length (dbs l)
theorem OwnD.below {w w1 : World} {base : Nat} {v : Value} {l : List Nat} (h : OwnD w base v l) (hb : Below w.heap.size w w1) : OwnD w1 base v l := ownB h hb
theorem OwnD.cell {w : World} {base g cap : Nat} {l : List Nat} (h : OwnD w base (.slice (some ⟨g, 0, none⟩) l.length cap) l) (j : Nat) (hj : j < l.length) : w.cell? ⟨g, j, none⟩ = some (.int .u8 ((48 + l.getD j 0 : Nat) : Int)) ∧ w.frozen? ⟨g, j, none⟩ = false := by
  have h' : w.ownsRow base 5 1 (.slice (some ⟨g, 0, none⟩) l.length cap) l.length (dbs l) := h
  refine ⟨?_, h'.frozenAt j⟩
  rw [h'.cellAt j (by omega)]
  simp [dbs, List.getElem?_eq_getElem hj, List.getD_eq_getElem?_getD]
theorem OwnD.put {w w0 : World} {base B g cap : Nat} {l : List Nat} (h : OwnD w base (.slice (some ⟨g, 0, none⟩) l.length cap) l) (k x : Nat) (hB : B ≤ base) (hb : Below B w0 w) :
    OwnD (w.setCell ⟨g, k, none⟩ (.int .u8 ((48 + x : Nat) : Int))) base (.slice (some ⟨g, 0, none⟩) (l.set k x).length cap) (l.set k x) ∧ Below B w0 (w.setCell ⟨g, k, none⟩ (.int .u8 ((48 + x : Nat) : Int))) := by
  have h' : w.ownsRow base 5 1 (.slice (some ⟨g, 0, none⟩) l.length cap) l.length (dbs l) := h
  obtain ⟨h1, h2⟩ := h'.stored k (.int .u8 ((48 + x : Nat) : Int))
  refine ⟨?_, hb.grown h2 ?_ ?_⟩
  · unfold OwnD; rw [List.length_set, dbs_set]; exact h1
  · have := (h'.lt g rfl); omega
  · intro q hq; injection hq with hq; subst hq; have := (h'.lt g rfl).1; omega
theorem OwnD.form {w : World} {base : Nat} {v : Value} {l : List Nat} (h : OwnD w base v l) (h0 : 0 < l.length) : ∃ g cap, v = .slice (some ⟨g, 0, none⟩) l.length cap := by
  obtain ⟨g, c, e, _⟩ := World.ownsRow.form h h0
  exact ⟨g, c, e⟩
theorem OwnD.cap {w : World} {base n g cap : Nat} {l : List Nat} (h : OwnD w base (.slice (some ⟨g, 0, none⟩) n cap) l) : l.length ≤ cap := by
  rcases h.2 with ⟨c, _⟩ | ⟨g', cap', cur, e1, _, _, e4, _⟩
  · cases c
  · injection e1 with _ e2 e3
    omega
/-- A row is cut at its end. -/
theorem own_cut {w : World} {base g n cap m : Nat} {e : TypeId} {xs : List Value} (h : w.ownsRow base e 1 (.slice (some ⟨g, 0, none⟩) n cap) n xs) (hm : m ≤ n) : w.ownsRow base e 1 (.slice (some ⟨g, 0, none⟩) m cap) m (xs.take m) := by
  obtain ⟨h1, h2⟩ := h
  rcases h2 with ⟨c, _⟩ | ⟨g', cap', cur, e1, e2, e3, e4, e5, e6, e7⟩
  · cases c
  · injection e1 with e1 _ ec
    injection e1 with e1
    injection e1 with e1
    subst e1 ec
    refine ⟨by rw [List.length_take]; omega, .inr ⟨g, cap, cur, rfl, e2, e3, by omega, e5, e6, ?_⟩⟩
    rw [← e7, List.take_take, Nat.min_eq_left (by omega), Nat.mul_one]
theorem OwnD.cut {w : World} {base g cap : Nat} {l : List Nat} (h : OwnD w base (.slice (some ⟨g, 0, none⟩) l.length cap) l) (m : Nat) (hm : m ≤ l.length) : OwnD w base (.slice (some ⟨g, 0, none⟩) m cap) (l.take m) := by
  have := own_cut h hm
  unfold OwnD
  rw [List.length_take, Nat.min_eq_left hm]
  simpa [dbs, List.map_take] using this

/-- A list that is reversed from both ends, up to place i. -/
def RevI (l : List Nat) (i : Nat) (t : List Nat) : Prop := t.length = l.length ∧ 2 * i ≤ l.length + 1 ∧ ∀ j, j < l.length → t.getD j 0 = if j < i ∨ l.length - i ≤ j then l.getD (l.length - 1 - j) 0 else l.getD j 0
theorem rev_start (l : List Nat) : RevI l 0 l := ⟨rfl, by omega, fun j hj => by rw [if_neg (by omega)]⟩
theorem getD_set (t : List Nat) (k x j : Nat) (hk : k < t.length) : (t.set k x).getD j 0 = if j = k then x else t.getD j 0 := by
  rw [List.getD_eq_getElem?_getD, List.getElem?_set, List.getD_eq_getElem?_getD]
  by_cases e : k = j
  · subst e; simp [hk]
  · rw [if_neg e, if_neg (fun c => e c.symm)]
theorem rev_step {l t : List Nat} {i : Nat} (h : RevI l i t) (hi : 2 * i + 1 < l.length) : RevI l (i + 1) ((t.set i (t.getD (l.length - 1 - i) 0)).set (l.length - 1 - i) (t.getD i 0)) := by
  obtain ⟨h1, h2, h3⟩ := h
  refine ⟨by simpa using h1, by omega, fun j hj => ?_⟩
  rw [getD_set _ _ _ _ (by simp; omega), getD_set _ _ _ _ (by omega)]
  by_cases e1 : j = l.length - 1 - i
  · rw [if_pos e1, if_pos (by omega), h3 i (by omega), if_neg (by omega)]
    congr 1; omega
  · rw [if_neg e1]
    by_cases e2 : j = i
    · rw [if_pos e2, if_pos (by omega), h3 _ (by omega), if_neg (by omega), e2]
    · rw [if_neg e2, h3 j hj]
      by_cases c : j < i ∨ l.length - i ≤ j
      · rw [if_pos c, if_pos (by omega)]
      · rw [if_neg c, if_neg (by omega)]
theorem rev_end {l t : List Nat} {i : Nat} (h : RevI l i t) (hi : l.length ≤ 2 * i + 1) : t = l.reverse := by
  obtain ⟨h1, h2, h3⟩ := h
  apply List.ext_getElem (by simpa using h1)
  intro j a b
  have hj : j < l.length := by omega
  have := h3 j hj
  rw [List.getD_eq_getElem?_getD, List.getElem?_eq_getElem a, Option.getD_some] at this
  rw [this, List.getElem_reverse]
  have e : l.getD (l.length - 1 - j) 0 = l[l.length - 1 - j]'(by omega) := by rw [List.getD_eq_getElem?_getD, List.getElem?_eq_getElem]; rfl
  by_cases c : j < i ∨ l.length - i ≤ j
  · rw [if_pos c, e]
  · rw [if_neg c, ← e]
    congr 1; omega

def RevQ (base g cap : Nat) (l : List Nat) (w0 : World) (e : Ending) (w' : World) : Prop := e = .returned (.tuple #[]) ∧ OwnD w' base (.slice (some ⟨g, 0, none⟩) l.length cap) l.reverse ∧ Below base w0 w'
set_option maxRecDepth 100000 in
set_option maxHeartbeats 1000000 in
theorem reverse_any (l : List Nat) (base g cap : Nat) (w0 w : World) (h : OwnD w base (.slice (some ⟨g, 0, none⟩) l.length cap) l) (hb : Below base w0 w) (hl : l.length ≤ 1000000) :
    Calls Tryz.prog 184 #[.slice (some ⟨g, 0, none⟩) l.length cap] w (RevQ base g cap l w0) := by
  have HO := Lib.hid h
  have HR := Lib.hid (rev_start l)
  clear h
  generalize hn : l.length = n at *
  have HN := Lib.hid hn
  clear hn
  go_enter Tryz.func184, Tryz.ntmps184
  go_wp2
  go_loopw [2, 3] (fun a b wr => ∃ (i : Nat) (t : List Nat), a = .int .i64 i ∧ b = .int .i64 ((n : Int) - 1 - i) ∧ Hid (RevI l i t) ∧ Hid (OwnD wr base (.slice (some ⟨g, 0, none⟩) n cap) t) ∧ Below base w0 wr) (fun a _ _ => n + 1 - (intOf a).toNat)
  case atStart => exact ⟨0, l, rfl, by simp, HR, HO, hb⟩
  case round =>
    obtain ⟨i, t, rfl, rfl, HI, HT, hbr⟩ := hrel
    have ht : t.length = n := HI.out.1.trans HN.out
    by_cases hlt : 2 * i + 1 < n
    · obtain ⟨j, hj⟩ : ∃ j, j = n - 1 - i := ⟨_, rfl⟩
      have hj1 : (n : Int) - 1 - i = (j : Int) := by omega
      have hij : i < j := by omega
      have hjn : j < n := by omega
      have HT' : OwnD wr base (.slice (some ⟨g, 0, none⟩) t.length cap) t := by rw [ht]; exact HT.out
      obtain ⟨g1, g2⟩ := HT'.cell i (by omega)
      obtain ⟨g3, g4⟩ := HT'.cell j (by omega)
      have HS := Lib.hid (rev_step HI.out (by have := HN.out; omega))
      rw [HN.out, ← hj] at HS
      obtain ⟨p1, p2⟩ := HT'.put i (t.getD j 0) (Nat.le_refl _) hbr
      have HP1 := Lib.hid (p1.put j (t.getD i 0) (Nat.le_refl _) p2)
      obtain ⟨p3, p4⟩ := HT'.put j (t.getD i 0) (Nat.le_refl _) hbr
      have HP2 := Lib.hid (p3.put i (t.getD j 0) (Nat.le_refl _) p4)
      rw [List.set_comm _ _ (by omega)] at HP2
      simp only [List.length_set] at HP1 HP2
      rw [ht] at HP1 HP2
      clear p1 p2 p3 p4 HT'
      have HJ := Lib.hid hj
      have HT2 := Lib.hid ht
      generalize hx : t.getD i 0 = x at *
      generalize hy : t.getD j 0 = y at *
      clear hx hy ht hj
      rw [hj1]
      clear hj1
      go_wp2
      go_region
      go_wp2
      go_roundw
      case rel =>
        have hp := HP1.out
        push_cast at hp
        exact ⟨i + 1, _, by go_num, vI (by have := HJ.out; omega), HS, Lib.hid (OwnD.below hp.1 ((Below.refl _ _).drew)), hp.2.drew⟩
      case measure => simp [intOf]; omega
    · have HE := Lib.hid (rev_end HI.out (by have := HN.out; omega))
      go_wp2
      go_end0
      exact ⟨rfl, by rw [← HE.out, HN.out]; exact HT.out, hbr⟩
end Go.Proofs.YtahidclhplmkiaaGreatDoor
/- Package num: fromDigits. -/
namespace Go.Proofs.YtahidclhplmkiaaGreatDoor
open Go.RowKit
set_option linter.unusedVariables false
set_option linter.unusedSimpArgs false

/-- The words so far, and the digits that are left. -/
def FromI (D : List UInt8) (s : ByteArray) (ws : List Nat) : Prop :=
  s.data.toList = D.take s.size ∧ s.size ≤ D.length ∧ okW ws ∧ wval ws + bs ^ ws.length * dgv s.data.toList = dgv D ∧ ws.length + s.size ≤ D.length
theorem from_start (s : ByteArray) : FromI s.data.toList s [] := by
  have hs : s.data.toList.length = s.size := by rw [Array.length_toList]; rfl
  refine ⟨by rw [← hs, List.take_length], by omega, okW_nil, by simp [wval], by simp⟩
theorem extract_list (s : ByteArray) (a b : Nat) : (s.extract a b).data.toList = (s.data.toList.drop a).take (b - a) := by
  rw [ByteArray.data_extract, Array.toList_extract]
theorem from_step {D : List UInt8} {s : ByteArray} {ws : List Nat} (h : FromI D s ws) (hD : ∀ c, c ∈ D → isDig c) (k : Nat) (hk : k = s.size - 9) (h0 : 0 < s.size) :
    FromI D (s.extract 0 k) (ws ++ [dgv (s.extract k s.size).data.toList]) := by
  obtain ⟨h1, h2, h3, h4, h5⟩ := h
  have hs : s.data.toList.length = s.size := by rw [Array.length_toList]; rfl
  have e1 : (s.extract 0 k).data.toList = s.data.toList.take k := by rw [extract_list]; simp
  have e2 : (s.extract k s.size).data.toList = s.data.toList.drop k := by
    rw [extract_list, List.take_of_length_le (by rw [List.length_drop]; omega)]
  have e3 : (s.extract 0 k).size = k := by rw [ByteArray.size_extract]; omega
  have hdig : ∀ c, c ∈ s.data.toList.drop k → isDig c := fun c hc => hD c (by rw [h1] at hc; exact List.mem_of_mem_take (List.mem_of_mem_drop hc))
  have hl : (s.data.toList.drop k).length ≤ 9 := by rw [List.length_drop]; omega
  have hlt : dgv (s.data.toList.drop k) < bs := by
    have := dgv_lt _ hdig
    have h9 : 10 ^ (s.data.toList.drop k).length ≤ 10 ^ 9 := Nat.pow_le_pow_right (by decide) hl
    have : (10 : Nat) ^ 9 = bs := by rfl
    omega
  refine ⟨?_, by omega, okW_append h3 (okW_one (by rw [e2]; exact hlt)), ?_, by rw [e3, List.length_append]; simp; omega⟩
  · rw [e1, e3, h1, List.take_take, Nat.min_eq_left (by omega)]
  · rw [e1, e2, wval_append, List.length_append]
    have e4 : dgv s.data.toList = dgv (s.data.toList.take k) * 10 ^ (s.data.toList.drop k).length + dgv (s.data.toList.drop k) := by
      rw [← dgv_append, List.take_append_drop]
    rcases Nat.eq_zero_or_pos k with c | c
    · subst c
      rw [List.drop_zero, List.take_zero] at *
      have : dgv ([] : List UInt8) = 0 := rfl
      rw [this, Nat.mul_zero]
      simp only [wval, Nat.mul_zero, Nat.add_zero]
      exact h4
    · have e5 : (s.data.toList.drop k).length = 9 := by rw [List.length_drop]; omega
      rw [e5] at e4
      have e6 : (10 : Nat) ^ 9 = bs := by rfl
      rw [e6] at e4
      rw [← h4, e4]
      generalize dgv (s.data.toList.take k) = p
      generalize dgv (s.data.toList.drop k) = q
      simp only [wval, Nat.mul_zero, Nat.add_zero, List.length_singleton]
      rw [Nat.pow_succ, Nat.mul_add, Nat.mul_comm p bs, Nat.mul_assoc]
      omega
theorem from_end {D : List UInt8} {s : ByteArray} {ws : List Nat} (h : FromI D s ws) (h0 : s.size = 0) : okW ws ∧ wval ws = dgv D ∧ ws.length ≤ D.length := by
  obtain ⟨h1, h2, h3, h4, h5⟩ := h
  refine ⟨h3, ?_, by omega⟩
  rw [h1, h0, List.take_zero] at h4
  simpa [dgv] using h4

def FromR (s : ByteArray) (w : World) (x v : Value) (wr : World) : Prop :=
  ∃ (t : ByteArray) (ws : List Nat), x = .string t ∧ Hid (FromI s.data.toList t ws) ∧ Hid (OwnW wr w.heap.size v ws) ∧ t.size + ws.length ≤ 100000 ∧ Below w.heap.size w wr
theorem conv_to (s x : ByteArray) (h : x = s) (w : World) : (convert 9 178 (.string s)).run Tryz.prog w = .ok (.slice (some ⟨w.heap.size, 0, none⟩) x.size (grownCap w x.size 0 5)) (w.drew.alloc (.cells (bytesRow x (grownCap w x.size 0 5)) 5 ((bytesRow x (grownCap w x.size 0 5)).size, (bytesRow x (grownCap w x.size 0 5)).size + 1))) := by
  subst h; exact conv_any _ w

set_option maxRecDepth 100000 in
set_option maxHeartbeats 1000000 in
theorem fromDigits_any (s : ByteArray) (w : World) (hd : ∀ c, c ∈ s.data.toList → isDig c) (hs : s.size ≤ 100000) :
    Calls Tryz.prog 124 #[.string s] w (GivesB (dgv s.data.toList) w) := by
  have HD := Lib.hid hd
  clear hd
  go_enter Tryz.func124, Tryz.ntmps124
  go_wp2
  go_loopw [0, 3] (fun x v wr => FromR s w x v wr) (fun x _ _ => match x with | .string t => t.size | _ => 0)
  case atStart => exact ⟨s, [], rfl, Lib.hid (from_start s), Lib.hid (World.ownsRow_nil _ _ _ _), by simp; omega, Below.refl _ _⟩
  case round =>
    obtain ⟨t, ws, rfl, HF, HO, hsz, hb⟩ := hrel
    by_cases h0 : 0 < t.size
    · obtain ⟨k, hk⟩ : ∃ k, k = t.size - 9 := ⟨_, rfl⟩
      have hkt : k ≤ t.size := by omega
      have hk9 : t.size ≤ k + 9 := by omega
      obtain ⟨x, hx⟩ : ∃ x, x = t.extract k t.size := ⟨_, rfl⟩
      have hxl : x.data.toList.length = x.size := by rw [Array.length_toList]; rfl
      have hxs : x.size = t.size - k := by rw [hx, ByteArray.size_extract]; omega
      have HS := from_step HF.out HD.out k hk h0
      have hdig : ∀ c, c ∈ x.data.toList → isDig c := fun c hc => HD.out c (by
        rw [hx, extract_list, HF.out.1] at hc
        exact List.mem_of_mem_take (List.mem_of_mem_drop (List.mem_of_mem_take hc)))
      rw [← hx] at HS
      have HS := Lib.hid HS
      have hx9 : x.size ≤ 9 := by omega
      have HDIG := Lib.hid hdig
      have HXL := Lib.hid hxl
      have HX := Lib.hid hx
      have HXS := Lib.hid hxs
      clear hdig hxl hx hxs
      by_cases h9 : 9 < t.size
      case' pos =>
        have hk1 : (t.size : Int) - 9 = (k : Int) := by omega
        have hcv := conv_to (t.extract k t.size) x HX.out
        obtain ⟨z, hz⟩ : ∃ z, t.extract 0 k = z := ⟨_, rfl⟩
      case' neg =>
        obtain rfl : k = 0 := by omega
        obtain ⟨z, hz⟩ : ∃ z, ByteArray.empty = z := ⟨_, rfl⟩
        have hcv := conv_to t x (by rw [HX.out]; simp)
      all_goals
        clear hk
        go_wp2
        clear hcv
        obtain ⟨wo, hwo⟩ : ∃ wo : World, wo = wr := ⟨_, rfl⟩
        go_loop [5, 20] (fun v i => ∃ j : Nat, j ≤ x.size ∧ i = .int .i64 j ∧ v = .int .u64 (dgv (x.data.toList.take j) : Nat)) (fun _ i => x.size - (intOf i).toNat)
        case atStart => exact ⟨0, Nat.zero_le _, rfl, rfl⟩
        case round =>
          obtain ⟨j, hj, rfl, rfl⟩ := hrel
          by_cases hlt : j < x.size
          · have hdj := HDIG.out _ (List.getElem_mem (l := x.data.toList) (n := j) (by have := HXL.out; omega))
            have e1 : x.data.toList.getD j 0 = x.data.toList[j]'(by have := HXL.out; omega) := by
              rw [List.getD_eq_getElem?_getD, List.getElem?_eq_getElem (by have := HXL.out; omega)]; rfl
            rw [← e1] at hdj
            have hsn : x.data.toList.take (j + 1) = x.data.toList.take j ++ [x.data.toList.getD j 0] := by
              rw [List.take_succ_eq_append_getElem (by have := HXL.out; omega), e1]
            have hv := dgv_lt (x.data.toList.take j) (fun c hc => HDIG.out c (List.mem_of_mem_take hc))
            have hp : 10 ^ (x.data.toList.take j).length ≤ 10 ^ 8 := Nat.pow_le_pow_right (by decide) (by rw [List.length_take]; omega)
            have hV : dgv (x.data.toList.take j) < 100000000 := Nat.lt_of_lt_of_le hv hp
            have hS : dgv (x.data.toList.take (j + 1)) = 10 * dgv (x.data.toList.take j) + ((x.data.toList.getD j 0).toNat - 48) := by rw [hsn, dgv_snoc]
            have HSN := Lib.hid hS
            have hbc := bytes_cell x (grownCap wr x.size 0 5) j wr 5 ((bytesRow x (grownCap wr x.size 0 5)).size, (bytesRow x (grownCap wr x.size 0 5)).size + 1) hlt
            unfold isDig at hdj
            clear e1 hsn hv hp hS
            generalize x.data.toList.getD j 0 = ch at *
            generalize dgv (x.data.toList.take j) = V at *
            generalize ch.toNat = cn at *
            obtain ⟨hd1, hd2⟩ := hdj
            go_wp2
            go_round
            case rel => exact ⟨j + 1, by omega, by go_num, vI (by rw [HSN.out]; omega)⟩
            case measure => simp [intOf]; omega
          · obtain rfl : j = x.size := by omega
            have hall : x.data.toList.take x.size = x.data.toList := List.take_of_length_le (by have := HXL.out; omega)
            rw [hall]
            clear hall
            generalize hV : dgv x.data.toList = V at *
            have hF : OneR w _ w.heap.size 155 u3 ws.length (u64s ws) := ⟨HO.out, hb, hb.size⟩
            have HF0 := Lib.hid hF
            clear hF
            obtain ⟨i1, hi1, hz1, hz2, hz3⟩ := info_parts info_u64
            have HZS := Lib.hid (show z.size < t.size by rw [← hz]; first | (rw [ByteArray.size_extract]; omega) | (simp; omega))
            have HZ := Lib.hid (show FromI s.data.toList z (ws ++ [V]) by rw [← hz]; first | exact HS.out | simpa using HS.out)
            go_wp2
            have hF := HF0.out
            go_region_law (first
              | (apply at_one 34 (w0 := w) (base := w.heap.size)
                 case hT => (repeat (first | (with_reducible exact hF) | (with_reducible apply OneR.drew) | (with_reducible apply OneR.alloc)))
                 intro hW
                 apply step_append_lies (s := .tmp 31) (x := .tmp 33) (t := 131) (base := w.heap.size) (e := 155) (i := i1) (z := .int .u64 0) (size := 1) (bytes := 8) (ht := Tryz.underlying131) (hi := hi1) (hz := hz1) (hsize := hz2) (hby := hz3) (n := ws.length) (xs := u64s ws) (m := 1)
                 case hgd => rfl
                 case ho => rfl
                 case hzs => rfl
                 case hsz => decide
                 case hs => rfl
                 case hx => rfl
                 case hown => exact hW.row
                 case hnews => (apply World.news_of_block; (repeat (first | (with_reducible apply heap_dr1) | (with_reducible apply hp_new; (simp; done)) | (with_reducible apply hp_past))))
                 case hl => rfl
                 case h1 => simp [Value.oneCell']
                 case hm => decide
                 case h63 => simp only [maxLen]; omega
                 case hbytes => omega
                 case hbase => exact hW.z
                 case hH => rfl
                 intro ga ca wa hoa hga hla hsa
                 have hF := OneR.app hoa hga hW))
            have HK := Lib.hid hF
            clear hF hla hga hoa hW hsa
            have HLEN := Lib.hid HZ.out.2.2.2.2
            have hsl : s.data.toList.length = s.size := by rw [Array.length_toList]; rfl
            have HSL := Lib.hid hsl
            clear hsl
            go_wp2
            go_roundw
            case rel =>
              refine ⟨_, ws ++ [V], rfl, HZ, Lib.hid ?_, ?_, HK.out.b⟩
              · unfold OwnW
                rw [List.length_append, List.length_singleton, u64s_append]
                exact HK.out.row
              · have h1 := HLEN.out
                have h2 := HSL.out
                rw [List.length_append, List.length_singleton] at h1 ⊢
                omega
            case measure => exact HZS.out
    · go_wp2_with fail
      have HE := Lib.hid (from_end HF.out (by omega))
      refine (norm_any ws u3 wr HO.out.reads HE.out.1 (by omega)).mono ?_
      rintro e w1 ⟨u, rfl, hr, hob, rfl⟩
      have HOB2 := Lib.hid (fun k (hk : u.ownBlock = some k) => (World.ownsRow.lt HO.out k (hob ▸ hk)).1)
      clear hob
      rw [HE.out.2.1] at hr
      have HR := Lib.hid hr
      clear hr
      go_wp2
      go_ret
      exact ⟨_, rfl, HR.out, hb, HOB2.out⟩
end Go.Proofs.YtahidclhplmkiaaGreatDoor
/- Package num: digits. -/
namespace Go.Proofs.YtahidclhplmkiaaGreatDoor
open Go.RowKit
set_option linter.unusedVariables false
set_option linter.unusedSimpArgs false

theorem digs_snoc (n k : Nat) : digs n (k + 1) = digs n k ++ [n / 10 ^ k % 10] := by
  induction k generalizing n with
  | zero => simp [digs]
  | succ k ih =>
    show n % 10 :: digs (n / 10) (k + 1) = n % 10 :: digs (n / 10) k ++ _
    rw [ih, Nat.div_div_eq_div_mul, Nat.pow_succ, Nat.mul_comm 10]; rfl
theorem wdigs_take (l : List Nat) (j : Nat) (h : j < l.length) : wdigs (l.take (j + 1)) = wdigs (l.take j) ++ digs (l.getD j 0) 9 := by
  rw [take_getD_succ l j h, wdigs_append]
  simp [wdigs]
/-- Digits of a number, some zeros at the end taken off. -/
def StripI (n least len : Nat) (l : List Nat) : Prop := ldv l = n ∧ (∀ x, x ∈ l → x < 10) ∧ l.length ≤ len
theorem strip_step {n least len : Nat} {l : List Nat} (h : StripI n least len l) (m : Nat) (hm : l.length = m + 1) (h0 : l.getD m 0 = 0) : StripI n least len (l.take m) := by
  obtain ⟨h1, h2, h3⟩ := h
  refine ⟨?_, fun x hx => h2 x (List.mem_of_mem_take hx), by rw [List.length_take]; omega⟩
  have e : l = l.take m ++ [l.getD m 0] := by rw [← take_getD_succ l m (by omega), List.take_of_length_le (by omega)]
  rw [e, ldv_append, h0] at h1
  simpa [ldv] using h1
theorem back_any (W : World) (g cap : Nat) (l : List Nat) (hl : ∀ x, x ∈ l → x < 10) (hc : ∀ j, j < l.length → W.cell? ⟨g, j, none⟩ = some (.int .u8 ((48 + l.getD j 0 : Nat) : Int))) :
    (convert 178 9 (.slice (some ⟨g, 0, none⟩) l.length cap)).run Tryz.prog W = .ok (.string ⟨(l.map dch).toArray⟩) W := by
  have := run_convert_bytes_back (P := Tryz.prog) W 178 9 5 ⟨g, 0, none⟩ cap (l.map dch) Tryz.underlying178 Tryz.underlying5 Tryz.underlying9 (fun j hj => by
    have hj' : j < l.length := by simpa using hj
    have hadd : (⟨g, 0, none⟩ : Addr).add j = ⟨g, j, none⟩ := by unfold Addr.add; split <;> simp_all
    have hd := dch_nat (hl _ (List.getElem_mem hj'))
    rw [hadd, hc j hj', List.getElem_map, hd, List.getD_eq_getElem?_getD, List.getElem?_eq_getElem hj']; rfl)
  rwa [List.length_map] at this

set_option maxRecDepth 100000 in
set_option maxHeartbeats 2000000 in
theorem digits_any (n least : Nat) (v : Value) (w : World) (h : RdB w v (words n)) (hn : (words n).length ≤ 10000) (hl : least ≤ 10000) (h0 : 0 < least) :
    Calls Tryz.prog 130 #[v, .int .i64 (least : Int)] w fun e w' => e = .returned (.string ⟨((decl n least).reverse.map dch).toArray⟩) ∧ Below w.heap.size w w' := by
  obtain ⟨A, c, rfl, hc, hr⟩ := h
  have HR := Lib.hid hr
  clear hr
  generalize hk : (words n).length = k at *
  have HK := Lib.hid hk
  clear hk
  go_enter Tryz.func130, Tryz.ntmps130
  go_wp2
  go_loopw [5, 10] (fun b i wr => ∃ (j : Nat), j ≤ k ∧ i = .int .i64 j ∧ Hid (OwnD wr w.heap.size b (wdigs ((words n).take j))) ∧ Below w.heap.size w wr) (fun _ i _ => k - (intOf i).toNat)
  case atStart => exact ⟨0, Nat.zero_le _, rfl, Lib.hid (World.ownsRow_nil _ _ _ _), Below.refl _ _⟩
  case round =>
    obtain ⟨j, hj, rfl, HO, hb⟩ := hrel
    by_cases hlt : j < k
    · obtain ⟨b1, o1, rfl, q1, k1⟩ := HR.out (by omega)
      have g1 := (hb.cell (p := ⟨b1, o1 + j, none⟩) q1).trans (k1 j hlt)
      clear k1
      generalize hx : (words n).getD j 0 = x at *
      have HX := Lib.hid hx
      have hxb : x < 1000000000 := by rw [← hx]; exact okW_get (okW_words n) j
      clear hx
      go_wp2
      obtain ⟨wo, rfl⟩ : ∃ wo : World, wo = wr := ⟨_, rfl⟩
      go_loopw [5, 7, 14] (fun b y i wq => ∃ (q Y : Nat), q ≤ 9 ∧ i = .int .i64 q ∧ y = .int .u64 (Y : Int) ∧ Hid (Y = x / 10 ^ q) ∧ Y < 1000000000 ∧ Hid (OwnD wq w.heap.size b (wdigs ((words n).take j) ++ digs x q)) ∧ Below w.heap.size w wq) (fun _ _ i _ => 9 - (intOf i).toNat)
      case atStart => exact ⟨0, x, Nat.zero_le _, rfl, rfl, Lib.hid (by simp), hxb, Lib.hid (by simpa [digs] using HO.out), hb⟩
      case round =>
        obtain ⟨q, Y, hq, rfl, rfl, HY, hY, HQ, hbq⟩ := hrel
        by_cases hq9 : q < 9
        · have hz := hbq.size
          have HL := Lib.hid (show (wdigs ((words n).take j) ++ digs x q).length ≤ 100000 by
            rw [List.length_append, wdigs_len, digs_len, List.length_take]; have := HK.out; omega)
          have HS := Lib.hid (show wdigs ((words n).take j) ++ digs x (q + 1) = (wdigs ((words n).take j) ++ digs x q) ++ [Y % 10] by
            rw [digs_snoc, ← List.append_assoc, HY.out])
          have HY2 := Lib.hid (show Y / 10 = x / 10 ^ (q + 1) by rw [HY.out, Nat.div_div_eq_div_mul, Nat.pow_succ])
          generalize wdigs ((words n).take j) ++ digs x q = L at *
          go_wp2_with (at_builtin; refine app1 w.heap.size rfl (.tmp 16) (.tmp 21) 178 5 (.int .u8 0) 1 rfl Tryz.underlying178 info_u8 rfl _ L.length (dbs L) rfl _ rfl (.int .u8 (48 + (Y : Int) % 10)) rfl rfl HQ.out hz ?c1 ?c2 ?_)
          case c1 => have := HL.out; omega
          case c2 => have := HL.out; simp only [maxLen]; omega
          intro ga ca w1 ho hg _ _
          have hb1 := app1_end hbq hz HQ.out hg
          have HN1 := Lib.hid (show OwnD w1 w.heap.size (.slice (some ⟨ga, 0, none⟩) (L.length + 1) ca) (L ++ [Y % 10]) by
            unfold OwnD
            rw [List.length_append, List.length_singleton, dbs_append]
            have e : dbs [Y % 10] = [Value.int .u8 (48 + (Y : Int) % 10)] := by simp [dbs]
            rw [e]; exact ho)
          clear ho hg
          go_wp2
          go_roundw
          case rel => exact ⟨q + 1, Y / 10, by omega, by go_num, vI (by omega), HY2, by omega, Lib.hid (by rw [HS.out]; exact HN1.out), hb1⟩
          case measure => simp [intOf]; omega
        · obtain rfl : q = 9 := by omega
          have HS := Lib.hid (show wdigs ((words n).take (j + 1)) = wdigs ((words n).take j) ++ digs x 9 by
            rw [wdigs_take _ _ (by have := HK.out; omega), HX.out])
          go_wp2
          go_roundw
          case rel => exact ⟨j + 1, by omega, by go_num, Lib.hid (by rw [HS.out]; exact HQ.out), hbq⟩
          case measure => simp [intOf]; omega
    · obtain rfl : j = k := by omega
      have hall : (words n).take j = words n := List.take_of_length_le (by have := HK.out; omega)
      rw [hall] at HO
      have HST := Lib.hid (show StripI n least (9 * j) (wdigs (words n)) from ⟨by rw [wdigs_val _ (okW_words n), wval_words], wdigs_lt _, by rw [wdigs_len]; have := HK.out; omega⟩)
      generalize wdigs (words n) = L at *
      clear hall
      go_wp2
      obtain ⟨wo, hwo⟩ : ∃ wo : World, wo = wr := ⟨_, rfl⟩
      have HWO := Lib.hid hwo
      clear hwo
      go_loop [5] (fun b => ∃ l : List Nat, Hid (StripI n least (9 * j) l) ∧ Hid (OwnD wr w.heap.size b l)) (fun b => lenOf b)
      case atStart => exact ⟨L, HST, HO⟩
      case round =>
        obtain ⟨l, HL, HB⟩ := hrel
        have hex : Hid (¬ (least < l.length ∧ l.getD (l.length - 1) 0 = 0) → least < l.length → ∀ m, l.length = m + 1 → l.getD m 0 ≠ 0) := Lib.hid (fun h1 h2 m hm h3 => h1 ⟨h2, by rw [hm, Nat.add_sub_cancel]; exact h3⟩)
        have hlb : l.length ≤ 90000 := by have := HL.out.2.2; omega
        rcases Nat.lt_or_ge least l.length with hgt | hle
        · obtain ⟨m, hm⟩ : ∃ m, l.length = m + 1 := ⟨l.length - 1, by omega⟩
          obtain ⟨g, cap, rfl⟩ := HB.out.form (by omega)
          obtain ⟨g1, g2⟩ := HB.out.cell m (by omega)
          have HC := Lib.hid (HB.out.cut m (by omega))
          have hcap : m + 1 ≤ cap := by have := HB.out.cap; omega
          by_cases hd : l.getD m 0 = 0
          · have HS := Lib.hid (strip_step HL.out m hm hd)
            rw [hd] at g1
            clear hex hd
            generalize l.length = ln at *
            obtain rfl := hm
            go_wp2
            go_round
            case rel => exact ⟨l.take m, HS, HC⟩
            case measure => simp [lenOf]
          · have HX := Lib.hid (hex.out (fun h => hd (by have := h.2; rwa [hm, Nat.add_sub_cancel] at this)))
            have hd9 : l.getD m 0 < 10 := HL.out.2.1 _ (by rw [List.getD_eq_getElem?_getD, List.getElem?_eq_getElem (by omega)]; exact List.getElem_mem _)
            have HLEN := Lib.hid hm
            clear hex
            generalize l.getD m 0 = dd at *
            have hne : (((48 + dd : Nat) : Int) == 48) = false := by simp; omega
            generalize hln : l.length = ln at *
            have HLN := Lib.hid hln
            clear hln HLEN
            obtain rfl := hm
            go_wp2
            obtain ⟨wo, hwo⟩ : ∃ wo : World, wo = wr := ⟨_, rfl⟩
            have HWO := Lib.hid hwo
            clear hwo
            go_loopw [5] (fun b wq => ∃ (q : Nat) (T : List Nat), Hid (T = l ++ List.replicate q 0) ∧ T.length ≤ 100000 ∧ Hid (q ≤ least - l.length) ∧ Hid (OwnD wq w.heap.size b T) ∧ Below w.heap.size w wq) (fun b _ => least - lenOf b)
            case atStart => exact ⟨0, l, Lib.hid (by simp), by have := HL.out.2.2; have := HLN.out; omega, Lib.hid (Nat.zero_le _), HB, hb⟩
            case round =>
              obtain ⟨q, T, HT, hTl, HQ, HB2, hb2⟩ := hrel
              obtain ⟨A2, c2, hv⟩ : ∃ A1 cc, u5 = .slice A1 T.length cc := by
                rcases HB2.out.2 with ⟨e, e2⟩ | ⟨g, cap, cur, e, _⟩
                · exact ⟨none, 0, by rw [e, e2]⟩
                · exact ⟨_, _, e⟩
              subst hv
              have hTlen : Hid (T.length = l.length + q) := Lib.hid (by rw [HT.out, List.length_append, List.length_replicate])
              by_cases hlt : T.length < least
              · have hz := hb2.size
                go_wp2_with (at_builtin; refine app1 w.heap.size rfl (.tmp 49) (.tmp 50) 178 5 (.int .u8 0) 1 rfl Tryz.underlying178 info_u8 rfl _ T.length (dbs T) rfl _ rfl (.int .u8 48) rfl rfl HB2.out hz ?c1 ?c2 ?_)
                case c1 => omega
                case c2 => simp only [maxLen]; omega
                intro ga ca w1 ho hg _ _
                have hb3 := app1_end hb2 hz HB2.out hg
                have HN1 := Lib.hid (show OwnD w1 w.heap.size (.slice (some ⟨ga, 0, none⟩) (T.length + 1) ca) (T ++ [0]) by
                  unfold OwnD
                  rw [List.length_append, List.length_singleton, dbs_append]
                  exact ho)
                clear ho hg
                go_wp2
                go_roundw
                case rel => exact ⟨q + 1, T ++ [0], Lib.hid (by rw [HT.out, List.append_assoc, List.replicate_succ']), by rw [List.length_append, List.length_singleton]; omega, Lib.hid (by have := hTlen.out; omega), HN1, hb3⟩
                case measure => simp [lenOf]; omega
              · have HD := Lib.hid (show T = decl n least by
                  rw [HT.out, ← decl_of l HL.out.2.1 n least HL.out.1 (by rw [HLN.out]; exact HX.out)]
                  congr 2
                  have := hTlen.out
                  have := HQ.out
                  omega)
                obtain ⟨g4, cap4, he4⟩ := HB2.out.form (by omega)
                injection he4 with e1 _ e3
                subst e1 e3
                go_wp2_with fail
                refine (reverse_any T w.heap.size g4 c2 w _ HB2.out hb2 (by omega)).mono ?_
                rintro e w1 ⟨rfl, hO, hb5⟩
                have hrl : T.reverse.length = T.length := List.length_reverse
                have hO' : OwnD w1 w.heap.size (.slice (some ⟨g4, 0, none⟩) T.reverse.length c2) T.reverse := by rw [hrl]; exact hO
                have hback := back_any w1 g4 c2 T.reverse (fun x hx => by
                  rw [List.mem_reverse, HD.out] at hx
                  exact digs_lt _ _ _ hx) (fun j hj => (hO'.cell j hj).1)
                rw [hrl] at hback
                clear hrl hO hO'
                go_wp2
                go_ret
                exact ⟨by rw [← HD.out, List.map_reverse]; rfl, hb5⟩
        · have HX := Lib.hid (hex.out (fun h => absurd h.1 (by omega)))
          obtain ⟨A1, cc, rfl⟩ : ∃ A1 cc, u5 = .slice A1 l.length cc := by
            rcases HB.out.2 with ⟨e, e2⟩ | ⟨g, cap, cur, e, _⟩
            · exact ⟨none, 0, by rw [e, e2]⟩
            · exact ⟨_, _, e⟩
          clear hex
          generalize hln : l.length = ln at *
          have HLN := Lib.hid hln
          clear hln
          go_wp2
          obtain ⟨wo, hwo⟩ : ∃ wo : World, wo = wr := ⟨_, rfl⟩
          have HWO := Lib.hid hwo
          clear hwo
          go_loopw [5] (fun b wq => ∃ (q : Nat) (T : List Nat), Hid (T = l ++ List.replicate q 0) ∧ T.length ≤ 100000 ∧ Hid (q ≤ least - l.length) ∧ Hid (OwnD wq w.heap.size b T) ∧ Below w.heap.size w wq) (fun b _ => least - lenOf b)
          case atStart => exact ⟨0, l, Lib.hid (by simp), by have := HL.out.2.2; have := HLN.out; omega, Lib.hid (Nat.zero_le _), HB, hb⟩
          case round =>
            obtain ⟨q, T, HT, hTl, HQ, HB2, hb2⟩ := hrel
            obtain ⟨A2, c2, hv⟩ : ∃ A1 cc, u5 = .slice A1 T.length cc := by
              rcases HB2.out.2 with ⟨e, e2⟩ | ⟨g, cap, cur, e, _⟩
              · exact ⟨none, 0, by rw [e, e2]⟩
              · exact ⟨_, _, e⟩
            subst hv
            have hTlen : Hid (T.length = l.length + q) := Lib.hid (by rw [HT.out, List.length_append, List.length_replicate])
            by_cases hlt : T.length < least
            · have hz := hb2.size
              go_wp2_with (at_builtin; refine app1 w.heap.size rfl (.tmp 49) (.tmp 50) 178 5 (.int .u8 0) 1 rfl Tryz.underlying178 info_u8 rfl _ T.length (dbs T) rfl _ rfl (.int .u8 48) rfl rfl HB2.out hz ?c1 ?c2 ?_)
              case c1 => omega
              case c2 => simp only [maxLen]; omega
              intro ga ca w1 ho hg _ _
              have hb3 := app1_end hb2 hz HB2.out hg
              have HN1 := Lib.hid (show OwnD w1 w.heap.size (.slice (some ⟨ga, 0, none⟩) (T.length + 1) ca) (T ++ [0]) by
                unfold OwnD
                rw [List.length_append, List.length_singleton, dbs_append]
                exact ho)
              clear ho hg
              go_wp2
              go_roundw
              case rel => exact ⟨q + 1, T ++ [0], Lib.hid (by rw [HT.out, List.append_assoc, List.replicate_succ']), by rw [List.length_append, List.length_singleton]; omega, Lib.hid (by have := hTlen.out; omega), HN1, hb3⟩
              case measure => simp [lenOf]; omega
            · have HD := Lib.hid (show T = decl n least by
                rw [HT.out, ← decl_of l HL.out.2.1 n least HL.out.1 (by rw [HLN.out]; exact HX.out)]
                congr 2
                have := hTlen.out
                have := HQ.out
                omega)
              obtain ⟨g4, cap4, he4⟩ := HB2.out.form (by omega)
              injection he4 with e1 _ e3
              subst e1 e3
              go_wp2_with fail
              refine (reverse_any T w.heap.size g4 c2 w _ HB2.out hb2 (by omega)).mono ?_
              rintro e w1 ⟨rfl, hO, hb5⟩
              have hrl : T.reverse.length = T.length := List.length_reverse
              have hO' : OwnD w1 w.heap.size (.slice (some ⟨g4, 0, none⟩) T.reverse.length c2) T.reverse := by rw [hrl]; exact hO
              have hback := back_any w1 g4 c2 T.reverse (fun x hx => by
                rw [List.mem_reverse, HD.out] at hx
                exact digs_lt _ _ _ hx) (fun j hj => (hO'.cell j hj).1)
              rw [hrl] at hback
              clear hrl hO hO'
              go_wp2
              go_ret
              exact ⟨by rw [← HD.out, List.map_reverse]; rfl, hb5⟩
end Go.Proofs.YtahidclhplmkiaaGreatDoor
