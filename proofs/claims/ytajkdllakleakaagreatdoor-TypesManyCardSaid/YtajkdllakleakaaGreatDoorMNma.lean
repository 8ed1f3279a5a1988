/- Package num: numbers in words: norm and cmp. -/
import Derived.Test.YtajkdllakleakaaGreatDoorM1
import Derived.Test.YtajkdllakleakaaGreatDoorMNwr
namespace Go.Proofs.YtajkdllakleakaaGreatDoor
open Go.RowKit
set_option linter.unusedVariables false
set_option linter.unusedSimpArgs false

def u64s (l : List Nat) : List Value := l.map fun (x : Nat) => .int .u64 (x : Int)
/-- A slice of words reads as a list. -/
def RdB (w : World) (v : Value) (l : List Nat) : Prop :=
  ∃ A c, v = .slice A l.length c ∧ l.length ≤ c ∧ (0 < l.length → ∃ b off, A = some ⟨b, off, none⟩ ∧ b < w.heap.size ∧ ∀ j, j < l.length → w.cell? ⟨b, off + j, none⟩ = some (.int .u64 (l.getD j 0 : Nat)))
theorem RdB.below {w w1 : World} {v : Value} {l : List Nat} (h : RdB w v l) (hb : Below w.heap.size w w1) : RdB w1 v l := by
  obtain ⟨A, c, e, hc, h⟩ := h
  refine ⟨A, c, e, hc, fun hn => ?_⟩
  obtain ⟨b, off, e, hlt, hc⟩ := h hn
  have hs := hb.size
  exact ⟨b, off, e, by omega, fun j hj => (hb.cell (p := ⟨b, _, none⟩) hlt).trans (hc j hj)⟩
theorem RdB.store {w : World} {v x : Value} {l : List Nat} {p : Addr} (h : RdB w v l) (hp : ∀ k, v.ownBlock = some k → p.block ≠ k) : RdB (w.setCell p x) v l := by
  obtain ⟨A, c, rfl, hc, h⟩ := h
  refine ⟨A, c, rfl, hc, fun hn => ?_⟩
  obtain ⟨b, off, rfl, hlt, hc⟩ := h hn
  have hne := hp b rfl
  refine ⟨b, off, rfl, by simpa [World.setCell] using hlt, fun j hj => ?_⟩
  rw [st_other (fun e => hne (by rw [e]))]
  exact hc j hj
theorem RdB.drawn {w : World} {v : Value} {l : List Nat} (h : RdB w v l) (n : Nat) : RdB (w.drewN n) v l := h.below (bel_dn (Below.refl _ _) n)
/-- What a call hands back: a number. -/
def GivesB (n : Nat) (w : World) (e : Ending) (w' : World) : Prop := ∃ v, e = .returned v ∧ RdB w' v (words n) ∧ Below w.heap.size w w' ∧ ∀ k, v.ownBlock = some k → w.heap.size ≤ k


theorem ownBlock_same (A : Option Addr) (n c m d : Nat) : (Value.slice A n c).ownBlock = (Value.slice A m d).ownBlock := by cases A <;> rfl
set_option maxRecDepth 100000 in
theorem norm_any (l : List Nat) (v : Value) (w : World) (h : RdB w v l) (ho : okW l) (hn : l.length ≤ 1000000) :
    Calls Tryz.prog 215 #[v] w fun e w' => ∃ u, e = .returned u ∧ RdB w u (words (wval l)) ∧ u.ownBlock = v.ownBlock ∧ w = w' := by
  obtain ⟨A, c, rfl, hc, hr⟩ := h
  have HO := Lib.hid ho
  clear ho
  have hfin : ∀ m, m ≤ l.length → wval (l.take m) = wval l → (∀ k, m = k + 1 → l.getD k 0 ≠ 0) → RdB w (.slice A m c) (words (wval l)) := by
    intro m hm hv he
    have e := norm_end l m HO.out hm hv he
    rw [← e]
    have hl : (l.take m).length = m := by rw [List.length_take]; omega
    refine ⟨A, c, by rw [hl], by omega, fun h0 => ?_⟩
    obtain ⟨b, off, e1, e2, e3⟩ := hr (by omega)
    refine ⟨b, off, e1, e2, fun j hj => ?_⟩
    rw [e3 j (by omega), List.getD_eq_getElem?_getD, List.getD_eq_getElem?_getD, List.getElem?_take, if_pos (by omega)]
  have HF := Lib.hid hfin
  have HR := Lib.hid hr
  clear hfin hr
  generalize hgn : l.length = n at *
  have HN := Lib.hid hgn
  clear hgn
  go_enter Tryz.func215, Tryz.ntmps215
  go_wp2
  go_loop [0] (fun a => ∃ m : Nat, m ≤ n ∧ a = .slice A m c ∧ Hid (wval (l.take m) = wval l)) (fun a => lenOf a)
  case atStart => exact ⟨n, Nat.le_refl _, rfl, Lib.hid (by rw [List.take_of_length_le (by have := HN.out; omega)])⟩
  case round =>
    obtain ⟨m, hm, rfl, HV⟩ := hrel
    rcases m with _ | m
    · go_wp2
      go_ret
      exact ⟨_, rfl, HF.out 0 (Nat.zero_le _) HV.out (fun k hk => by omega), ownBlock_same _ _ _ _ _, rfl⟩
    · obtain ⟨b, off, rfl, hb, hcell⟩ := HR.out (by omega)
      have g := hcell m (by omega)
      clear hcell
      generalize hx : l.getD m 0 = x at g
      have HX := Lib.hid hx
      clear hx
      by_cases h0 : x = 0
      · subst h0
        go_wp2
        go_round
        case rel => exact ⟨m, by omega, rfl, Lib.hid (norm_step l m (by have := HN.out; omega) HV.out HX.out)⟩
        case measure => simp [lenOf]
      · have hx1 : ((x : Int) == 0) = false := by simp; omega
        have hne : ∀ k, m + 1 = k + 1 → l.getD k 0 ≠ 0 := by
          intro k hk
          obtain rfl : m = k := by omega
          rw [HX.out]; exact h0
        have HNE := Lib.hid hne
        clear hne
        go_wp2
        go_ret
        exact ⟨_, rfl, HF.out (m + 1) hm HV.out HNE.out, ownBlock_same _ _ _ _ _, rfl⟩

/-- How two numbers compare, as an int tells. -/
def CmpI (n m : Nat) (z : Int) : Prop := (z < 0 ↔ n < m) ∧ (z = 0 ↔ n = m)
theorem CmpI.gt {n m : Nat} {z : Int} (h : CmpI n m z) : 0 < z ↔ m < n := by obtain ⟨h1, h2⟩ := h; omega
theorem cmp_len {a b : Nat} (h : (words a).length ≠ (words b).length) : CmpI a b ((words a).length - (words b).length) := by
  rcases Nat.lt_or_ge (words a).length (words b).length with e | e
  · have := lt_of_len e; exact ⟨by omega, by omega⟩
  · have := lt_of_len (n := b) (m := a) (by omega); exact ⟨by omega, by omega⟩
theorem cmp_word {a b : Nat} {i : Nat} (h1 : i < (words a).length) (h2 : i < (words b).length) (hd : (words a).drop (i + 1) = (words b).drop (i + 1)) (h : (words a).getD i 0 ≠ (words b).getD i 0) :
    CmpI a b (((words a).getD i 0 : Nat) - ((words b).getD i 0 : Nat)) := by
  rcases Nat.lt_or_ge ((words a).getD i 0) ((words b).getD i 0) with e | e
  · have := lt_of_word (okW_words a) (okW_words b) i h1 h2 hd e
    rw [wval_words, wval_words] at this
    exact ⟨by omega, by omega⟩
  · have := lt_of_word (okW_words b) (okW_words a) i h2 h1 hd.symm (by omega)
    rw [wval_words, wval_words] at this
    exact ⟨by omega, by omega⟩
theorem cmp_same {a b : Nat} (h : words a = words b) : CmpI a b 0 := by
  have : a = b := by rw [← wval_words a, h, wval_words]
  subst this
  exact ⟨by omega, by omega⟩

def CmpQ (n m : Nat) (w : World) (e : Ending) (w' : World) : Prop := ∃ z : Int, e = .returned (.int .i64 z) ∧ CmpI n m z ∧ Below w.heap.size w w'
set_option maxRecDepth 100000 in
theorem cmp_any (a b : Nat) (u v : Value) (w : World) (ha : RdB w u (words a)) (hb : RdB w v (words b)) (hla : (words a).length ≤ 1000000) (hlb : (words b).length ≤ 1000000) :
    Calls Tryz.prog 216 #[u, v] w (CmpQ a b w) := by
  obtain ⟨A, c, rfl, hca, hra⟩ := ha
  obtain ⟨B, d, rfl, hcb, hrb⟩ := hb
  have HRA := Lib.hid hra
  have HRB := Lib.hid hrb
  clear hra hrb
  by_cases hlen : (words a).length = (words b).length
  · have HL := Lib.hid hlen
    rw [← hlen] at HRB hlb hcb ⊢
    clear hlen
    generalize hgn : (words a).length = n at *
    have HN := Lib.hid hgn
    clear hgn
    go_enter Tryz.func216, Tryz.ntmps216
    go_wp2
    go_loopw [5] (fun i wr => ∃ k : Nat, k ≤ n ∧ i = .int .i64 ((k : Int) - 1) ∧ Hid ((words a).drop k = (words b).drop k) ∧ Below w.heap.size w wr) (fun i _ => (intOf i + 1).toNat)
    case atStart => exact ⟨n, Nat.le_refl _, rfl, Lib.hid (by rw [List.drop_of_length_le (by have := HN.out; omega), List.drop_of_length_le (by have := HN.out; have := HL.out; omega)]), Below.refl _ _⟩
    case round =>
      obtain ⟨k, hk, rfl, HD, hbw⟩ := hrel
      rcases k with _ | k
      · go_wp2
        go_ret
        exact ⟨0, rfl, cmp_same HD.out, hbw⟩
      · obtain ⟨b1, o1, rfl, q1, k1⟩ := HRA.out (by omega)
        obtain ⟨b2, o2, rfl, q2, k2⟩ := HRB.out (by omega)
        have g1 := (hbw.cell (p := ⟨b1, o1 + k, none⟩) q1).trans (k1 k (by omega))
        have g2 := (hbw.cell (p := ⟨b2, o2 + k, none⟩) q2).trans (k2 k (by omega))
        clear k1 k2
        have hk1 : ((k + 1 : Nat) : Int) - 1 = (k : Int) := by omega
        rw [hk1]
        have hx := Lib.hid (okW_get (okW_words a) k)
        have hy := Lib.hid (okW_get (okW_words b) k)
        have hw := fun h => cmp_word (a := a) (b := b) (i := k) (by have := HN.out; omega) (by have := HN.out; have := HL.out; omega) HD.out h
        generalize hgx : (words a).getD k 0 = x at *
        generalize hgy : (words b).getD k 0 = y at *
        have HX := Lib.hid hgx
        have HY := Lib.hid hgy
        have HW := Lib.hid hw
        clear hgx hgy hw hk1
        have hx1 : x < 1000000000 := hx.out
        have hy1 : y < 1000000000 := hy.out
        by_cases hxy : x = y
        · subst hxy
          go_wp2
          go_quiet (fail)
          go_wp2
          go_roundw
          case rel =>
            refine ⟨k, by omega, rfl, Lib.hid ?_, bel_dn hbw _⟩
            have q1 : k < (words a).length := by have := HN.out; omega
            have q2 : k < (words b).length := by have := HN.out; have := HL.out; omega
            rw [List.drop_eq_getElem_cons q1, List.drop_eq_getElem_cons q2, HD.out]
            congr 1
            have e1 := HX.out
            have e2 := HY.out
            rw [List.getD_eq_getElem?_getD, List.getElem?_eq_getElem q1] at e1
            rw [List.getD_eq_getElem?_getD, List.getElem?_eq_getElem q2] at e2
            exact e1.trans e2.symm
          case measure => simp [intOf]
        · have hne : ((x : Int) != (y : Int)) = true := by simp; omega
          go_wp2
          go_quiet (fail)
          go_wp2
          go_quiet (fail)
          go_wp2
          go_ret
          exact ⟨_, rfl, HW.out hxy, bel_dn (bel_dn hbw _) _⟩
  · have hbl : (((words a).length : Int) != ((words b).length : Int)) = true := by simp; omega
    have HC := Lib.hid (cmp_len hlen)
    clear hlen
    go_enter Tryz.func216, Tryz.ntmps216
    go_wp2
    go_ret
    exact ⟨_, rfl, HC.out, Below.refl _ _⟩
end Go.Proofs.YtajkdllakleakaaGreatDoor
