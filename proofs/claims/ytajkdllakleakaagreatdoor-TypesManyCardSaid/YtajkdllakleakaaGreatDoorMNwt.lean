/- Texts of decimal numbers: which number each is, and the text of a number: plain laws. -/
import Derived.Shelf.Strings.FuncGrows
import Derived.Lib.TrimByte
import Derived.Lib.Strings
import Derived.Lib.IndexMore
import Derived.Lib.Repeat
import Derived.Test.YtajkdllakleakaaGreatDoorMNwr
namespace Go.Proofs.YtajkdllakleakaaGreatDoor
set_option linter.unusedVariables false
set_option linter.unusedSimpArgs false

theorem repeatL_one (c : UInt8) (n : Nat) : Lib.repeatL [c] n = List.replicate n c := by
  induction n with
  | zero => rfl
  | succ n ih => rw [Lib.repeatL, ih]; rfl
/-- Powers of ten as texts. -/
def tenS (n : Nat) : List UInt8 := 49 :: List.replicate n 48
theorem dgv_zeros (m : Nat) : dgv (List.replicate m 48) = 0 := by
  induction m with
  | zero => rfl
  | succ m ih => rw [List.replicate_succ', dgv_snoc, ih]; rfl
theorem dgv_ten (n : Nat) : dgv (tenS n) = 10 ^ n := by
  have e : tenS n = [49] ++ List.replicate n 48 := rfl
  rw [e, dgv_append, List.length_replicate, dgv_zeros]
  have h1 : dgv [49] = 1 := rfl
  rw [h1]; omega
theorem tenS_dig (n : Nat) : ∀ c, c ∈ tenS n → isDig c := by
  intro c h
  rcases List.mem_cons.1 h with e | e
  · subst e; unfold isDig; decide
  · rw [List.eq_of_mem_replicate e]; unfold isDig; decide

def digB (c : UInt8) : Bool := decide (48 ≤ c.toNat) && decide (c.toNat ≤ 57)
def allDig (l : List UInt8) : Bool := l.all digB
theorem allDig_iff (l : List UInt8) : allDig l = true ↔ ∀ c, c ∈ l → isDig c := by
  unfold allDig; rw [List.all_eq_true]
  constructor
  · intro h c hc; have := h c hc; unfold digB at this; unfold isDig; simpa using this
  · intro h c hc; have := h c hc; unfold digB; unfold isDig at this; simpa using this
/-- Is a rune no digit? -/
def noDig (n : Nat) : Bool := decide (n < 48) || decide (57 < n)
theorem idx_digs (s : ByteArray) : ∀ f pos, pos ≤ s.size → s.size ≤ pos + f →
    (Lib.idxFuncFrom noDig true s f pos = -1 ↔ ∀ j, pos ≤ j → (h : j < s.size) → digB s[j] = true)
  | 0, pos, h1, h2 => ⟨fun _ j hj h => by omega, fun _ => rfl⟩
  | f + 1, pos, h1, h2 => by
    unfold Lib.idxFuncFrom
    by_cases hp : pos < s.size
    · rw [if_pos hp]
      by_cases ha : (s[pos]'hp).toNat < 128
      · rw [decode_ascii s pos hp ha]
        have ih := idx_digs s f (pos + 1) (by omega) (by omega)
        by_cases hd : digB s[pos] = true
        · have hn : ¬ noDig (s[pos]'hp).toNat = true := by unfold digB at hd; unfold noDig; simp at hd ⊢; omega
          rw [if_neg hn, ih]
          constructor
          · intro h j hj hjs
            rcases Nat.eq_or_lt_of_le hj with e | e
            · subst e; exact hd
            · exact h j e hjs
          · intro h j hj hjs; exact h j (by omega) hjs
        · have hn : noDig (s[pos]'hp).toNat = true := by unfold digB at hd; unfold noDig; simp at hd ⊢; omega
          rw [if_pos hn]
          constructor
          · intro h; omega
          · intro h; exact absurd (h pos (Nat.le_refl _) hp) hd
      · have hh := decode_high s pos hp (by omega)
        have hn : noDig (Utf8.decode s pos).1 = true := by unfold noDig; simp; omega
        rw [if_pos hn]
        constructor
        · intro h; omega
        · intro h
          have := h pos (Nat.le_refl _) hp
          unfold digB at this; simp at this; omega
    · rw [if_neg hp]
      exact ⟨fun _ j hj h => by omega, fun _ => rfl⟩
theorem idx_allDig (l : List UInt8) : Lib.idxFunc noDig true ⟨l.toArray⟩ = -1 ↔ allDig l = true := by
  unfold Lib.idxFunc
  have hs : (⟨l.toArray⟩ : ByteArray).size = l.length := by show l.toArray.size = _; simp
  rw [idx_digs _ _ 0 (Nat.zero_le _) (by omega)]
  unfold allDig
  rw [List.all_eq_true]
  constructor
  · intro h c hc
    obtain ⟨j, hj, e⟩ := List.mem_iff_getElem.1 hc
    have := h j (Nat.zero_le _) (by omega)
    rw [← e]; exact this
  · intro h j _ hj
    exact h _ (List.getElem_mem (by omega))
theorem idx_ge (p : Nat → Bool) (s : ByteArray) : -1 ≤ Lib.idxFunc p true s := by
  unfold Lib.idxFunc
  rcases Lib.idxFuncFrom_range p true s s.size 0 with h | h <;> omega

/-- A quotient, rounded to the even one at a half. -/
def rndE (a u : Nat) : Nat := if u < 2 * (a % u) ∨ 2 * (a % u) = u ∧ a / u % 2 = 1 then a / u + 1 else a / u
def pNeg (l : List UInt8) : Bool := Lib.hasPrefix l [45]
def pRest (l : List UInt8) : List UInt8 := if pNeg l then Lib.trimPrefix l [45] else Lib.trimPrefix l [43]
def pWhole (l : List UInt8) : List UInt8 := (Lib.cut (pRest l) [46]).1
def pFrac (l : List UInt8) : List UInt8 := (Lib.cut (pRest l) [46]).2.1
def pAll (l : List UInt8) : List UInt8 := pWhole l ++ pFrac l
def pVal (l : List UInt8) : Nat := if (pFrac l).length ≤ 20 then dgv (pAll l) * 10 ^ (20 - (pFrac l).length) else rndE (dgv (pAll l)) (10 ^ ((pFrac l).length - 20))
/-- What parse returns: the error, the sign, the number times 10^20. -/
def parseR (l : List UInt8) : Int × Bool × Nat :=
  if 200 < l.length then (2, false, 0)
  else if (pAll l).isEmpty || !allDig (pAll l) then (5, false, 0)
  else if 10 ^ 50 ≤ pVal l then (40, false, 0)
  else (0, pNeg l && decide (0 < pVal l), pVal l)
theorem trimPrefix_len (l p : List UInt8) : (Lib.trimPrefix l p).length ≤ l.length := by
  unfold Lib.trimPrefix; split
  · rw [List.length_drop]; omega
  · exact Nat.le_refl _
theorem pRest_len (l : List UInt8) : (pRest l).length ≤ l.length := by
  unfold pRest; split <;> exact trimPrefix_len _ _
theorem cut_len (s sep : List UInt8) : (Lib.cut s sep).1.length + (Lib.cut s sep).2.1.length ≤ s.length := by
  unfold Lib.cut; split
  · show (s.take _).length + (s.drop _).length ≤ _
    rw [List.length_take, List.length_drop]; omega
  · exact Nat.le_refl _
theorem pAll_len (l : List UInt8) : (pWhole l).length + (pFrac l).length ≤ l.length := Nat.le_trans (cut_len _ _) (pRest_len l)
theorem trim_ne (l : List UInt8) (c : UInt8) : (Lib.trimPrefix l [c] ≠ l) ↔ Lib.hasPrefix l [c] = true := by
  unfold Lib.trimPrefix
  constructor
  · intro h; cases hp : Lib.hasPrefix l [c] with
    | true => rfl
    | false => rw [hp] at h; exact absurd rfl h
  · intro hp h
    rw [hp] at h
    simp only [if_true, List.length_singleton] at h
    have := congrArg List.length h
    rw [List.length_drop] at this
    cases l with
    | nil => simp [Lib.hasPrefix] at hp
    | cons a r => simp at this

/-- The canonical text of a number. -/
def decS (n least : Nat) : List UInt8 := (decl n least).reverse.map dch
def tWhole (d : Nat) : List UInt8 := (decS d 21).take ((decS d 21).length - 20)
def tFrac (d : Nat) : List UInt8 := Lib.trimRightB ((decS d 21).drop ((decS d 21).length - 20)) 48
def textL (neg : Bool) (d : Nat) : List UInt8 := (if neg then [45] else []) ++ (tWhole d ++ (if (tFrac d).isEmpty then [] else 46 :: tFrac d))
theorem decS_len (n least : Nat) : (decS n least).length = max least (nd n) := by unfold decS; rw [List.length_map, List.length_reverse, decl_len]
/-- What Parse returns. -/
def ParseR (l : List UInt8) : List UInt8 × Int := if (parseR l).1 = 0 then (textL (parseR l).2.1 (parseR l).2.2, 0) else ([], (parseR l).1)
end Go.Proofs.YtajkdllakleakaaGreatDoor
