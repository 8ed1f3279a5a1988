/- Natural numbers in words of base 10^9, the lowest word first, and in decimal digits: plain laws. -/
import Derived.Handy
namespace Go.Proofs.YtfheoplcjeimdaaGreatDoor
set_option linter.unusedVariables false
set_option linter.unusedSimpArgs false

def bs : Nat := 1000000000
theorem bs_pos : 0 < bs := by decide
def wval : List Nat → Nat
  | [] => 0
  | x :: l => x + bs * wval l
def words (n : Nat) : List Nat := if h : n = 0 then [] else n % bs :: words (n / bs)
termination_by n
decreasing_by exact Nat.div_lt_self (by omega) (by decide)
/-- Are all words below the base? -/
def okW (l : List Nat) : Prop := ∀ x, x ∈ l → x < bs

theorem words_zero : words 0 = [] := by rw [words]; simp
theorem words_pos {n : Nat} (h : 0 < n) : words n = n % bs :: words (n / bs) := by rw [words, dif_neg (by omega)]
theorem wval_words (n : Nat) : wval (words n) = n := by
  induction n using Nat.strongRecOn with
  | _ n ih =>
    rcases Nat.eq_zero_or_pos n with rfl | h
    · rw [words_zero]; rfl
    · rw [words_pos h]
      show n % bs + bs * wval (words (n / bs)) = n
      rw [ih _ (Nat.div_lt_self h (by decide))]
      exact Nat.mod_add_div n bs
theorem okW_words (n : Nat) : okW (words n) := by
  induction n using Nat.strongRecOn with
  | _ n ih =>
    rcases Nat.eq_zero_or_pos n with rfl | h
    · rw [words_zero]; intro x hx; cases hx
    · rw [words_pos h]
      intro x hx
      rcases List.mem_cons.1 hx with e | e
      · subst e; exact Nat.mod_lt _ bs_pos
      · exact ih _ (Nat.div_lt_self h (by decide)) x e
theorem okW_nil : okW [] := fun x h => by cases h
theorem okW_append {a b : List Nat} (ha : okW a) (hb : okW b) : okW (a ++ b) := fun x h => (List.mem_append.1 h).elim (ha x) (hb x)
theorem okW_one {x : Nat} (h : x < bs) : okW [x] := fun y hy => by rw [List.mem_singleton.1 hy]; exact h
theorem okW_take {a : List Nat} (ha : okW a) (k : Nat) : okW (a.take k) := fun x h => ha x (List.mem_of_mem_take h)
theorem okW_drop {a : List Nat} (ha : okW a) (k : Nat) : okW (a.drop k) := fun x h => ha x (List.mem_of_mem_drop h)
theorem okW_rep (n : Nat) : okW (List.replicate n 0) := fun x h => by rw [List.eq_of_mem_replicate h]; exact bs_pos
theorem okW_set {a : List Nat} (ha : okW a) (k x : Nat) (hx : x < bs) : okW (a.set k x) := fun y h => by
  rcases List.mem_or_eq_of_mem_set h with e | e
  · exact ha y e
  · rw [e]; exact hx
theorem okW_get {a : List Nat} (ha : okW a) (k : Nat) : a.getD k 0 < bs := by
  rw [List.getD_eq_getElem?_getD]
  rcases Nat.lt_or_ge k a.length with e | e
  · rw [List.getElem?_eq_getElem e]; exact ha _ (List.getElem_mem e)
  · rw [List.getElem?_eq_none e]; exact bs_pos
theorem wval_append (a b : List Nat) : wval (a ++ b) = wval a + bs ^ a.length * wval b := by
  induction a with
  | nil => simp [wval]
  | cons x l ih =>
    show x + bs * wval (l ++ b) = x + bs * wval l + bs ^ (l.length + 1) * wval b
    rw [ih, Nat.pow_succ, Nat.mul_add]
    have : bs ^ l.length * bs * wval b = bs * (bs ^ l.length * wval b) := by rw [Nat.mul_comm (bs ^ l.length) bs, Nat.mul_assoc]
    omega
theorem wval_rep (n : Nat) : wval (List.replicate n 0) = 0 := by
  induction n with
  | zero => rfl
  | succ n ih => rw [List.replicate_succ]; show 0 + bs * wval _ = 0; rw [ih]; omega
theorem wval_lt {l : List Nat} (h : okW l) : wval l < bs ^ l.length := by
  induction l with
  | nil => simp [wval]
  | cons x l ih =>
    have h1 := h x (List.mem_cons_self)
    have h2 := ih (fun y hy => h y (List.mem_cons_of_mem _ hy))
    show x + bs * wval l < bs ^ (l.length + 1)
    rw [Nat.pow_succ, Nat.mul_comm (bs ^ l.length) bs]
    have : bs * (wval l + 1) ≤ bs * bs ^ l.length := Nat.mul_le_mul_left _ h2
    rw [Nat.mul_add] at this
    omega
theorem take_getD_succ (l : List Nat) (k : Nat) (h : k < l.length) : l.take (k + 1) = l.take k ++ [l.getD k 0] := by
  rw [List.take_succ_eq_append_getElem h, List.getD_eq_getElem?_getD, List.getElem?_eq_getElem h]; rfl
theorem wval_take_succ (l : List Nat) (k : Nat) (h : k < l.length) : wval (l.take (k + 1)) = wval (l.take k) + bs ^ k * l.getD k 0 := by
  rw [take_getD_succ l k h, wval_append, List.length_take, Nat.min_eq_left (by omega)]
  simp [wval]
/-- The words of a list without zero words at its end. -/
theorem words_of (l : List Nat) (h : okW l) (hl : ∀ k, l.length = k + 1 → l.getD k 0 ≠ 0) : words (wval l) = l := by
  induction l with
  | nil => exact words_zero
  | cons x l ih =>
    have hx := h x (List.mem_cons_self)
    have h2 : okW l := fun y hy => h y (List.mem_cons_of_mem _ hy)
    have hl2 : ∀ k, l.length = k + 1 → l.getD k 0 ≠ 0 := fun k hk => by
      have := hl (k + 1) (by simp [hk])
      simpa using this
    have e1 := ih h2 hl2
    have hp : 0 < wval (x :: l) := by
      show 0 < x + bs * wval l
      rcases Nat.eq_zero_or_pos (wval l) with e | e
      · rw [e, words_zero] at e1
        subst e1
        have := hl 0 rfl
        simp at this
        omega
      · have := Nat.mul_pos bs_pos e; omega
    rw [words_pos hp]
    show (x + bs * wval l) % bs :: words ((x + bs * wval l) / bs) = x :: l
    rw [Nat.add_mul_mod_self_left, Nat.mod_eq_of_lt hx, Nat.add_mul_div_left _ _ bs_pos, Nat.div_eq_of_lt hx, Nat.zero_add, e1]
/-- Zero words at the end are cut off. -/
theorem norm_end (l : List Nat) (m : Nat) (h : okW l) (hm : m ≤ l.length) (hv : wval (l.take m) = wval l) (he : ∀ k, m = k + 1 → l.getD k 0 ≠ 0) : l.take m = words (wval l) := by
  rw [← hv]
  symm
  apply words_of _ (okW_take h m)
  intro k hk
  rw [List.length_take, Nat.min_eq_left hm] at hk
  have := he k hk
  rw [List.getD_eq_getElem?_getD, List.getElem?_take, if_pos (by omega), ← List.getD_eq_getElem?_getD]
  exact this
theorem norm_step (l : List Nat) (m : Nat) (hm : m + 1 ≤ l.length) (hv : wval (l.take (m + 1)) = wval l) (h0 : l.getD m 0 = 0) : wval (l.take m) = wval l := by
  rw [← hv, wval_take_succ l m (by omega), h0]; simp
theorem words_len_lt (n k : Nat) : n < bs ^ k → (words n).length ≤ k := by
  induction k generalizing n with
  | zero => intro h; obtain rfl : n = 0 := by simpa using h
            rw [words_zero]; exact Nat.le_refl _
  | succ k ih =>
    intro h
    rcases Nat.eq_zero_or_pos n with rfl | hp
    · rw [words_zero]; exact Nat.zero_le _
    · rw [words_pos hp, List.length_cons]
      have : n / bs < bs ^ k := by
        rw [Nat.div_lt_iff_lt_mul bs_pos]; rw [Nat.pow_succ] at h; exact h
      have := ih _ this
      omega
theorem words_lt_len (n : Nat) : n < bs ^ (words n).length := by
  have := wval_lt (okW_words n)
  rwa [wval_words] at this
theorem lt_of_len {n m : Nat} (h : (words n).length < (words m).length) : n < m := by
  rcases Nat.lt_or_ge n m with e | e
  · exact e
  · have h1 := words_len_lt m (words n).length (Nat.lt_of_le_of_lt e (words_lt_len n))
    omega
/-- Two lists of one length that differ in a word, and not behind it. -/
theorem wval_split (l : List Nat) (i : Nat) (h : i < l.length) : wval l = wval (l.take i) + bs ^ i * (l.getD i 0 + bs * wval (l.drop (i + 1))) := by
  have e : l = l.take i ++ (l.getD i 0 :: l.drop (i + 1)) := by
    rw [List.getD_eq_getElem?_getD, List.getElem?_eq_getElem h]
    simp
  calc wval l = wval (l.take i ++ (l.getD i 0 :: l.drop (i + 1))) := by rw [← e]
    _ = _ := by rw [wval_append, List.length_take, Nat.min_eq_left (by omega)]; rfl
theorem lt_of_word {a b : List Nat} (ha : okW a) (hb : okW b) (i : Nat) (h1 : i < a.length) (h2 : i < b.length) (hd : a.drop (i + 1) = b.drop (i + 1)) (h : a.getD i 0 < b.getD i 0) : wval a < wval b := by
  rw [wval_split a i h1, wval_split b i h2, hd]
  have e1 : wval (a.take i) < bs ^ i := by
    have := wval_lt (okW_take ha i)
    rwa [List.length_take, Nat.min_eq_left (by omega)] at this
  have e2 : bs ^ i * (a.getD i 0 + bs * wval (b.drop (i + 1)) + 1) ≤ bs ^ i * (b.getD i 0 + bs * wval (b.drop (i + 1))) := Nat.mul_le_mul_left _ (by omega)
  rw [Nat.mul_add, Nat.mul_one] at e2
  omega
end Go.Proofs.YtfheoplcjeimdaaGreatDoor
