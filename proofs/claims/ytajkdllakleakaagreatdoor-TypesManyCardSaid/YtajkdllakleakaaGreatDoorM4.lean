/- Natural numbers in words of base 10^9, the lowest word first, and in decimal digits: plain laws. -/
import Derived.Handy
namespace Go.Proofs.YtajkdllakleakaaGreatDoor
set_option linter.unusedVariables false
set_option linter.unusedSimpArgs false

def bs : Nat := 1000000000
theorem bs_pos : 0 < bs := by decide
def wval : List Nat → Nat
  | [] => 0
  | x :: l => x + bs * wval l
def words (n : Nat) : List Nat := if h : n = 0 then [] else n % bs :: words (n / bs)
termination_by n
decreasing_by exact Nat.div_lt_self (by omega) (by decide)
/-- Are all words below the base? -/
def okW (l : List Nat) : Prop := ∀ x, x ∈ l → x < bs

theorem words_zero : words 0 = [] := by rw [words]; simp
theorem words_pos {n : Nat} (h : 0 < n) : words n = n % bs :: words (n / bs) := by rw [words, dif_neg (by omega)]
theorem wval_words (n : Nat) : wval (words n) = n := by
  induction n using Nat.strongRecOn with
  | _ n ih =>
    rcases Nat.eq_zero_or_pos n with rfl | h
    · rw [words_zero]; rfl
    · rw [words_pos h]
      show n % bs + bs * wval (words (n / bs)) = n
      rw [ih _ (Nat.div_lt_self h (by decide))]
      exact Nat.mod_add_div n bs
theorem okW_words (n : Nat) : okW (words n) := by
  induction n using Nat.strongRecOn with
  | _ n ih =>
    rcases Nat.eq_zero_or_pos n with rfl | h
    · rw [words_zero]; intro x hx; cases hx
    · rw [words_pos h]
      intro x hx
      rcases List.mem_cons.1 hx with e | e
      · subst e; exact Nat.mod_lt _ bs_pos
      · exact ih _ (Nat.div_lt_self h (by decide)) x e
theorem okW_nil : okW [] := fun x h => by cases h
theorem okW_append {a b : List Nat} (ha : okW a) (hb : okW b) : okW (a ++ b) := fun x h => (List.mem_append.1 h).elim (ha x) (hb x)
theorem okW_one {x : Nat} (h : x < bs) : okW [x] := fun y hy => by rw [List.mem_singleton.1 hy]; exact h
theorem okW_take {a : List Nat} (ha : okW a) (k : Nat) : okW (a.take k) := fun x h => ha x (List.mem_of_mem_take h)
theorem okW_drop {a : List Nat} (ha : okW a) (k : Nat) : okW (a.drop k) := fun x h => ha x (List.mem_of_mem_drop h)
theorem okW_rep (n : Nat) : okW (List.replicate n 0) := fun x h => by rw [List.eq_of_mem_replicate h]; exact bs_pos
theorem okW_set {a : List Nat} (ha : okW a) (k x : Nat) (hx : x < bs) : okW (a.set k x) := fun y h => by
  rcases List.mem_or_eq_of_mem_set h with e | e
  · exact ha y e
  · rw [e]; exact hx
theorem okW_get {a : List Nat} (ha : okW a) (k : Nat) : a.getD k 0 < bs := by
  rw [List.getD_eq_getElem?_getD]
  rcases Nat.lt_or_ge k a.length with e | e
  · rw [List.getElem?_eq_getElem e]; exact ha _ (List.getElem_mem e)
  · rw [List.getElem?_eq_none e]; exact bs_pos
theorem wval_append (a b : List Nat) : wval (a ++ b) = wval a + bs ^ a.length * wval b := by
  induction a with
  | nil => simp [wval]
  | cons x l ih =>
    show x + bs * wval (l ++ b) = x + bs * wval l + bs ^ (l.length + 1) * wval b
    rw [ih, Nat.pow_succ, Nat.mul_add]
    have : bs ^ l.length * bs * wval b = bs * (bs ^ l.length * wval b) := by rw [Nat.mul_comm (bs ^ l.length) bs, Nat.mul_assoc]
    omega
theorem wval_rep (n : Nat) : wval (List.replicate n 0) = 0 := by
  induction n with
  | zero => rfl
  | succ n ih => rw [List.replicate_succ]; show 0 + bs * wval _ = 0; rw [ih]; omega
theorem wval_lt {l : List Nat} (h : okW l) : wval l < bs ^ l.length := by
  induction l with
  | nil => simp [wval]
  | cons x l ih =>
    have h1 := h x (List.mem_cons_self)
    have h2 := ih (fun y hy => h y (List.mem_cons_of_mem _ hy))
    show x + bs * wval l < bs ^ (l.length + 1)
    rw [Nat.pow_succ, Nat.mul_comm (bs ^ l.length) bs]
    have : bs * (wval l + 1) ≤ bs * bs ^ l.length := Nat.mul_le_mul_left _ h2
    rw [Nat.mul_add] at this
    omega
theorem take_getD_succ (l : List Nat) (k : Nat) (h : k < l.length) : l.take (k + 1) = l.take k ++ [l.getD k 0] := by
  rw [List.take_succ_eq_append_getElem h, List.getD_eq_getElem?_getD, List.getElem?_eq_getElem h]; rfl
theorem wval_take_succ (l : List Nat) (k : Nat) (h : k < l.length) : wval (l.take (k + 1)) = wval (l.take k) + bs ^ k * l.getD k 0 := by
  rw [take_getD_succ l k h, wval_append, List.length_take, Nat.min_eq_left (by omega)]
  simp [wval]
/-- The words of a list without zero words at its end. -/
theorem words_of (l : List Nat) (h : okW l) (hl : ∀ k, l.length = k + 1 → l.getD k 0 ≠ 0) : words (wval l) = l := by
  induction l with
  | nil => exact words_zero
  | cons x l ih =>
    have hx := h x (List.mem_cons_self)
    have h2 : okW l := fun y hy => h y (List.mem_cons_of_mem _ hy)
    have hl2 : ∀ k, l.length = k + 1 → l.getD k 0 ≠ 0 := fun k hk => by
      have := hl (k + 1) (by simp [hk])
      simpa using this
    have e1 := ih h2 hl2
    have hp : 0 < wval (x :: l) := by
      show 0 < x + bs * wval l
      rcases Nat.eq_zero_or_pos (wval l) with e | e
      · rw [e, words_zero] at e1
        subst e1
        have := hl 0 rfl
        simp at this
        omega
      · have := Nat.mul_pos bs_pos e; omega
    rw [words_pos hp]
    show (x + bs * wval l) % bs :: words ((x + bs * wval l) / bs) = x :: l
    rw [Nat.add_mul_mod_self_left, Nat.mod_eq_of_lt hx, Nat.add_mul_div_left _ _ bs_pos, Nat.div_eq_of_lt hx, Nat.zero_add, e1]
/-- Zero words at the end are cut off. -/
theorem norm_end (l : List Nat) (m : Nat) (h : okW l) (hm : m ≤ l.length) (hv : wval (l.take m) = wval l) (he : ∀ k, m = k + 1 → l.getD k 0 ≠ 0) : l.take m = words (wval l) := by
  rw [← hv]
  symm
  apply words_of _ (okW_take h m)
  intro k hk
  rw [List.length_take, Nat.min_eq_left hm] at hk
  have := he k hk
  rw [List.getD_eq_getElem?_getD, List.getElem?_take, if_pos (by omega), ← List.getD_eq_getElem?_getD]
  exact this
theorem norm_step (l : List Nat) (m : Nat) (hm : m + 1 ≤ l.length) (hv : wval (l.take (m + 1)) = wval l) (h0 : l.getD m 0 = 0) : wval (l.take m) = wval l := by
  rw [← hv, wval_take_succ l m (by omega), h0]; simp
theorem words_len_lt (n k : Nat) : n < bs ^ k → (words n).length ≤ k := by
  induction k generalizing n with
  | zero => intro h; obtain rfl : n = 0 := by simpa using h
            rw [words_zero]; exact Nat.le_refl _
  | succ k ih =>
    intro h
    rcases Nat.eq_zero_or_pos n with rfl | hp
    · rw [words_zero]; exact Nat.zero_le _
    · rw [words_pos hp, List.length_cons]
      have : n / bs < bs ^ k := by
        rw [Nat.div_lt_iff_lt_mul bs_pos]; rw [Nat.pow_succ] at h; exact h
      have := ih _ this
      omega
theorem words_lt_len (n : Nat) : n < bs ^ (words n).length := by
  have := wval_lt (okW_words n)
  rwa [wval_words] at this
theorem lt_of_len {n m : Nat} (h : (words n).length < (words m).length) : n < m := by
  rcases Nat.lt_or_ge n m with e | e
  · exact e
  · have h1 := words_len_lt m (words n).length (Nat.lt_of_le_of_lt e (words_lt_len n))
    omega
/-- Two lists of one length that differ in a word, and not behind it. -/
theorem wval_split (l : List Nat) (i : Nat) (h : i < l.length) : wval l = wval (l.take i) + bs ^ i * (l.getD i 0 + bs * wval (l.drop (i + 1))) := by
  have e : l = l.take i ++ (l.getD i 0 :: l.drop (i + 1)) := by
    rw [List.getD_eq_getElem?_getD, List.getElem?_eq_getElem h]
    simp
  calc wval l = wval (l.take i ++ (l.getD i 0 :: l.drop (i + 1))) := by rw [← e]
    _ = _ := by rw [wval_append, List.length_take, Nat.min_eq_left (by omega)]; rfl
theorem lt_of_word {a b : List Nat} (ha : okW a) (hb : okW b) (i : Nat) (h1 : i < a.length) (h2 : i < b.length) (hd : a.drop (i + 1) = b.drop (i + 1)) (h : a.getD i 0 < b.getD i 0) : wval a < wval b := by
  rw [wval_split a i h1, wval_split b i h2, hd]
  have e1 : wval (a.take i) < bs ^ i := by
    have := wval_lt (okW_take ha i)
    rwa [List.length_take, Nat.min_eq_left (by omega)] at this
  have e2 : bs ^ i * (a.getD i 0 + bs * wval (b.drop (i + 1)) + 1) ≤ bs ^ i * (b.getD i 0 + bs * wval (b.drop (i + 1))) := Nat.mul_le_mul_left _ (by omega)
  rw [Nat.mul_add, Nat.mul_one] at e2
  omega
end Go.Proofs.YtajkdllakleakaaGreatDoor
/- Sums, differences, products and quotients of numbers in words: what holds behind each round. -/
namespace Go.Proofs.YtajkdllakleakaaGreatDoor
set_option linter.unusedVariables false
set_option linter.unusedSimpArgs false

theorem words_len_le (n k : Nat) (h : n < bs ^ k) : (words n).length ≤ k := words_len_lt n k h
theorem getD_past {l : List Nat} {i : Nat} (h : l.length ≤ i) : l.getD i 0 = 0 := by
  rw [List.getD_eq_getElem?_getD, List.getElem?_eq_none h]; rfl
theorem wval_take_succ' (l : List Nat) (k : Nat) : wval (l.take (k + 1)) = wval (l.take k) + bs ^ k * l.getD k 0 := by
  rcases Nat.lt_or_ge k l.length with h | h
  · exact wval_take_succ l k h
  · rw [List.take_of_length_le (by omega), List.take_of_length_le h, getD_past h]; simp
theorem take_all {l : List Nat} {k : Nat} (h : l.length ≤ k) : l.take k = l := List.take_of_length_le h

/-- One more word of a list that is filled from its head. -/
theorem fill_set (o : List Nat) (k x : Nat) (h : k < o.length) : (o.set k x).take (k + 1) = o.take k ++ [x] := by
  rw [List.take_succ_eq_append_getElem (by simpa using h), List.take_set_of_le (Nat.le_refl k)]
  simp
theorem wval_set (o : List Nat) (k x : Nat) (h : k < o.length) : wval (o.set k x) + bs ^ k * o.getD k 0 = wval o + bs ^ k * x := by
  rw [wval_split o k h, wval_split (o.set k x) k (by simpa using h)]
  have e1 : (o.set k x).take k = o.take k := by rw [List.take_set_of_le (Nat.le_refl k)]
  have e2 : (o.set k x).drop (k + 1) = o.drop (k + 1) := by rw [List.drop_set_of_lt (by omega)]
  have e3 : (o.set k x).getD k 0 = x := by
    rw [List.getD_eq_getElem?_getD, List.getElem?_eq_getElem (by simpa using h)]; simp
  rw [e1, e2, e3, Nat.mul_add, Nat.mul_add]
  omega

/-- A sum behind k rounds. -/
def PlusI (a b : List Nat) (n k : Nat) (o : List Nat) (c : Nat) : Prop :=
  o.length = n ∧ okW o ∧ c ≤ 1 ∧ wval (o.take k) + bs ^ k * c = wval (a.take k) + wval (b.take k)
theorem plus_start (a b : List Nat) (n : Nat) : PlusI a b n 0 (List.replicate n 0) 0 := by
  refine ⟨by simp, okW_rep n, by omega, by simp [wval]⟩
theorem plus_step {a b : List Nat} {n k : Nat} {o : List Nat} {c : Nat} (h : PlusI a b n k o c) (ha : okW a) (hb : okW b) (hk : k < n) :
    PlusI a b n (k + 1) (o.set k ((c + a.getD k 0 + b.getD k 0) % bs)) ((c + a.getD k 0 + b.getD k 0) / bs) := by
  obtain ⟨h1, h2, h3, h4⟩ := h
  have ga := okW_get ha k
  have gb := okW_get hb k
  refine ⟨by simpa using h1, okW_set h2 _ _ (Nat.mod_lt _ bs_pos), ?_, ?_⟩
  · have : (c + a.getD k 0 + b.getD k 0) < 2 * bs := by omega
    have := (Nat.div_lt_iff_lt_mul bs_pos).2 this
    omega
  · rw [fill_set _ _ _ (by omega), wval_append, List.length_take, Nat.min_eq_left (by omega), wval_take_succ', wval_take_succ']
    have e := Nat.mod_add_div (c + a.getD k 0 + b.getD k 0) bs
    generalize (c + a.getD k 0 + b.getD k 0) % bs = r at *
    generalize (c + a.getD k 0 + b.getD k 0) / bs = q at *
    have e2 : bs ^ k * (c + a.getD k 0 + b.getD k 0) = bs ^ k * (r + bs * q) := by rw [e]
    rw [Nat.mul_add, Nat.mul_add, Nat.mul_add] at e2
    have e3 : bs ^ (k + 1) * q = bs ^ k * (bs * q) := by rw [Nat.pow_succ, Nat.mul_assoc]
    have e4 : wval [r] = r := by simp [wval]
    rw [e3, e4]
    omega
theorem plus_end {a b o : List Nat} {n c : Nat} (h : PlusI a b n n o c) (ha : okW a) (hb : okW b) (hn : n = max a.length b.length + 1) : wval o = wval a + wval b := by
  obtain ⟨h1, h2, h3, h4⟩ := h
  rw [take_all (by omega), take_all (by omega), take_all (by omega)] at h4
  have la := wval_lt ha
  have lb := wval_lt hb
  have pa : bs ^ a.length ≤ bs ^ (max a.length b.length) := Nat.pow_le_pow_right bs_pos (Nat.le_max_left _ _)
  have pb : bs ^ b.length ≤ bs ^ (max a.length b.length) := Nat.pow_le_pow_right bs_pos (Nat.le_max_right _ _)
  have hp : bs ^ n = bs ^ (max a.length b.length) * 1000000000 := by rw [hn, Nat.pow_succ]; rfl
  rcases Nat.eq_zero_or_pos c with e | e
  · subst e; omega
  · obtain rfl : c = 1 := by omega
    omega

/-- A difference behind k rounds. -/
def MinusI (a b : List Nat) (n k : Nat) (o : List Nat) (c : Nat) : Prop :=
  o.length = n ∧ okW o ∧ c ≤ 1 ∧ o.drop k = a.drop k ∧ wval (o.take k) + wval (b.take k) + 0 = wval (a.take k) + bs ^ k * c - 0 ∧ wval (o.take k) + wval (b.take k) = wval (a.take k) + bs ^ k * c
theorem minus_start (a b : List Nat) (ha : okW a) : MinusI a b a.length 0 a 0 := by
  refine ⟨rfl, ha, by omega, rfl, by simp [wval], by simp [wval]⟩
/-- The word and the borrow of a round. -/
def subW (x t : Nat) : Nat := if x < t then x + bs - t else x - t
def subC (x t : Nat) : Nat := if x < t then 1 else 0
theorem minus_get {a b : List Nat} {n k : Nat} {o : List Nat} {c : Nat} (h : MinusI a b n k o c) (hk : k < n) : o.getD k 0 = a.getD k 0 := by
  have e := h.2.2.2.1
  have : (o.drop k).getD 0 0 = (a.drop k).getD 0 0 := by rw [e]
  simpa [List.getD_eq_getElem?_getD] using this
theorem minus_step {a b : List Nat} {n k : Nat} {o : List Nat} {c : Nat} (h : MinusI a b n k o c) (ha : okW a) (hb : okW b) (hn : n = a.length) (hk : k < n) :
    MinusI a b n (k + 1) (o.set k (subW (o.getD k 0) (c + b.getD k 0))) (subC (o.getD k 0) (c + b.getD k 0)) := by
  have hg := minus_get h hk
  obtain ⟨h1, h2, h3, h4, _, h5⟩ := h
  have ga := okW_get ha k
  have gb := okW_get hb k
  have hw : subW (o.getD k 0) (c + b.getD k 0) < bs := by unfold subW; split <;> omega
  have key : wval ((o.set k (subW (o.getD k 0) (c + b.getD k 0))).take (k + 1)) + wval (b.take (k + 1)) = wval (a.take (k + 1)) + bs ^ (k + 1) * subC (o.getD k 0) (c + b.getD k 0) := by
    rw [fill_set _ _ _ (by omega), wval_append, List.length_take, Nat.min_eq_left (by omega), wval_take_succ', wval_take_succ', hg]
    have e : subW (a.getD k 0) (c + b.getD k 0) + (c + b.getD k 0) = a.getD k 0 + bs * subC (a.getD k 0) (c + b.getD k 0) := by
      unfold subW subC; split <;> omega
    generalize subW (a.getD k 0) (c + b.getD k 0) = r at *
    generalize subC (a.getD k 0) (c + b.getD k 0) = q at *
    have e2 : bs ^ k * (r + (c + b.getD k 0)) = bs ^ k * (a.getD k 0 + bs * q) := by rw [e]
    rw [Nat.mul_add, Nat.mul_add, Nat.mul_add] at e2
    have e3 : bs ^ (k + 1) * q = bs ^ k * (bs * q) := by rw [Nat.pow_succ, Nat.mul_assoc]
    have e4 : wval [r] = r := by simp [wval]
    rw [e3, e4]
    omega
  refine ⟨by simpa using h1, okW_set h2 _ _ hw, by unfold subC; split <;> omega, ?_, by omega, key⟩
  rw [List.drop_set_of_lt (by omega)]
  have : (o.drop k).drop 1 = (a.drop k).drop 1 := by rw [h4]
  simpa [List.drop_drop] using this
theorem minus_end {a b o : List Nat} {c : Nat} (h : MinusI a b a.length a.length o c) (ha : okW a) (hb : okW b) (hl : b.length ≤ a.length) (hle : wval b ≤ wval a) : wval o = wval a - wval b := by
  obtain ⟨h1, h2, h3, h4, _, h5⟩ := h
  rw [take_all (by omega), take_all hl, take_all (by omega)] at h5
  have lo := wval_lt h2
  rw [h1] at lo
  rcases Nat.eq_zero_or_pos c with e | e
  · subst e; omega
  · obtain rfl : c = 1 := by omega
    omega

/-- A product: behind i whole rows and k words of the next one. -/
def TimesI (a b : List Nat) (i k : Nat) (o : List Nat) (c : Nat) : Prop :=
  o.length = a.length + b.length ∧ okW o ∧ c < bs ∧ wval o + bs ^ (i + k) * c = wval (a.take i) * wval b + bs ^ i * (a.getD i 0 * wval (b.take k)) ∧ ∀ j, i + b.length ≤ j → o.getD j 0 = 0
theorem times_start (a b : List Nat) : TimesI a b 0 0 (List.replicate (a.length + b.length) 0) 0 := by
  refine ⟨by simp, okW_rep _, bs_pos, by simp [wval, wval_rep], fun j _ => ?_⟩
  rw [List.getD_eq_getElem?_getD, List.getElem?_replicate]; split <;> rfl
theorem times_word {a b : List Nat} {i k : Nat} {o : List Nat} {c : Nat} (h : TimesI a b i k o c) (ha : okW a) (hb : okW b) :
    c + (o.getD (i + k) 0 + a.getD i 0 * b.getD k 0) < bs * bs := by
  have h1 := h.2.2.1
  have h2 := okW_get h.2.1 (i + k)
  have h3 := okW_get ha i
  have h4 := okW_get hb k
  have : a.getD i 0 * b.getD k 0 ≤ (bs - 1) * (bs - 1) := Nat.mul_le_mul (by omega) (by omega)
  have e : (bs - 1) * (bs - 1) = bs * bs - 2 * bs + 1 := by unfold bs; omega
  have e2 : 2 * bs ≤ bs * bs := by unfold bs; omega
  omega
theorem times_step {a b : List Nat} {i k : Nat} {o : List Nat} {c : Nat} (h : TimesI a b i k o c) (ha : okW a) (hb : okW b) (hi : i < a.length) (hk : k < b.length) :
    TimesI a b i (k + 1) (o.set (i + k) ((c + (o.getD (i + k) 0 + a.getD i 0 * b.getD k 0)) % bs)) ((c + (o.getD (i + k) 0 + a.getD i 0 * b.getD k 0)) / bs) := by
  have hw := times_word h ha hb
  obtain ⟨h1, h2, h3, h4, h5⟩ := h
  refine ⟨by simpa using h1, okW_set h2 _ _ (Nat.mod_lt _ bs_pos), (Nat.div_lt_iff_lt_mul bs_pos).2 hw, ?_, fun j hj => ?_⟩
  · have hs := wval_set o (i + k) ((c + (o.getD (i + k) 0 + a.getD i 0 * b.getD k 0)) % bs) (by omega)
    have e := Nat.mod_add_div (c + (o.getD (i + k) 0 + a.getD i 0 * b.getD k 0)) bs
    generalize (c + (o.getD (i + k) 0 + a.getD i 0 * b.getD k 0)) % bs = r at *
    generalize (c + (o.getD (i + k) 0 + a.getD i 0 * b.getD k 0)) / bs = q at *
    have e2 : bs ^ (i + k) * (r + bs * q) = bs ^ (i + k) * (c + (o.getD (i + k) 0 + a.getD i 0 * b.getD k 0)) := by rw [e]
    rw [Nat.mul_add, Nat.mul_add, Nat.mul_add] at e2
    have e3 : bs ^ (i + (k + 1)) * q = bs ^ (i + k) * (bs * q) := by rw [← Nat.add_assoc, Nat.pow_succ, Nat.mul_assoc]
    have e4 : bs ^ i * (a.getD i 0 * wval (b.take (k + 1))) = bs ^ i * (a.getD i 0 * wval (b.take k)) + bs ^ (i + k) * (a.getD i 0 * b.getD k 0) := by
      rw [wval_take_succ', Nat.mul_add, Nat.mul_add, Nat.pow_add]
      congr 1
      rw [Nat.mul_left_comm (a.getD i 0), Nat.mul_assoc]
    rw [e3, e4]
    omega
  · rw [List.getD_eq_getElem?_getD, List.getElem?_set, if_neg (by omega), ← List.getD_eq_getElem?_getD]
    exact h5 j hj
theorem times_row {a b : List Nat} {i : Nat} {o : List Nat} {c : Nat} (h : TimesI a b i b.length o c) (hi : i < a.length) :
    TimesI a b (i + 1) 0 (o.set (i + b.length) (o.getD (i + b.length) 0 + c)) 0 := by
  obtain ⟨h1, h2, h3, h4, h5⟩ := h
  have h0 := h5 (i + b.length) (Nat.le_refl _)
  rw [h0, Nat.zero_add]
  refine ⟨by simpa using h1, okW_set h2 _ _ h3, bs_pos, ?_, fun j hj => ?_⟩
  · have hs := wval_set o (i + b.length) c (by omega)
    rw [h0] at hs
    rw [take_all (Nat.le_refl _)] at h4
    have e1 : wval (a.take (i + 1)) * wval b = wval (a.take i) * wval b + bs ^ i * (a.getD i 0 * wval b) := by
      rw [wval_take_succ', Nat.add_mul, Nat.mul_assoc]
    have e2 : wval (b.take 0) = 0 := by simp [wval]
    rw [e1, e2, Nat.mul_zero, Nat.mul_zero, Nat.mul_zero]
    rw [Nat.mul_zero] at hs
    omega
  · rw [List.getD_eq_getElem?_getD, List.getElem?_set, if_neg (by omega), ← List.getD_eq_getElem?_getD]
    exact h5 j (by omega)
theorem times_end {a b o : List Nat} {c : Nat} (h : TimesI a b a.length 0 o c) (hc : c = 0) : wval o = wval a * wval b := by
  obtain ⟨h1, h2, h3, h4, h5⟩ := h
  subst hc
  rw [take_all (Nat.le_refl _)] at h4
  simpa [wval] using h4
end Go.Proofs.YtajkdllakleakaaGreatDoor
