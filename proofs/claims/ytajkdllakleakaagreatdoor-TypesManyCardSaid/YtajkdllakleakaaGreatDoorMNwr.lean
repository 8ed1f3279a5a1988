/- Quotients by words, and decimal digits: plain laws. -/
import Derived.Test.YtajkdllakleakaaGreatDoorM4
namespace Go.Proofs.YtajkdllakleakaaGreatDoor
set_option linter.unusedVariables false
set_option linter.unusedSimpArgs false

/-- A division: the words from place k on are divided. -/
def OverI (a : List Nat) (B k : Nat) (q : List Nat) (r : Nat) : Prop :=
  q.length = a.length ∧ okW q ∧ r < B ∧ wval (a.drop k) = B * wval (q.drop k) + r
theorem over_start (a : List Nat) (B : Nat) (hB : 0 < B) : OverI a B a.length (List.replicate a.length 0) 0 := by
  refine ⟨by simp, okW_rep _, hB, ?_⟩
  rw [List.drop_of_length_le (Nat.le_refl _), List.drop_of_length_le (by simp)]
  simp [wval]
theorem wval_drop (l : List Nat) (k : Nat) (h : k < l.length) : wval (l.drop k) = l.getD k 0 + bs * wval (l.drop (k + 1)) := by
  rw [List.drop_eq_getElem_cons h, List.getD_eq_getElem?_getD, List.getElem?_eq_getElem h]; rfl
theorem over_step {a : List Nat} {B k : Nat} {q : List Nat} {r low : Nat} (h : OverI a B (k + 1) q r) (hk : k < a.length) (hlow : low < bs)
    (h1 : B * low ≤ a.getD k 0 + bs * r) (h2 : a.getD k 0 + bs * r < B * (low + 1)) : OverI a B k (q.set k low) (a.getD k 0 + bs * r - B * low) := by
  obtain ⟨e1, e2, e3, e4⟩ := h
  refine ⟨by simpa using e1, okW_set e2 _ _ hlow, ?_, ?_⟩
  · rw [Nat.mul_add, Nat.mul_one] at h2; omega
  · rw [wval_drop a k hk, wval_drop _ k (by simpa using (by omega : k < q.length)), List.drop_set_of_lt (by omega), e4]
    have : (q.set k low).getD k 0 = low := by
      rw [List.getD_eq_getElem?_getD, List.getElem?_eq_getElem (by simp; omega)]; simp
    rw [this, Nat.mul_add, Nat.mul_add]
    have : bs * (B * wval (q.drop (k + 1))) = B * (bs * wval (q.drop (k + 1))) := Nat.mul_left_comm _ _ _
    omega
theorem over_lt {a : List Nat} {B k : Nat} {q : List Nat} {r : Nat} (h : OverI a B (k + 1) q r) (ha : okW a) : a.getD k 0 + bs * r < B * bs := by
  have h1 := okW_get ha k
  have h2 := h.2.2.1
  have : bs * (r + 1) ≤ bs * B := Nat.mul_le_mul_left _ h2
  rw [Nat.mul_add, Nat.mul_one] at this
  rw [Nat.mul_comm B bs]
  omega
theorem over_end {a : List Nat} {B : Nat} {q : List Nat} {r : Nat} (h : OverI a B 0 q r) : wval q = wval a / B ∧ r = wval a % B := by
  obtain ⟨e1, e2, e3, e4⟩ := h
  simp only [List.drop_zero] at e4
  have hB : 0 < B := by omega
  constructor
  · rw [e4, Nat.mul_add_div hB, Nat.div_eq_of_lt e3, Nat.add_zero]
  · rw [e4, Nat.mul_add_mod, Nat.mod_eq_of_lt e3]

/-- Digits, the lowest first. -/
def ldv : List Nat → Nat
  | [] => 0
  | d :: l => d + 10 * ldv l
def digs : Nat → Nat → List Nat
  | _, 0 => []
  | n, k + 1 => n % 10 :: digs (n / 10) k
theorem digs_len (n k : Nat) : (digs n k).length = k := by
  induction k generalizing n with
  | zero => rfl
  | succ k ih => simp [digs, ih]
theorem digs_lt (n k x : Nat) (h : x ∈ digs n k) : x < 10 := by
  induction k generalizing n with
  | zero => simp [digs] at h
  | succ k ih =>
    simp only [digs, List.mem_cons] at h
    rcases h with rfl | h
    · omega
    · exact ih _ h
theorem digs_ldv (l : List Nat) (h : ∀ x, x ∈ l → x < 10) : l = digs (ldv l) l.length := by
  induction l with
  | nil => rfl
  | cons d l ih =>
    have h1 := h d (List.mem_cons_self)
    show d :: l = (d + 10 * ldv l) % 10 :: digs ((d + 10 * ldv l) / 10) l.length
    rw [Nat.add_mul_mod_self_left, Nat.mod_eq_of_lt h1, Nat.add_mul_div_left _ _ (by decide), Nat.div_eq_of_lt h1, Nat.zero_add, ← ih fun x hx => h x (List.mem_cons_of_mem _ hx)]
theorem ldv_digs (n k : Nat) : ldv (digs n k) = n % 10 ^ k := by
  induction k generalizing n with
  | zero => simp [digs, ldv, Nat.mod_one]
  | succ k ih =>
    show n % 10 + 10 * ldv (digs (n / 10) k) = _
    rw [ih, Nat.pow_succ, Nat.mul_comm (10 ^ k) 10, Nat.mod_mul]
theorem ldv_append (a b : List Nat) : ldv (a ++ b) = ldv a + 10 ^ a.length * ldv b := by
  induction a with
  | nil => simp [ldv]
  | cons x l ih =>
    show x + 10 * ldv (l ++ b) = x + 10 * ldv l + 10 ^ (l.length + 1) * ldv b
    rw [ih, Nat.pow_succ, Nat.mul_add]
    have : 10 ^ l.length * 10 * ldv b = 10 * (10 ^ l.length * ldv b) := by rw [Nat.mul_comm (10 ^ l.length) 10, Nat.mul_assoc]
    omega
theorem ldv_rep (n : Nat) : ldv (List.replicate n 0) = 0 := by
  induction n with
  | zero => rfl
  | succ n ih => rw [List.replicate_succ]; show 0 + 10 * ldv _ = 0; rw [ih]
theorem ldv_lt {l : List Nat} (h : ∀ x, x ∈ l → x < 10) : ldv l < 10 ^ l.length := by
  induction l with
  | nil => simp [ldv]
  | cons x l ih =>
    have h1 := h x (List.mem_cons_self)
    have h2 := ih (fun y hy => h y (List.mem_cons_of_mem _ hy))
    show x + 10 * ldv l < 10 ^ (l.length + 1)
    rw [Nat.pow_succ]
    omega
/-- How many digits a number has; 0 has none. -/
def nd (n : Nat) : Nat := if h : n = 0 then 0 else nd (n / 10) + 1
termination_by n
decreasing_by exact Nat.div_lt_self (by omega) (by decide)
theorem nd_zero : nd 0 = 0 := by rw [nd]; simp
theorem nd_pos {n : Nat} (h : 0 < n) : nd n = nd (n / 10) + 1 := by rw [nd, dif_neg (by omega)]
theorem lt_nd (n : Nat) : n < 10 ^ nd n := by
  induction n using Nat.strongRecOn with
  | _ n ih =>
    rcases Nat.eq_zero_or_pos n with rfl | h
    · rw [nd_zero]; decide
    · rw [nd_pos h, Nat.pow_succ]
      have := ih (n / 10) (Nat.div_lt_self h (by decide))
      omega
theorem nd_le {n k : Nat} (h : n < 10 ^ k) : nd n ≤ k := by
  induction k generalizing n with
  | zero => obtain rfl : n = 0 := by simpa using h
            rw [nd_zero]; exact Nat.le_refl _
  | succ k ih =>
    rcases Nat.eq_zero_or_pos n with rfl | hp
    · rw [nd_zero]; exact Nat.zero_le _
    · rw [nd_pos hp]
      have : n / 10 < 10 ^ k := by rw [Nat.pow_succ] at h; omega
      have := ih this
      omega
theorem nd_ge {n k : Nat} (h : 10 ^ k ≤ n) : k < nd n := by
  rcases Nat.lt_or_ge k (nd n) with e | e
  · exact e
  · have := lt_nd n
    have : 10 ^ nd n ≤ 10 ^ k := Nat.pow_le_pow_right (Nat.le_of_lt (by decide : 1 < 10)) e
    omega
/-- A digit that is not 0 at the end tells the length. -/
theorem nd_of_last (l : List Nat) (h : ∀ x, x ∈ l → x < 10) (k : Nat) (hk : l.length = k + 1) (h0 : l.getD k 0 ≠ 0) : nd (ldv l) = k + 1 := by
  have h1 := nd_le (ldv_lt h)
  have e : l = l.take k ++ [l.getD k 0] := by rw [← take_getD_succ l k (by omega), List.take_of_length_le (by omega)]
  have h2 : 10 ^ k ≤ ldv l := by
    rw [e, ldv_append, List.length_take, Nat.min_eq_left (by omega)]
    have : 10 ^ k * 1 ≤ 10 ^ k * ldv [l.getD k 0] := Nat.mul_le_mul_left _ (by show 1 ≤ _ + 10 * ldv []; have := Nat.pos_of_ne_zero h0; omega)
    omega
  have := nd_ge h2
  rw [hk] at h1
  omega
/-- A word's nine digits, and those of several words. -/
def wdigs (l : List Nat) : List Nat := l.flatMap fun x => digs x 9
theorem wdigs_lt (l : List Nat) (x : Nat) (h : x ∈ wdigs l) : x < 10 := by
  unfold wdigs at h
  rw [List.mem_flatMap] at h
  obtain ⟨y, _, hy⟩ := h
  exact digs_lt _ _ _ hy
theorem wdigs_len (l : List Nat) : (wdigs l).length = 9 * l.length := by
  induction l with
  | nil => rfl
  | cons x l ih =>
    show (digs x 9 ++ wdigs l).length = _
    rw [List.length_append, digs_len, ih, List.length_cons]; omega
theorem wdigs_append (a b : List Nat) : wdigs (a ++ b) = wdigs a ++ wdigs b := by simp [wdigs]
theorem wdigs_val (l : List Nat) (h : okW l) : ldv (wdigs l) = wval l := by
  induction l with
  | nil => rfl
  | cons x l ih =>
    have h1 := h x (List.mem_cons_self)
    show ldv (digs x 9 ++ wdigs l) = x + bs * wval l
    rw [ldv_append, digs_len, ldv_digs, ih fun y hy => h y (List.mem_cons_of_mem _ hy)]
    have e : (10 : Nat) ^ 9 = bs := by rfl
    rw [e, Nat.mod_eq_of_lt h1]
/-- The digits of a number, at least so many. -/
def decl (n least : Nat) : List Nat := digs n (max least (nd n))
theorem decl_len (n least : Nat) : (decl n least).length = max least (nd n) := digs_len _ _
/-- What is left when zeros at the end go, down to a length, and zeros are put there up to it. -/
theorem decl_of (l : List Nat) (h : ∀ x, x ∈ l → x < 10) (n least : Nat) (hv : ldv l = n) (h1 : least < l.length → ∀ k, l.length = k + 1 → l.getD k 0 ≠ 0) : l ++ List.replicate (least - l.length) 0 = decl n least := by
  have hz : ∀ x, x ∈ l ++ List.replicate (least - l.length) 0 → x < 10 := fun x hx => by
    rcases List.mem_append.1 hx with e | e
    · exact h x e
    · rw [List.eq_of_mem_replicate e]; decide
  have e := digs_ldv _ hz
  rw [ldv_append, ldv_rep, Nat.mul_zero, Nat.add_zero, hv, List.length_append, List.length_replicate] at e
  rw [e]
  unfold decl
  congr 1
  rcases Nat.lt_or_ge least l.length with c | c
  · obtain ⟨k, hk⟩ : ∃ k, l.length = k + 1 := ⟨l.length - 1, by omega⟩
    have := nd_of_last l h k hk (h1 c k hk)
    rw [hv] at this
    omega
  · have := nd_le (ldv_lt h)
    have h2 : 10 ^ l.length ≤ 10 ^ least := Nat.pow_le_pow_right (by decide) c
    rw [hv] at this
    omega

/-- The number of a text of digits, the highest first. -/
def dgv (l : List UInt8) : Nat := l.foldl (fun a c => 10 * a + (c.toNat - 48)) 0
theorem dgv_snoc (l : List UInt8) (c : UInt8) : dgv (l ++ [c]) = 10 * dgv l + (c.toNat - 48) := by simp [dgv]
theorem dgv_acc (l : List UInt8) (a : Nat) : l.foldl (fun a c => 10 * a + (c.toNat - 48)) a = a * 10 ^ l.length + dgv l := by
  induction l generalizing a with
  | nil => simp [dgv]
  | cons c l ih =>
    show l.foldl _ (10 * a + (c.toNat - 48)) = _
    rw [ih]
    have : dgv (c :: l) = (10 * 0 + (c.toNat - 48)) * 10 ^ l.length + dgv l := by rw [← ih]; rfl
    rw [this, List.length_cons, Nat.pow_succ, Nat.add_mul, Nat.mul_comm 10 a, Nat.mul_assoc, Nat.mul_comm 10 (10 ^ l.length)]
    simp; omega
theorem dgv_append (a b : List UInt8) : dgv (a ++ b) = dgv a * 10 ^ b.length + dgv b := by
  unfold dgv; rw [List.foldl_append]; exact dgv_acc b _
def isDig (c : UInt8) : Prop := 48 ≤ c.toNat ∧ c.toNat ≤ 57
theorem dgv_lt (l : List UInt8) (h : ∀ c, c ∈ l → isDig c) : dgv l < 10 ^ l.length := by
  induction l with
  | nil => decide
  | cons c l ih =>
    have h1 := h c (List.mem_cons_self)
    have h2 := ih fun x hx => h x (List.mem_cons_of_mem _ hx)
    have : c :: l = [c] ++ l := rfl
    rw [this, dgv_append, List.length_append, List.length_singleton, Nat.add_comm 1, Nat.pow_succ]
    have e : dgv [c] = c.toNat - 48 := by simp [dgv]
    rw [e]
    have : (c.toNat - 48) * 10 ^ l.length ≤ 9 * 10 ^ l.length := Nat.mul_le_mul_right _ (by unfold isDig at h1; omega)
    omega
/-- A digit as a byte. -/
def dch (d : Nat) : UInt8 := UInt8.ofNat (48 + d)
theorem dch_nat {d : Nat} (h : d < 10) : (dch d).toNat = 48 + d := by
  unfold dch; rw [UInt8.toNat_ofNat']; omega
theorem dgv_rev (l : List Nat) (h : ∀ x, x ∈ l → x < 10) : dgv ((l.map dch).reverse) = ldv l := by
  induction l with
  | nil => rfl
  | cons d l ih =>
    rw [List.map_cons, List.reverse_cons, dgv_snoc, ih fun x hx => h x (List.mem_cons_of_mem _ hx), dch_nat (h d List.mem_cons_self)]
    show _ = d + 10 * ldv l
    omega
end Go.Proofs.YtajkdllakleakaaGreatDoor
