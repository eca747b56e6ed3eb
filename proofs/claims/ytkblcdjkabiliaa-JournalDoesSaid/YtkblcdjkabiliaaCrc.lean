/- Plain law of the sum (CRC): no program in sight. -/
namespace Wn

/-- One bit of the sum. -/
def sh (s : Nat) : Nat := if s % 2 = 1 then s / 2 ^^^ 3988292384 else s / 2
/-- k bits. -/
def shN : Nat → Nat → Nat
  | 0, s => s
  | k + 1, s => shN k (sh s)
def stepB (s c : Nat) : Nat := shN 8 (s ^^^ c)
def run (s : Nat) (l : List UInt8) : Nat := l.foldl (fun s c => stepB s c.toNat) s
def crc (l : List UInt8) : Nat := run 4294967295 l ^^^ 4294967295

theorem xor_mod2 (a b : Nat) : (a ^^^ b) % 2 = (a % 2 + b % 2) % 2 := by
  have h := Nat.testBit_xor a b 0
  simp only [Nat.testBit_zero] at h
  rcases Nat.mod_two_eq_zero_or_one a with ha | ha <;> rcases Nat.mod_two_eq_zero_or_one b with hb | hb <;> rcases Nat.mod_two_eq_zero_or_one (a ^^^ b) with hc | hc <;> simp [ha, hb, hc] at h ⊢

theorem xor_div2 (a b : Nat) : (a ^^^ b) / 2 = a / 2 ^^^ b / 2 := by
  apply Nat.eq_of_testBit_eq
  intro i
  rw [← Nat.testBit_succ, Nat.testBit_xor, Nat.testBit_xor, Nat.testBit_succ, Nat.testBit_succ]

theorem sh_xor (a b : Nat) : sh (a ^^^ b) = sh a ^^^ sh b := by
  unfold sh
  rw [xor_mod2, xor_div2]
  rcases Nat.mod_two_eq_zero_or_one a with ha | ha <;> rcases Nat.mod_two_eq_zero_or_one b with hb | hb
  · simp [ha, hb]
  · simp [ha, hb, Nat.xor_assoc]
  · simp only [ha, hb]; simp
    rw [Nat.xor_assoc, Nat.xor_assoc, Nat.xor_comm (b / 2)]
  · simp only [ha, hb]; simp
    rw [Nat.xor_assoc, Nat.xor_comm (3988292384), Nat.xor_assoc, Nat.xor_self, Nat.xor_zero]

theorem sh_lt {s : Nat} (h : s < 4294967296) : sh s < 4294967296 := by
  unfold sh
  split
  · exact Nat.xor_lt_two_pow (n := 32) (by omega) (by omega)
  · omega

theorem sh_ne {s : Nat} (h : s < 4294967296) (h0 : s ≠ 0) : sh s ≠ 0 := by
  unfold sh
  split
  · intro h1
    have h2 : (s / 2 ^^^ 3988292384).testBit 31 = true := by
      rw [Nat.testBit_xor]
      have : (s / 2).testBit 31 = false := Nat.testBit_lt_two_pow (by omega)
      rw [this]; decide
    rw [h1] at h2; simp at h2
  · omega

theorem shN_xor (k : Nat) : ∀ a b, shN k (a ^^^ b) = shN k a ^^^ shN k b := by
  induction k with
  | zero => intro a b; rfl
  | succ k ih => intro a b; simp only [shN, sh_xor, ih]
theorem shN_lt (k : Nat) : ∀ s, s < 4294967296 → shN k s < 4294967296 := by
  induction k with
  | zero => intro s h; exact h
  | succ k ih => intro s h; exact ih _ (sh_lt h)
theorem shN_ne (k : Nat) : ∀ s, s < 4294967296 → s ≠ 0 → shN k s ≠ 0 := by
  induction k with
  | zero => intro s _ h; exact h
  | succ k ih => intro s h h0; exact ih _ (sh_lt h) (sh_ne h h0)
theorem shN_add (j k : Nat) : ∀ s, shN (j + k) s = shN k (shN j s) := by
  induction j with
  | zero => intro s; simp [shN]
  | succ j ih => intro s; rw [Nat.succ_add]; simp only [shN, ih]
theorem sh_zero : sh 0 = 0 := by decide
theorem shN_zero (k : Nat) : shN k 0 = 0 := by
  induction k with
  | zero => rfl
  | succ k ih => simp only [shN, sh_zero, ih]

theorem stepB_lt {s c : Nat} (h : s < 4294967296) (hc : c < 256) : stepB s c < 4294967296 :=
  shN_lt 8 _ (Nat.xor_lt_two_pow (n := 32) (by omega) (by omega))
theorem run_lt (l : List UInt8) : ∀ s, s < 4294967296 → run s l < 4294967296 := by
  induction l with
  | nil => intro s h; exact h
  | cons c l ih => intro s h; exact ih _ (stepB_lt h (by have := c.toNat_lt; omega))
theorem crc_lt (l : List UInt8) : crc l < 4294967296 :=
  Nat.xor_lt_two_pow (n := 32) (run_lt l _ (by omega)) (by omega)

theorem run_append (a b : List UInt8) (s : Nat) : run s (a ++ b) = run (run s a) b := by simp [run]
theorem run_snoc (a : List UInt8) (c : UInt8) (s : Nat) : run s (a ++ [c]) = stepB (run s a) c.toNat := by simp [run]

/-- Bytes as a number, the lowest first. -/
def le : List UInt8 → Nat
  | [] => 0
  | c :: l => c.toNat + 256 * le l

theorem xor_mul256 (c x : Nat) (h : c < 256) : c + 256 * x = c ^^^ (256 * x) := by
  apply Nat.eq_of_testBit_eq
  intro i
  rw [show c + 256 * x = 2 ^ 8 * x + c by omega, Nat.testBit_two_pow_mul_add x (show c < 2 ^ 8 by omega), Nat.testBit_xor, show 256 * x = 2 ^ 8 * x by rfl, Nat.testBit_two_pow_mul]
  by_cases hi : i < 8
  · simp [hi, show ¬ 8 ≤ i by omega]
  · have : c.testBit i = false := Nat.testBit_lt_two_pow (Nat.lt_of_lt_of_le h (by
      have := Nat.pow_le_pow_right (n := 2) (by omega) (show 8 ≤ i by omega)
      simpa using this))
    simp [hi, this]; omega

theorem sh_two_mul (x : Nat) : sh (2 * x) = x := by
  unfold sh; rw [if_neg (by omega)]; omega
theorem shN_pow_mul (k x : Nat) : shN k (2 ^ k * x) = x := by
  induction k with
  | zero => simp [shN]
  | succ k ih =>
    show shN k (sh (2 ^ (k + 1) * x)) = x
    rw [show 2 ^ (k + 1) * x = 2 * (2 ^ k * x) by rw [Nat.pow_succ, Nat.mul_comm (2 ^ k) 2, Nat.mul_assoc], sh_two_mul, ih]

theorem run_le (l : List UInt8) : ∀ s, run s l = shN (8 * l.length) (s ^^^ le l) := by
  induction l with
  | nil => intro s; simp [run, le, shN]
  | cons c l ih =>
    intro s
    show run (stepB s c.toNat) l = _
    rw [ih, List.length_cons, show 8 * (l.length + 1) = 8 + 8 * l.length by omega, shN_add]
    congr 1
    show _ = shN 8 (s ^^^ (c.toNat + 256 * le l))
    rw [xor_mul256 _ _ (by have := c.toNat_lt; omega), ← Nat.xor_assoc, shN_xor 8 _ (256 * le l), show 256 * le l = 2 ^ 8 * le l by rfl, shN_pow_mul]
    rfl

theorem xor_zero {a b : Nat} (h : a ^^^ b = 0) : a = b := by
  have e : a ^^^ b ^^^ b = 0 ^^^ b := by rw [h]
  rwa [Nat.xor_assoc, Nat.xor_self, Nat.xor_zero, Nat.zero_xor] at e

theorem xor4 (a b c d : Nat) : (a ^^^ b) ^^^ (c ^^^ d) = (a ^^^ c) ^^^ (b ^^^ d) := by
  simp only [Nat.xor_assoc]; congr 1
  simp only [← Nat.xor_assoc]; congr 1
  exact Nat.xor_comm _ _

theorem crc_eq_iff (l m : List UInt8) (h : l.length = m.length) : crc l = crc m ↔ shN (8 * l.length) (le l ^^^ le m) = 0 := by
  unfold crc
  rw [run_le, run_le, ← h]
  have hx : shN (8 * l.length) (4294967295 ^^^ le l) ^^^ shN (8 * l.length) (4294967295 ^^^ le m) = shN (8 * l.length) (le l ^^^ le m) := by
    rw [← shN_xor, xor4, Nat.xor_self, Nat.zero_xor]
  constructor
  · intro e
    rw [← hx]
    have e2 := congrArg (· ^^^ 4294967295) e
    simp only [Nat.xor_assoc, Nat.xor_self, Nat.xor_zero] at e2
    rw [e2, Nat.xor_self]
  · intro e
    rw [← hx] at e
    rw [xor_zero e]

/-- A burst: some bits, within 32 side by side, are turned: the sum is the same only if none is. -/
theorem crc_burst (l m : List UInt8) (h : l.length = m.length) (first w : Nat) (hf : first ≤ 8 * l.length) (hw : w < 4294967296) (he : le m = le l ^^^ (2 ^ first * w)) :
    crc l = crc m ↔ w = 0 := by
  rw [crc_eq_iff l m h, he, ← Nat.xor_assoc, Nat.xor_self, Nat.zero_xor, show 8 * l.length = first + (8 * l.length - first) by omega, shN_add, shN_pow_mul]
  constructor
  · intro e
    by_cases h0 : w = 0
    · exact h0
    · exact absurd e (shN_ne _ _ hw h0)
  · intro e; rw [e, shN_zero]

theorem mul_xor_256 (a b : Nat) : 256 * (a ^^^ b) = 256 * a ^^^ 256 * b := by
  apply Nat.eq_of_testBit_eq
  intro i
  have e : ∀ x, 256 * x = 2 ^ 8 * x := fun _ => rfl
  rw [e, e a, e b, Nat.testBit_xor, Nat.testBit_two_pow_mul, Nat.testBit_two_pow_mul, Nat.testBit_two_pow_mul, Nat.testBit_xor]
  by_cases h : 8 ≤ i <;> simp [h]

theorem le_set (l : List UInt8) : ∀ (j : Nat) (c : UInt8) (m : Nat), m < 256 → l[j]? = some c → le (l.set j (UInt8.ofNat (c.toNat ^^^ m))) = le l ^^^ (256 ^ j * m) := by
  induction l with
  | nil => intro j c m _ h; simp at h
  | cons d l ih =>
    intro j c m hm h
    cases j with
    | zero =>
      simp at h; subst h
      have hx : d.toNat ^^^ m < 256 := Nat.xor_lt_two_pow (n := 8) (by have := d.toNat_lt; omega) (by omega)
      have e1 : (UInt8.ofNat (d.toNat ^^^ m)).toNat = d.toNat ^^^ m := by rw [UInt8.toNat_ofNat']; exact Nat.mod_eq_of_lt (by omega)
      simp only [List.set_cons_zero, le, e1, Nat.pow_zero, Nat.one_mul]
      rw [xor_mul256 _ _ hx, xor_mul256 _ _ (by have := d.toNat_lt; omega), Nat.xor_assoc, Nat.xor_comm m, Nat.xor_assoc]
    | succ j =>
      simp at h
      simp only [List.set_cons_succ, le]
      rw [ih j c m hm h, xor_mul256 _ _ (by have := d.toNat_lt; omega), xor_mul256 _ _ (by have := d.toNat_lt; omega), mul_xor_256, Nat.xor_assoc]
      congr 2
      rw [Nat.pow_succ, ← Nat.mul_assoc]
      congr 1
      exact Nat.mul_comm _ _

theorem pow256 (j : Nat) : 256 ^ j = 2 ^ (8 * j) := by
  rw [Nat.pow_mul]

/-- One bit turned: bit k of all. -/
theorem le_turn (l : List UInt8) (k : Nat) (c : UInt8) (h : l[k / 8]? = some c) : le (l.set (k / 8) (UInt8.ofNat (c.toNat ^^^ 2 ^ (k % 8)))) = le l ^^^ 2 ^ k := by
  have hp : 2 ^ (k % 8) < 256 := Nat.lt_of_lt_of_le (Nat.pow_lt_pow_right (by omega) (show k % 8 < 8 by omega)) (by omega)
  rw [le_set l _ c _ hp h, pow256, ← Nat.pow_add]
  congr 2
  omega

/-- The turned bits so far, one more: bit i of w. -/
theorem mod_two_pow_succ (w i : Nat) : w % 2 ^ (i + 1) = (w % 2 ^ i) ^^^ (if w / 2 ^ i % 2 = 1 then 2 ^ i else 0) := by
  apply Nat.eq_of_testBit_eq
  intro j
  rw [Nat.testBit_xor, Nat.testBit_mod_two_pow, Nat.testBit_mod_two_pow]
  have hb : w.testBit i = decide (w / 2 ^ i % 2 = 1) := by
    rw [Nat.testBit_eq_decide_div_mod_eq]
  by_cases hji : j = i
  · subst hji
    rw [hb]
    by_cases h : w / 2 ^ j % 2 = 1 <;> simp [h]
  · have : (if w / 2 ^ i % 2 = 1 then 2 ^ i else 0).testBit j = false := by
      split
      · rw [Nat.testBit_two_pow]; simp; omega
      · simp
    rw [this]
    simp only [Bool.xor_false]
    congr 1
    simp; omega

theorem mul_xor_pow (f a b : Nat) : 2 ^ f * (a ^^^ b) = 2 ^ f * a ^^^ 2 ^ f * b := by
  apply Nat.eq_of_testBit_eq
  intro i
  rw [Nat.testBit_xor, Nat.testBit_two_pow_mul, Nat.testBit_two_pow_mul, Nat.testBit_two_pow_mul, Nat.testBit_xor]
  by_cases h : f ≤ i <;> simp [h]

/-- Round i of the turning: the bit is turned. -/
theorem le_round (b c : List UInt8) (first i w : Nat) (x : UInt8) (hc : le c = le b ^^^ 2 ^ first * (w % 2 ^ i)) (hx : c[(first + i) / 8]? = some x) (hb : w / 2 ^ i % 2 = 1) :
    le (c.set ((first + i) / 8) (UInt8.ofNat (x.toNat ^^^ 2 ^ ((first + i) % 8)))) = le b ^^^ 2 ^ first * (w % 2 ^ (i + 1)) := by
  rw [le_turn c _ x hx, hc, mod_two_pow_succ, if_pos hb, mul_xor_pow, Nat.xor_assoc, ← Nat.pow_add]
theorem le_round_no (b c : List UInt8) (first i w : Nat) (hc : le c = le b ^^^ 2 ^ first * (w % 2 ^ i)) (hb : ¬ w / 2 ^ i % 2 = 1) :
    le c = le b ^^^ 2 ^ first * (w % 2 ^ (i + 1)) := by
  rw [hc, mod_two_pow_succ, if_neg hb, Nat.xor_zero]

/-- A number's four bytes, the lowest first. -/
def le4 (s : Nat) : List UInt8 := [UInt8.ofNat s, UInt8.ofNat (s / 256), UInt8.ofNat (s / 65536), UInt8.ofNat (s / 16777216)]
theorem le4_length (s : Nat) : (le4 s).length = 4 := rfl
theorem le_le4 (s : Nat) (h : s < 4294967296) : le (le4 s) = s := by
  simp only [le4, le, UInt8.toNat_ofNat']
  omega
theorem le4_inj {s t : Nat} (hs : s < 4294967296) (ht : t < 4294967296) (h : le4 s = le4 t) : s = t := by
  rw [← le_le4 s hs, ← le_le4 t ht, h]

end Wn
