/- Plain laws of layer 1: how often a number is halved; numbers together in two goes. No program in sight. -/
namespace Wn

/-- k is how often n is halved, rounded up, till it is 1. -/
def IsLog (n k : Nat) : Prop := (n ≤ 1 → k = 0) ∧ (1 < n → 1 ≤ k ∧ 2 ^ (k - 1) < n ∧ n ≤ 2 ^ k)

theorem pow_lt {a b : Nat} (h : 2 ^ a < 2 ^ b) : a < b := (Nat.pow_lt_pow_iff_right (by omega)).1 h
theorem IsLog.uniq {n k j : Nat} (h : IsLog n k) (h' : IsLog n j) : k = j := by
  by_cases hn : n ≤ 1
  · rw [h.1 hn, h'.1 hn]
  · obtain ⟨a1, a2, a3⟩ := h.2 (by omega)
    obtain ⟨b1, b2, b3⟩ := h'.2 (by omega)
    have c1 := pow_lt (Nat.lt_of_lt_of_le a2 b3)
    have c2 := pow_lt (Nat.lt_of_lt_of_le b2 a3)
    omega
theorem IsLog.le {n k : Nat} (h : IsLog n k) (hn : n < 2 ^ 63) : k ≤ 63 := by
  by_cases h1 : n ≤ 1
  · rw [h.1 h1]; omega
  · obtain ⟨a1, a2, a3⟩ := h.2 (by omega)
    have := pow_lt (Nat.lt_trans a2 hn)
    omega
theorem two_pow_succ' {k : Nat} (h : 1 ≤ k) : 2 ^ k = 2 * 2 ^ (k - 1) := by
  obtain ⟨j, rfl⟩ : ∃ j, k = j + 1 := ⟨k - 1, by omega⟩
  rw [Nat.pow_succ]; simp; omega
theorem IsLog.half {n k : Nat} (h : IsLog n k) (hn : 1 < n) : IsLog (n - n / 2) (k - 1) := by
  obtain ⟨a1, a2, a3⟩ := h.2 hn
  have e1 := two_pow_succ' a1
  constructor
  · intro h1
    by_cases hk : k = 1
    · omega
    · have e2 := two_pow_succ' (k := k - 1) (by omega)
      have := Nat.two_pow_pos (k - 1 - 1)
      omega
  · intro h1
    by_cases hk : k = 1
    · subst hk; simp at a3; omega
    · have e2 := two_pow_succ' (k := k - 1) (by omega)
      refine ⟨by omega, by omega, by omega⟩

/-- Where the halving stands behind j rounds: m is n over 2 ^ j, rounded up. -/
def LogAt (n m j : Nat) : Prop := 1 ≤ m ∧ n ≤ m * 2 ^ j ∧ (m - 1) * 2 ^ j < n ∧ (1 ≤ j → 2 ^ (j - 1) < n)
theorem LogAt.start {n : Nat} (h : 1 ≤ n) : LogAt n n 0 := ⟨h, by simp, by simp; omega, fun h => by omega⟩
theorem LogAt.step {n m j : Nat} (h : LogAt n m j) (hm : 1 < m) : LogAt n (m - m / 2) (j + 1) := by
  obtain ⟨h1, h2, h3, h4⟩ := h
  have hp := Nat.two_pow_pos j
  have hlow : 2 ^ j < n := by
    have : 1 * 2 ^ j ≤ (m - 1) * 2 ^ j := Nat.mul_le_mul_right _ (by omega)
    omega
  refine ⟨by omega, ?_, ?_, fun _ => by simpa using hlow⟩
  · have : m * 2 ^ j ≤ (2 * (m - m / 2)) * 2 ^ j := Nat.mul_le_mul_right _ (by omega)
    rw [Nat.pow_succ]
    have e : (m - m / 2) * (2 ^ j * 2) = (2 * (m - m / 2)) * 2 ^ j := by
      rw [Nat.mul_comm (2 ^ j) 2, ← Nat.mul_assoc, Nat.mul_comm (m - m / 2) 2]
    omega
  · have : (2 * (m - m / 2 - 1)) * 2 ^ j ≤ (m - 1) * 2 ^ j := Nat.mul_le_mul_right _ (by omega)
    rw [Nat.pow_succ]
    have e : (m - m / 2 - 1) * (2 ^ j * 2) = (2 * (m - m / 2 - 1)) * 2 ^ j := by
      rw [Nat.mul_comm (2 ^ j) 2, ← Nat.mul_assoc, Nat.mul_comm (m - m / 2 - 1) 2]
    omega
theorem LogAt.lt {n m j : Nat} (h : LogAt n m j) (hn : n < 2 ^ 63) : j ≤ 63 := by
  rcases Nat.eq_zero_or_pos j with hj | hj
  · omega
  · have := pow_lt (Nat.lt_trans (h.2.2.2 hj) hn)
    omega
theorem LogAt.done {n j : Nat} (h : LogAt n 1 j) : IsLog n j := by
  obtain ⟨_, h2, h3, h4⟩ := h
  simp at h2 h3
  constructor
  · intro hn
    rcases Nat.eq_zero_or_pos j with hj | hj
    · exact hj
    · have := h4 hj; have := Nat.two_pow_pos (j - 1); omega
  · intro hn
    rcases Nat.eq_zero_or_pos j with hj | hj
    · subst hj; simp at h2; omega
    · exact ⟨hj, h4 hj, h2⟩
end Wn
