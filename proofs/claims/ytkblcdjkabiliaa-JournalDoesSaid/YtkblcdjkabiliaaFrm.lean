/- Plain laws of numbers as bytes, and of frames. No program in sight. -/
import Derived.Test.YtkblcdjkabiliaaCrc
namespace Wn

/-- A number's bytes, with fuel. -/
def vbF : Nat → Nat → List UInt8
  | 0, n => [UInt8.ofNat n]
  | f + 1, n => if n < 128 then [UInt8.ofNat n] else UInt8.ofNat (128 + n % 128) :: vbF f (n / 128)
def vb (n : Nat) : List UInt8 := vbF 9 n
/-- The bytes' number. -/
def num7 : List UInt8 → Nat
  | [] => 0
  | c :: l => c.toNat % 128 + 128 * num7 l
/-- How many bytes of at least 128 stand ahead, at most f. -/
def cl : Nat → List UInt8 → Nat
  | 0, _ => 0
  | _ + 1, [] => 0
  | f + 1, c :: l => if c.toNat < 128 then 0 else cl f l + 1
/-- The number that begins bytes, how many bytes it has, and what is wrong. -/
def rdNum (b : List UInt8) : Nat × Nat × Nat :=
  if cl 8 b = 8 then (0, 0, 11) else if cl 8 b = b.length then (0, 0, 10) else
  if (0 < cl 8 b ∧ b[cl 8 b]? = some 0) ∨ 281474976710656 < num7 (b.take (cl 8 b + 1)) then (0, 0, 11) else (num7 (b.take (cl 8 b + 1)), cl 8 b + 1, 0)

theorem vbF_more (f : Nat) : ∀ n, n < 128 ^ (f + 1) → vbF (f + 1) n = vbF f n := by
  induction f with
  | zero => intro n h; simp at h; simp [vbF, h]
  | succ f ih =>
    intro n h
    by_cases h1 : n < 128
    · rw [vbF, if_pos h1, vbF, if_pos h1]
    · have h2 : n / 128 < 128 ^ (f + 1) := by
        rw [Nat.pow_succ] at h
        exact Nat.div_lt_of_lt_mul (by omega)
      have e1 : vbF (f + 1 + 1) n = UInt8.ofNat (128 + n % 128) :: vbF (f + 1) (n / 128) := by rw [show f + 1 + 1 = (f + 1) + 1 from rfl]; simp only [vbF, if_neg h1]
      have e2 : vbF (f + 1) n = UInt8.ofNat (128 + n % 128) :: vbF f (n / 128) := by simp only [vbF, if_neg h1]
      rw [e1, e2, ih _ h2]
theorem vb_small {n : Nat} (h : n < 128) : vb n = [UInt8.ofNat n] := by unfold vb; rw [vbF, if_pos h]
theorem vb_big {n : Nat} (h : ¬ n < 128) (hn : n < 128 ^ 9) : vb n = UInt8.ofNat (128 + n % 128) :: vb (n / 128) := by
  unfold vb
  rw [show vbF 9 n = vbF (8 + 1) n from rfl, vbF, if_neg h, show vbF 9 (n / 128) = vbF (8 + 1) (n / 128) from rfl, vbF_more 8]
  have : n / 128 < 128 ^ 9 := Nat.lt_of_le_of_lt (Nat.div_le_self _ _) hn
  exact this

/-- Everything of a number's bytes at once: j of them, all but the last of at least 128. -/
theorem vb_facts (j : Nat) : ∀ n, 128 ^ j ≤ n ∨ j = 0 → n < 128 ^ (j + 1) → j < 9 →
    (vb n).length = j + 1 ∧ num7 (vb n) = n ∧ (∀ (f : Nat) (rest : List UInt8), j < f → cl f (vb n ++ rest) = j) ∧ (∀ (f i : Nat), i ≤ j → i < f → cl f ((vb n).take i) = i) ∧ (∃ c : UInt8, (vb n)[j]? = some c ∧ c.toNat < 128 ∧ (0 < j → c ≠ 0)) := by
  induction j with
  | zero =>
    intro n _ h _
    simp at h
    have e : (UInt8.ofNat n).toNat = n := by rw [UInt8.toNat_ofNat']; omega
    rw [vb_small h]
    refine ⟨rfl, by simp only [num7, e]; omega, fun f rest hf => ?_, fun f i hi hf => ?_, UInt8.ofNat n, rfl, by omega, fun h => by omega⟩
    · obtain ⟨f, rfl⟩ : ∃ g, f = g + 1 := ⟨f - 1, by omega⟩
      simp [cl, e, h]
    · obtain rfl : i = 0 := by omega
      cases f <;> simp [cl]
  | succ j ih =>
    intro n hlo hhi hj
    have hlo' : 128 ^ (j + 1) ≤ n := by omega
    have hp : 128 ^ 1 ≤ 128 ^ (j + 1) := Nat.pow_le_pow_right (by omega) (by omega)
    have hn : ¬ n < 128 := by simp at hp; omega
    have hn9 : n < 128 ^ 9 ∨ j + 1 = 8 := by
      rcases Nat.lt_or_ge (j + 2) 10 with h | h
      · left; exact Nat.lt_of_lt_of_le hhi (Nat.pow_le_pow_right (by omega) (by omega))
      · right; omega
    have hn9' : n < 128 ^ 9 := by
      rcases hn9 with h | h
      · exact h
      · rw [show j + 1 + 1 = 9 by omega] at hhi; exact hhi
    have hdiv : 128 ^ j ≤ n / 128 := by
      rw [Nat.le_div_iff_mul_le (by omega)]
      rw [Nat.pow_succ] at hlo'; exact hlo'
    have hdiv2 : n / 128 < 128 ^ (j + 1) := by
      rw [Nat.pow_succ] at hhi
      exact Nat.div_lt_of_lt_mul (by omega)
    obtain ⟨i1, i2, i3, i4, c, i5, i6, i7⟩ := ih (n / 128) (.inl hdiv) hdiv2 (by omega)
    have e : (UInt8.ofNat (128 + n % 128)).toNat = 128 + n % 128 := by rw [UInt8.toNat_ofNat']; omega
    rw [vb_big hn hn9']
    refine ⟨by simp [i1], by simp only [num7, e, i2]; omega, fun f rest hf => ?_, fun f i hi hf => ?_, c, by simpa using i5, i6, fun _ => ?_⟩
    · obtain ⟨f, rfl⟩ : ∃ g, f = g + 1 := ⟨f - 1, by omega⟩
      rw [List.cons_append, cl, if_neg (by omega), i3 f rest (by omega)]
    · obtain ⟨f, rfl⟩ : ∃ g, f = g + 1 := ⟨f - 1, by omega⟩
      cases i with
      | zero => simp [cl]
      | succ i => rw [List.take_succ_cons, cl, if_neg (by omega), i4 f i (by omega) (by omega)]
    · rcases Nat.eq_zero_or_pos j with h0 | h0
      · subst h0
        have h128 : n / 128 < 128 := by simpa using hdiv2
        rw [vb_small h128] at i5
        simp at i5
        rintro rfl
        have : (UInt8.ofNat (n / 128)).toNat = (0 : UInt8).toNat := by rw [i5]
        rw [UInt8.toNat_ofNat'] at this
        simp at this
        simp at hdiv
        omega
      · exact i7 h0

theorem exists_pow (n : Nat) (hn : n < 128 ^ 8) : ∃ j, (128 ^ j ≤ n ∨ j = 0) ∧ n < 128 ^ (j + 1) ∧ j < 8 := by
  have key : ∀ m, m < 8 → n < 128 ^ (m + 1) → ∃ j, (128 ^ j ≤ n ∨ j = 0) ∧ n < 128 ^ (j + 1) ∧ j < 8 := by
    intro m
    induction m with
    | zero => intro _ h; exact ⟨0, .inr rfl, h, by omega⟩
    | succ m ih =>
      intro hm h
      rcases Nat.lt_or_ge n (128 ^ (m + 1)) with hl | hl
      · exact ih (by omega) hl
      · exact ⟨m + 1, .inl hl, h, hm⟩
  exact key 7 (by omega) hn

theorem vb_pos (n : Nat) (hn : n < 128 ^ 8) : 0 < (vb n).length ∧ (vb n).length ≤ 8 := by
  obtain ⟨j, h1, h2, h3⟩ := exists_pow n hn
  have := (vb_facts j n h1 h2 (by omega)).1
  omega
theorem vb_len3 {n : Nat} (hn : n ≤ 32768) : (vb n).length ≤ 3 := by
  obtain ⟨j, h1, h2, h3⟩ := exists_pow n (Nat.lt_of_le_of_lt hn (by decide))
  have hl := (vb_facts j n h1 h2 (by omega)).1
  rcases h1 with h1 | h1
  · have : j ≤ 2 := by
      rcases Nat.lt_or_ge j 3 with h | h
      · omega
      · have h3 : 128 ^ 3 ≤ 128 ^ j := Nat.pow_le_pow_right (by omega) h
        have : 128 ^ 3 = 2097152 := by decide
        omega
    omega
  · omega

/-- A number is read as it was put. -/
theorem rdNum_vb (n : Nat) (hn : n ≤ 281474976710656) (rest : List UInt8) : rdNum (vb n ++ rest) = (n, (vb n).length, 0) := by
  have hp : (281474976710656 : Nat) < 128 ^ 8 := by decide
  obtain ⟨j, h1, h2, h3⟩ := exists_pow n (by omega)
  obtain ⟨i1, i2, i3, _, c, i5, i6, i7⟩ := vb_facts j n h1 h2 (by omega)
  have hcl := i3 8 rest h3
  unfold rdNum
  rw [hcl, if_neg (by omega), if_neg (by rw [List.length_append]; omega)]
  have ht : (vb n ++ rest).take (j + 1) = vb n := by rw [← i1, List.take_left]
  have hg : (vb n ++ rest)[j]? = some c := by rw [List.getElem?_append_left (by omega)]; exact i5
  rw [ht, i2, hg, if_neg, i1]
  rintro (⟨a, b⟩ | h)
  · simp at b; exact i7 a b
  · omega
/-- A first part of a number is short. -/
theorem rdNum_short (n : Nat) (hn : n ≤ 32768) (i : Nat) (hi : i < (vb n).length) : rdNum ((vb n).take i) = (0, 0, 10) := by
  have hl3 := vb_len3 hn
  obtain ⟨j, h1, h2, h3⟩ := exists_pow n (Nat.lt_of_le_of_lt hn (by decide))
  obtain ⟨i1, _, _, i4, _⟩ := vb_facts j n h1 h2 (by omega)
  have hcl := i4 8 i (by omega) (by omega)
  unfold rdNum
  rw [hcl, if_neg (by omega), if_pos (by rw [List.length_take]; omega)]

/-- Do bytes end in their sum? -/
def whole (b : List UInt8) : Bool := decide (4 ≤ b.length ∧ b.drop (b.length - 4) = le4 (crc (b.take (b.length - 4))))
/-- The frame that begins bytes: its load, its size, what is wrong. -/
def rdFrame (b : List UInt8) : List UInt8 × Nat × Nat :=
  if (rdNum b).2.2 ≠ 0 then ([], 0, (rdNum b).2.2) else
  if 32768 < (rdNum b).1 then ([], 0, 12) else
  if b.length < (rdNum b).2.1 + (rdNum b).1 + 4 then ([], 0, 10) else
  if whole (b.take ((rdNum b).2.1 + (rdNum b).1 + 4)) = false then ([], 0, 13) else
  ((b.drop (rdNum b).2.1).take (rdNum b).1, (rdNum b).2.1 + (rdNum b).1 + 4, 0)
def opFrame (b : List UInt8) : List UInt8 × Nat :=
  if (rdFrame b).2.2 = 0 ∧ (rdFrame b).2.1 < b.length then ([], 14) else ((rdFrame b).1, (rdFrame b).2.2)
/-- The frame's head and load; the frame. -/
def hdFrame (load : List UInt8) : List UInt8 := vb load.length ++ load
def mkFrame (load : List UInt8) : List UInt8 := hdFrame load ++ le4 (crc (hdFrame load))

theorem mk_length (load : List UInt8) : (mkFrame load).length = (vb load.length).length + load.length + 4 := by
  simp [mkFrame, hdFrame, le4_length]; omega
theorem whole_mk (p : List UInt8) : whole (p ++ le4 (crc p)) = true := by
  have h : (p ++ le4 (crc p)).length - 4 = p.length := by simp [le4_length]
  unfold whole
  rw [h, decide_eq_true_iff]
  exact ⟨by simp [le4_length], by rw [List.drop_left, List.take_left]⟩
/-- A frame is read as it was made. -/
theorem rdFrame_mk (load rest : List UInt8) (h : load.length ≤ 32768) : rdFrame (mkFrame load ++ rest) = (load, (mkFrame load).length, 0) := by
  have hn : rdNum (mkFrame load ++ rest) = (load.length, (vb load.length).length, 0) := by
    unfold mkFrame hdFrame
    rw [List.append_assoc, List.append_assoc]
    exact rdNum_vb _ (by omega) _
  have hl := mk_length load
  have ht : (mkFrame load ++ rest).take ((vb load.length).length + load.length + 4) = mkFrame load := by rw [← hl, List.take_left]
  unfold rdFrame
  simp only [hn]
  rw [if_neg (by simp), if_neg (by omega), if_neg (by rw [List.length_append]; omega), ht, if_neg, hl]
  · congr 1
    unfold mkFrame hdFrame
    rw [List.append_assoc, List.append_assoc, List.drop_left, List.take_left]
  · unfold mkFrame; rw [whole_mk]; simp
/-- A first part of a frame is short. -/
theorem rdFrame_short (load : List UInt8) (h : load.length ≤ 32768) (i : Nat) (hi : i < (mkFrame load).length) : rdFrame ((mkFrame load).take i) = ([], 0, 10) := by
  have hl := mk_length load
  by_cases hv : i < (vb load.length).length
  · have ht : (mkFrame load).take i = (vb load.length).take i := by
      unfold mkFrame hdFrame
      rw [List.append_assoc, List.take_append_of_le_length (by omega)]
    unfold rdFrame
    rw [ht, rdNum_short _ h i hv]
    simp
  · have hsplit : (mkFrame load).take i = vb load.length ++ (load ++ le4 (crc (hdFrame load))).take (i - (vb load.length).length) := by
      unfold mkFrame hdFrame
      rw [List.append_assoc, List.take_append, List.take_of_length_le (by omega)]
    have hn : rdNum ((mkFrame load).take i) = (load.length, (vb load.length).length, 0) := by
      rw [hsplit]; exact rdNum_vb _ (by omega) _
    unfold rdFrame
    simp only [hn]
    rw [if_neg (by simp), if_neg (by omega), if_pos (by rw [List.length_take]; omega)]

/-- What is read is no longer than what there is. -/
theorem rdFrame_ok {b : List UInt8} (h : (rdFrame b).2.2 = 0) : 5 ≤ (rdFrame b).2.1 ∧ (rdFrame b).2.1 ≤ b.length ∧ (rdFrame b).1.length ≤ 32768 := by
  unfold rdFrame at h ⊢
  by_cases h1 : (rdNum b).2.2 ≠ 0
  · rw [if_pos h1] at h; simp at h; exact absurd h h1
  · rw [if_neg h1] at h ⊢
    by_cases h2 : 32768 < (rdNum b).1
    · rw [if_pos h2] at h; simp at h
    · rw [if_neg h2] at h ⊢
      by_cases h3 : b.length < (rdNum b).2.1 + (rdNum b).1 + 4
      · rw [if_pos h3] at h; simp at h
      · rw [if_neg h3] at h ⊢
        by_cases h4 : whole (b.take ((rdNum b).2.1 + (rdNum b).1 + 4)) = false
        · rw [if_pos h4] at h; simp at h
        · rw [if_neg h4]
          refine ⟨?_, by simp; omega, by simp; omega⟩
          have : 1 ≤ (rdNum b).2.1 := by
            simp at h1
            unfold rdNum at h1 ⊢
            split at h1
            · simp at h1
            · rename_i g1
              split at h1
              · simp at h1
              · rename_i g2
                split at h1
                · simp at h1
                · rename_i g3
                  rw [if_neg g1, if_neg g2, if_neg g3]; simp
          simp; omega
end Wn
