/- The plain law of the disk: its states, and what is done to it. No program in sight. -/
namespace Wn
/-- A disk with power or without: its bytes, its room, how many are sure, what is armed. -/
structure Dsk where
  b : List UInt8
  size : Nat
  sure : Nat
  down : Bool
  armed : Bool
  ops : Nat
  keep : Int

def Dsk.wf (s : Dsk) : Prop := s.sure ≤ s.b.length ∧ s.b.length ≤ s.size ∧ s.size ≤ 1048576
def dNew (n : Nat) : Dsk := { b := [], size := n, sure := 0, down := false, armed := false, ops := 0, keep := 0 }
/-- An operation: does the power go with it? -/
def dGone (s : Dsk) : Bool := s.armed && decide (s.ops = 0)
def dOp (s : Dsk) : Dsk := if s.armed = true then (if s.ops = 0 then { s with down := true } else { s with ops := s.ops - 1 }) else s
def dPut (s : Dsk) (x : List UInt8) : Nat × Dsk :=
  if s.down = true then (42, s) else if s.size < s.b.length + x.length then (40, s) else
  (if dGone s = true then 42 else 0, dOp { s with b := s.b ++ x })
def dFlush (s : Dsk) : Nat × Dsk :=
  if s.down = true then (42, s) else if dGone s = true then (42, dOp s) else (0, { dOp s with sure := s.b.length })
def dCut (s : Dsk) (n : Int) : Nat × Dsk :=
  if s.down = true then (42, s) else if n < 0 ∨ (s.b.length : Int) < n then (2, s) else (0, { s with b := s.b.take n.toNat, sure := n.toNat })
def dArm (s : Dsk) (ops keep : Int) : Dsk := if s.down = true then s else { s with armed := true, ops := (max 0 ops).toNat, keep := keep }
def dLeft (s : Dsk) : Nat := s.sure + (max 0 (min s.keep ((s.b.length - s.sure : Nat) : Int))).toNat
def dUp (s : Dsk) : Dsk := if s.down = true then { s with b := s.b.take (dLeft s), sure := dLeft s, down := false, armed := false } else s

theorem dNew_wf {n : Nat} (h : n ≤ 1048576) : (dNew n).wf := ⟨Nat.le_refl _, Nat.zero_le _, h⟩
theorem dOp_b (s : Dsk) : (dOp s).b = s.b ∧ (dOp s).size = s.size ∧ (dOp s).sure = s.sure ∧ (dOp s).keep = s.keep ∧ (dOp s).armed = s.armed := by
  unfold dOp; split
  · split <;> simp
  · simp
theorem dOp_down (s : Dsk) (h : s.down = false) : (dOp s).down = dGone s := by
  unfold dOp dGone
  by_cases h1 : s.armed = true
  · by_cases h2 : s.ops = 0 <;> simp [h1, h2, h]
  · simp [h1, h]
theorem dOp_wf {s : Dsk} (h : s.wf) : (dOp s).wf := by
  have := dOp_b s
  unfold Dsk.wf at *
  rw [this.1, this.2.1, this.2.2.1]; exact h
theorem dPut_wf {s : Dsk} (h : s.wf) (x : List UInt8) : (dPut s x).2.wf := by
  unfold dPut
  split
  · exact h
  · split
    · exact h
    · apply dOp_wf
      unfold Dsk.wf at *
      simp; omega
theorem dFlush_wf {s : Dsk} (h : s.wf) : (dFlush s).2.wf := by
  unfold dFlush
  split
  · exact h
  · split
    · exact dOp_wf h
    · have := dOp_b s
      unfold Dsk.wf at *
      simp only
      rw [this.1, this.2.1]; omega
theorem dCut_wf {s : Dsk} (h : s.wf) (n : Int) : (dCut s n).2.wf := by
  unfold dCut
  split
  · exact h
  · split
    · exact h
    · unfold Dsk.wf at *
      simp; omega
theorem dArm_wf {s : Dsk} (h : s.wf) (a b : Int) : (dArm s a b).wf := by
  unfold dArm; split <;> exact h
theorem dLeft_le {s : Dsk} (h : s.wf) : s.sure ≤ dLeft s ∧ dLeft s ≤ s.b.length := by
  unfold dLeft Dsk.wf at *; omega
theorem dUp_wf {s : Dsk} (h : s.wf) : (dUp s).wf := by
  have := dLeft_le h
  unfold dUp
  split
  · unfold Dsk.wf at *; simp; omega
  · exact h
end Wn
