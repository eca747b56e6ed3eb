/- The plain law of the journal: records on a disk. No program in sight. -/
import Derived.Test.YtkblcdjkabiliaaFrm
import Derived.Test.YtkblcdjkabiliaaDsk
namespace Wn

/-- The records with which bytes begin, and how many bytes these are; with fuel. -/
def rdAll : Nat → List UInt8 → List (List UInt8) × Nat
  | 0, _ => ([], 0)
  | f + 1, b => if (rdFrame b).2.2 = 0 then ((rdFrame b).1 :: (rdAll f (b.drop (rdFrame b).2.1)).1, (rdFrame b).2.1 + (rdAll f (b.drop (rdFrame b).2.1)).2) else ([], 0)
def jRead (b : List UInt8) : List (List UInt8) × Nat := rdAll b.length b

theorem rdFrame_nil' : (rdFrame []).2.2 = 10 := by decide
theorem rdAll_more (f : Nat) : ∀ b : List UInt8, b.length ≤ f → rdAll (f + 1) b = rdAll f b := by
  induction f with
  | zero =>
    intro b h
    obtain rfl : b = [] := List.eq_nil_of_length_eq_zero (by omega)
    simp [rdAll, rdFrame_nil']
  | succ f ih =>
    intro b h
    by_cases he : (rdFrame b).2.2 = 0
    · have := rdFrame_ok he
      have hi := ih (b.drop (rdFrame b).2.1) (by rw [List.length_drop]; omega)
      rw [rdAll, if_pos he, hi, rdAll, if_pos he]
    · rw [rdAll, if_neg he, rdAll, if_neg he]
theorem rdAll_eq (f : Nat) (b : List UInt8) (h : b.length ≤ f) : rdAll f b = jRead b := by
  obtain ⟨d, rfl⟩ := Nat.exists_eq_add_of_le h
  induction d with
  | zero => rfl
  | succ d ih => rw [← Nat.add_assoc, rdAll_more _ _ (by omega)]; exact ih (by omega)
theorem jRead_stop {b : List UInt8} (h : (rdFrame b).2.2 ≠ 0) : jRead b = ([], 0) := by
  rw [← rdAll_eq (b.length + 1) b (by omega), rdAll, if_neg h]
theorem jRead_nil : jRead [] = ([], 0) := rfl
theorem jRead_step {b : List UInt8} (h : (rdFrame b).2.2 = 0) :
    jRead b = ((rdFrame b).1 :: (jRead (b.drop (rdFrame b).2.1)).1, (rdFrame b).2.1 + (jRead (b.drop (rdFrame b).2.1)).2) := by
  rw [← rdAll_eq (b.length + 1) b (by omega), rdAll, if_pos h, rdAll_eq _ _ (by rw [List.length_drop]; omega)]
theorem jRead_le (f : Nat) : ∀ b : List UInt8, b.length ≤ f → (jRead b).2 ≤ b.length ∧ 5 * (jRead b).1.length ≤ (jRead b).2 := by
  induction f with
  | zero =>
    intro b h
    obtain rfl : b = [] := List.eq_nil_of_length_eq_zero (by omega)
    rw [jRead_nil]; simp
  | succ f ih =>
    intro b h
    by_cases he : (rdFrame b).2.2 = 0
    · have := rdFrame_ok he
      have hi := ih (b.drop (rdFrame b).2.1) (by rw [List.length_drop]; omega)
      rw [jRead_step he]
      rw [List.length_drop] at hi
      simp only [List.length_cons]
      omega
    · rw [jRead_stop he]; simp

/-- What has been read, and what is to be read yet. -/
def Reads (b : List UInt8) (out : List (List UInt8)) (at_ : Nat) : Prop :=
  at_ ≤ b.length ∧ 5 * out.length ≤ at_ ∧ jRead b = (out ++ (jRead (b.drop at_)).1, at_ + (jRead (b.drop at_)).2)
theorem Reads.start (b : List UInt8) : Reads b [] 0 := ⟨Nat.zero_le _, Nat.le_refl _, by simp⟩
theorem Reads.step {b : List UInt8} {out : List (List UInt8)} {k : Nat} (h : Reads b out k) (he : (rdFrame (b.drop k)).2.2 = 0) : Reads b (out ++ [(rdFrame (b.drop k)).1]) (k + (rdFrame (b.drop k)).2.1) := by
  have h5 := rdFrame_ok he
  obtain ⟨h1, h2, h3⟩ := h
  rw [List.length_drop] at h5
  refine ⟨by omega, by rw [List.length_append]; simp only [List.length_cons, List.length_nil]; omega, ?_⟩
  rw [h3, jRead_step he, List.drop_drop]
  simp [Nat.add_assoc]
theorem Reads.stop {b : List UInt8} {out : List (List UInt8)} {k : Nat} (h : Reads b out k) (he : (rdFrame (b.drop k)).2.2 ≠ 0) : jRead b = (out, k) := by
  obtain ⟨h1, h2, h3⟩ := h
  rw [h3, jRead_stop he]; simp
theorem Reads.end_ {b : List UInt8} {out : List (List UInt8)} {k : Nat} (h : Reads b out k) (hk : ¬ k < b.length) : jRead b = (out, k) := by
  refine h.stop ?_
  rw [List.drop_of_length_le (by omega), rdFrame_nil']; omega

/-- Records' frames, one behind the other. -/
def jAll (ls : List (List UInt8)) : List UInt8 := (ls.map mkFrame).flatten
theorem jAll_cons (x : List UInt8) (ls : List (List UInt8)) : jAll (x :: ls) = mkFrame x ++ jAll ls := by simp [jAll]
theorem jAll_snoc (x : List UInt8) (ls : List (List UInt8)) : jAll (ls ++ [x]) = jAll ls ++ mkFrame x := by simp [jAll]
def Sm (ls : List (List UInt8)) : Prop := ∀ x ∈ ls, x.length ≤ 32768
theorem Sm.snoc {ls : List (List UInt8)} {x : List UInt8} (h : Sm ls) (hx : x.length ≤ 32768) : Sm (ls ++ [x]) := by
  intro y hy
  simp at hy
  rcases hy with hy | rfl
  · exact h y hy
  · exact hx
/-- Any front of a journal's bytes: a front of its records. -/
theorem jRead_front (ls : List (List UInt8)) : ∀ n, Sm ls → n ≤ (jAll ls).length →
    ∃ m, m ≤ ls.length ∧ (n = (jAll ls).length → m = ls.length) ∧ (jAll (ls.take m)).length ≤ n ∧ jRead ((jAll ls).take n) = (ls.take m, (jAll (ls.take m)).length) := by
  induction ls with
  | nil =>
    intro n _ hn
    exact ⟨0, Nat.le_refl _, fun _ => rfl, Nat.zero_le _, by simp [jAll, jRead_nil]⟩
  | cons x ls ih =>
    intro n hs hn
    have hx : x.length ≤ 32768 := hs x (by simp)
    have hs' : Sm ls := fun y hy => hs y (by simp [hy])
    rw [jAll_cons] at hn ⊢
    rw [List.length_append] at hn ⊢
    by_cases hlt : n < (mkFrame x).length
    · refine ⟨0, Nat.zero_le _, fun h => by omega, by simp [jAll], ?_⟩
      rw [List.take_append_of_le_length (by omega), jRead_stop (by rw [rdFrame_short x hx n hlt]; simp)]
      simp [jAll]
    · obtain ⟨m, h1, h2, h3, h4⟩ := ih (n - (mkFrame x).length) hs' (by omega)
      refine ⟨m + 1, by simp; omega, fun h => by simp; exact h2 (by omega), ?_, ?_⟩
      · rw [List.take_succ_cons, jAll_cons, List.length_append]; omega
      · rw [List.take_append, List.take_of_length_le (by omega)]
        have hr := rdFrame_mk x ((jAll ls).take (n - (mkFrame x).length)) hx
        rw [jRead_step (by rw [hr]), hr]
        simp only
        rw [List.drop_left, h4, List.take_succ_cons, jAll_cons, List.length_append]
theorem jRead_all (ls : List (List UInt8)) (hs : Sm ls) : jRead (jAll ls) = (ls, (jAll ls).length) := by
  obtain ⟨m, h1, h2, h3, h4⟩ := jRead_front ls (jAll ls).length hs (Nat.le_refl _)
  rw [List.take_length, h2 rfl, List.take_length] at h4
  exact h4

/-- A journal: its records, and whether it is broken; beside its disk. -/
structure Jrn where
  l : List (List UInt8)
  broken : Bool
def jOpen (s : Dsk) : Jrn × Dsk := ({ l := (jRead s.b).1, broken := false }, (dCut s ((jRead s.b).2 : Nat)).2)
def jDo (s : Dsk) (x : List UInt8) : Nat × Dsk := if (dPut s (mkFrame x)).1 = 0 then dFlush (dPut s (mkFrame x)).2 else dPut s (mkFrame x)
def jAdd (j : Jrn) (s : Dsk) (x : List UInt8) : Nat × Jrn × Dsk :=
  if j.broken = true then (42, j, s) else
  if (jDo s x).1 = 0 then (0, { j with l := j.l ++ [x] }, (jDo s x).2) else ((jDo s x).1, { j with broken := decide ((jDo s x).1 = 42) }, (jDo s x).2)

theorem dCut_eq (s : Dsk) (n : Nat) (hd : s.down = false) (hn : n ≤ s.b.length) : dCut s (n : Int) = (0, { s with b := s.b.take n, sure := n }) := by
  unfold dCut
  rw [if_neg (by simp [hd]), if_neg (by omega)]
  simp
theorem jOpen_eq (s : Dsk) (hd : s.down = false) : jOpen s = ({ l := (jRead s.b).1, broken := false }, { s with b := s.b.take (jRead s.b).2, sure := (jRead s.b).2 }) := by
  unfold jOpen
  rw [dCut_eq s _ hd (jRead_le _ s.b (Nat.le_refl _)).1]
end Wn
