/- The plain law of a journal's front. No program in sight. -/
import Derived.Test.YtkblcdjkabiliaaJpl
namespace Wn

theorem jAll_le (ls : List (List UInt8)) (h : ∀ x ∈ ls, x.length ≤ 200) : (jAll ls).length ≤ 207 * ls.length := by
  induction ls with
  | nil => simp [jAll]
  | cons x ls ih =>
    have hx := h x (by simp)
    have hi := ih fun y hy => h y (by simp [hy])
    have hm := mk_length x
    have hv := vb_len3 (n := x.length) (by omega)
    rw [jAll_cons, List.length_append, List.length_cons]
    omega
theorem front_plain (ls : List (List UInt8)) (hs : ∀ x ∈ ls, x.length ≤ 200) (hl : ls.length ≤ 12) (n : Nat) (hn : n ≤ (jAll ls).length) :
    ∃ (m : Nat) (sc s2 : Dsk), m ≤ ls.length ∧ (n = (jAll ls).length → m = ls.length) ∧ dPut (dNew 9000) ((jAll ls).take n) = (0, sc) ∧ sc.down = false ∧ (jOpen sc).1 = { l := ls.take m, broken := false } ∧ (jOpen sc).2 = s2 ∧
      s2.b.length ≤ n ∧ (jAdd { l := ls.take m, broken := false } s2 [109, 111, 114, 101]).1 = 0 ∧ (jAdd { l := ls.take m, broken := false } s2 [109, 111, 114, 101]).2.1.l.length = m + 1 := by
  have hsm : Sm ls := fun x hx => by have := hs x hx; omega
  obtain ⟨m, h1, h2, h3, h4⟩ := jRead_front ls n hsm hn
  have hb := jAll_le ls hs
  have htl : ((jAll ls).take n).length = n := by rw [List.length_take]; omega
  have hop : ∀ s : Dsk, s.armed = false → dOp s = s := fun s h => by unfold dOp; rw [if_neg (by simp [h])]
  have hput : dPut (dNew 9000) ((jAll ls).take n) = (0, { dNew 9000 with b := (jAll ls).take n }) := by
    unfold dPut
    rw [if_neg (by simp [dNew]), if_neg (by simp only [dNew, List.length_nil]; omega), hop _ rfl]
    simp [dGone, dNew]
  have hjo := jOpen_eq { dNew 9000 with b := (jAll ls).take n } rfl
  simp only [h4] at hjo
  refine ⟨m, _, _, h1, h2, hput, rfl, by rw [hjo], rfl, ?_, ?_⟩
  · rw [hjo]
    simp only [List.length_take]
    omega
  · have hpre : (jAll (ls.take m)) <+: (jAll ls) := by
      refine ⟨jAll (ls.drop m), ?_⟩
      have := congrArg jAll (List.take_append_drop m ls)
      unfold jAll at *
      rw [← List.flatten_append, ← List.map_append, List.take_append_drop]
    have htk : ((jAll ls).take n).take (jAll (ls.take m)).length = jAll (ls.take m) := by
      rw [List.take_take, Nat.min_eq_left h3]
      obtain ⟨t, ht⟩ := hpre
      rw [← ht, List.take_left]
    have hjf : JF (jOpen { dNew 9000 with b := (jAll ls).take n }).2 { l := ls.take m, broken := false } 9000 := by
      rw [hjo]
      exact ⟨rfl, rfl, Nat.le_refl _, htk, rfl⟩
    have hm4 := mk_length [109, 111, 114, 101]
    have hv := vb_len3 (n := ([109, 111, 114, 101] : List UInt8).length) (by decide)
    have hle : (jAll (ls.take m)).length ≤ 2484 := by omega
    obtain ⟨g1, g2, g3⟩ := hjf.add [109, 111, 114, 101] (by simp only [List.length_cons, List.length_nil] at hm4 hv ⊢; omega)
    refine ⟨g1, ?_⟩
    rw [g2]
    simp; omega
end Wn
