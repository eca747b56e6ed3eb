/- Plain laws of what stays on a disk, and of what stays in a journal. No program in sight. -/
import Derived.Test.YtkblcdjkabiliaaJrn
namespace Wn

/-- What was put, and what of it is sure. -/
def KI (s : Dsk) (all sure : List UInt8) : Prop := s.b = all ∧ sure <+: all ∧ sure.length ≤ s.sure
theorem KI.new (n : Nat) : KI (dNew n) [] [] := ⟨rfl, List.prefix_refl _, Nat.le_refl _⟩
theorem KI.put {s : Dsk} {all sure : List UInt8} (h : KI s all sure) (x : List UInt8) (hd : s.down = false) (hf : (dPut s x).1 ≠ 40) : KI (dPut s x).2 (all ++ x) sure := by
  obtain ⟨h1, h2, h3⟩ := h
  unfold dPut at hf ⊢
  rw [if_neg (by simp [hd])] at hf ⊢
  split at hf
  · simp at hf
  · rename_i hs
    rw [if_neg hs]
    have hb := dOp_b { s with b := s.b ++ x }
    refine ⟨by rw [hb.1, h1], List.IsPrefix.trans h2 (List.prefix_append _ _), by rw [hb.2.2.1]; exact h3⟩
theorem KI.noput {s : Dsk} {all sure : List UInt8} (h : KI s all sure) (x : List UInt8) (hd : s.down = true ∨ (dPut s x).1 = 40) : KI (dPut s x).2 all sure := by
  unfold dPut at hd ⊢
  by_cases h1 : s.down = true
  · rw [if_pos h1]; exact h
  · rw [if_neg h1] at hd ⊢
    split
    · exact h
    · rename_i hs
      rw [if_neg hs] at hd
      rcases hd with hd | hd
      · exact absurd hd h1
      · simp only at hd; split at hd <;> omega
theorem KI.flush {s : Dsk} {all sure : List UInt8} (h : KI s all sure) (hf : (dFlush s).1 = 0) : KI (dFlush s).2 all all := by
  obtain ⟨h1, h2, h3⟩ := h
  unfold dFlush at hf ⊢
  split at hf
  · simp at hf
  · split at hf
    · simp at hf
    · rename_i g1 g2
      rw [if_neg g1, if_neg g2]
      have hb := dOp_b s
      exact ⟨by rw [← h1]; exact hb.1, List.prefix_refl _, by rw [← h1]; exact Nat.le_refl _⟩
theorem KI.noflush {s : Dsk} {all sure : List UInt8} (h : KI s all sure) (hf : (dFlush s).1 ≠ 0) : KI (dFlush s).2 all sure := by
  obtain ⟨h1, h2, h3⟩ := h
  unfold dFlush at hf ⊢
  split
  · exact ⟨h1, h2, h3⟩
  · rename_i g1
    rw [if_neg g1] at hf
    split
    · have hb := dOp_b s
      exact ⟨by rw [← h1]; exact hb.1, h2, by rw [hb.2.2.1]; exact h3⟩
    · rename_i g2
      rw [if_neg g2] at hf; simp at hf
theorem KI.arm {s : Dsk} {all sure : List UInt8} (h : KI s all sure) (a b : Int) : KI (dArm s a b) all sure := by
  unfold dArm; split <;> exact h
theorem dUp_down (s : Dsk) : (dUp s).down = false := by
  unfold dUp
  split
  · rfl
  · rename_i h; simpa using h
/-- What is there behind the power's coming back. -/
theorem KI.up {s : Dsk} {all sure : List UInt8} (h : KI s all sure) (hw : s.wf) :
    sure.length ≤ (dUp s).b.length ∧ (dUp s).b.length ≤ all.length ∧ (dUp s).b = all.take (dUp s).b.length ∧ KI (dUp s) (dUp s).b sure ∧ ((dUp s).b.length - (dUp s).sure = 0 → KI (dUp s) (dUp s).b (dUp s).b) := by
  obtain ⟨h1, h2, h3⟩ := h
  have hl := dLeft_le hw
  have hpre := h2.length_le
  have hw1 := hw.1
  unfold dUp
  split
  · simp only [List.length_take]
    have e : min (dLeft s) s.b.length = dLeft s := by omega
    rw [e, h1] at *
    refine ⟨by omega, by omega, rfl, ⟨rfl, ?_, by simp only; omega⟩, fun _ => ⟨rfl, List.prefix_refl _, by simp only [List.length_take]; omega⟩⟩
    exact List.prefix_take_iff.2 ⟨h2, by omega⟩
  · subst h1
    refine ⟨hpre, Nat.le_refl _, by rw [List.take_length], ⟨rfl, h2, h3⟩, fun hz => ⟨rfl, List.prefix_refl _, by omega⟩⟩

/-- What a journal and its disk hold, whatever goes. -/
def JK (s : Dsk) (j : Jrn) (being : Bool) (torn : List UInt8) : Prop :=
  Sm j.l ∧ (s.down = false → j.broken = false ∧ s.b = jAll j.l) ∧
  (s.down = true → j.broken = true ∧ being = true ∧ torn.length ≤ 32768 ∧ s.b = jAll j.l ++ mkFrame torn ∧ s.sure = (jAll j.l).length) ∧
  (s.down = false → s.sure = (jAll j.l).length)
theorem jRead_app (ls : List (List UInt8)) (hs : Sm ls) (rest : List UInt8) : jRead (jAll ls ++ rest) = (ls ++ (jRead rest).1, (jAll ls).length + (jRead rest).2) := by
  induction ls with
  | nil => simp [jAll]
  | cons x ls ih =>
    have hx : x.length ≤ 32768 := hs x (by simp)
    have hr := rdFrame_mk x (jAll ls ++ rest) hx
    rw [jAll_cons, List.append_assoc, jRead_step (by rw [hr]), hr]
    simp only
    rw [List.drop_left, ih fun y hy => hs y (by simp [hy]), List.length_append]
    simp [Nat.add_assoc]
theorem jRead_one (x : List UInt8) (hx : x.length ≤ 32768) (i : Nat) : jRead ((mkFrame x).take i) = if i < (mkFrame x).length then ([], 0) else ([x], (mkFrame x).length) := by
  split
  · rename_i h
    exact jRead_stop (by rw [rdFrame_short x hx i h]; simp)
  · rename_i h
    rw [List.take_of_length_le (by omega)]
    have := jRead_all [x] (by intro y hy; simp at hy; subst hy; exact hx)
    simpa [jAll] using this

/-- What comes back when the power does. -/
theorem JK.open_ {s : Dsk} {j : Jrn} {being : Bool} {torn : List UInt8} (h : JK s j being torn) (hw : s.wf) :
    (((jOpen (dUp s)).1.l = j.l) ∨ (being = true ∧ (jOpen (dUp s)).1.l = j.l ++ [torn])) ∧ JK (jOpen (dUp s)).2 (jOpen (dUp s)).1 false torn := by
  obtain ⟨h1, h2, h3, h4⟩ := h
  rw [jOpen_eq _ (dUp_down s)]
  by_cases hd : s.down = true
  · obtain ⟨g1, g2, g3, g4, g5⟩ := h3 hd
    have hl := dLeft_le hw
    have hb : (dUp s).b = jAll j.l ++ (mkFrame torn).take (dLeft s - (jAll j.l).length) := by
      unfold dUp
      rw [if_pos hd]
      simp only
      rw [g4, List.take_append, List.take_of_length_le (by omega)]
    have hdn := dUp_down s
    generalize hs' : dUp s = s' at *
    rw [hb, jRead_app _ h1, jRead_one _ g3]
    split
    · refine ⟨.inl (by simp), by simpa using h1, fun _ => ⟨rfl, ?_⟩, fun e => ?_, fun _ => by simp⟩
      · simp
      · simp only at e; rw [hdn] at e; cases e
    · rename_i hi
      refine ⟨.inr ⟨g2, rfl⟩, h1.snoc g3, fun _ => ⟨rfl, ?_⟩, fun e => ?_, fun _ => ?_⟩
      · simp only
        rw [List.take_of_length_le (by rw [List.length_append, List.length_take]; omega), jAll_snoc, List.take_of_length_le (by omega)]
      · simp only at e; rw [hdn] at e; cases e
      · simp only
        rw [jAll_snoc, List.length_append]
  · have hd' : s.down = false := by simpa using hd
    obtain ⟨g1, g2⟩ := h2 hd'
    have e : dUp s = s := by unfold dUp; rw [if_neg hd]
    rw [e, g2, jRead_all _ h1]
    refine ⟨.inl rfl, h1, fun _ => ⟨rfl, by simp⟩, fun e => ?_, fun _ => rfl⟩
    simp only at e; rw [hd'] at e; cases e
/-- A record added, or not. -/
theorem JK.add {s : Dsk} {j : Jrn} {being : Bool} {torn : List UInt8} (h : JK s j being torn) (x : List UInt8) (hx : x.length ≤ 32768) :
    JK (jAdd j s x).2.2 (jAdd j s x).2.1 (if (jAdd j s x).1 = 42 ∧ s.down = false ∧ (jAdd j s x).2.2.down = true then true else being) (if (jAdd j s x).1 = 42 ∧ s.down = false ∧ (jAdd j s x).2.2.down = true then x else torn) ∧
    (jAdd j s x).2.1.l = if (jAdd j s x).1 = 0 then j.l ++ [x] else j.l := by
  obtain ⟨h1, h2, h3, h4⟩ := h
  by_cases hd : s.down = true
  · obtain ⟨g1, g2, g3, g4, g5⟩ := h3 hd
    have e : jAdd j s x = (42, j, s) := by unfold jAdd; rw [if_pos g1]
    rw [e]
    simp only [hd]
    rw [if_neg (by simp), if_neg (by simp), if_neg (by simp)]
    exact ⟨⟨h1, h2, h3, h4⟩, rfl⟩
  · have hd' : s.down = false := by simpa using hd
    obtain ⟨g1, g2⟩ := h2 hd'
    have g4 := h4 hd'
    have hj : jAdd j s x = if (jDo s x).1 = 0 then (0, { j with l := j.l ++ [x] }, (jDo s x).2) else ((jDo s x).1, { j with broken := decide ((jDo s x).1 = 42) }, (jDo s x).2) := by
      unfold jAdd; rw [if_neg (by simp [g1])]
    by_cases hfull : s.size < s.b.length + (mkFrame x).length
    · have e1 : dPut s (mkFrame x) = (40, s) := by unfold dPut; rw [if_neg hd, if_pos hfull]
      have e2 : jDo s x = (40, s) := by unfold jDo; rw [e1]; rfl
      rw [hj, e2]
      simp only
      rw [if_neg (by omega)]
      simp only
      rw [if_neg (by omega), if_neg (by omega), if_neg (by omega)]
      refine ⟨⟨h1, fun _ => ⟨by simp, g2⟩, fun e => absurd e hd, h4⟩, rfl⟩
    · have e1 : dPut s (mkFrame x) = (if dGone s = true then 42 else 0, dOp { s with b := s.b ++ mkFrame x }) := by
        unfold dPut; rw [if_neg hd, if_neg hfull]
      have hb := dOp_b { s with b := s.b ++ mkFrame x }
      have hdn := dOp_down { s with b := s.b ++ mkFrame x } hd'
      have hgo : dGone { s with b := s.b ++ mkFrame x } = dGone s := rfl
      rw [hgo] at hdn
      by_cases hg : dGone s = true
      · rw [if_pos hg] at e1
        rw [hg] at hdn
        have e2 : jDo s x = (42, dOp { s with b := s.b ++ mkFrame x }) := by unfold jDo; rw [e1]; rfl
        rw [hj, e2]
        simp only
        rw [if_neg (by omega)]
        simp only
        have hc : True ∧ s.down = false ∧ (dOp { s with b := s.b ++ mkFrame x }).down = true := ⟨trivial, hd', hdn⟩
        rw [if_pos hc, if_pos hc, if_neg (show ¬ (42 : Nat) = 0 by omega)]
        refine ⟨⟨h1, fun e => ?_, fun _ => ⟨by simp, rfl, hx, ?_, ?_⟩, fun e => ?_⟩, rfl⟩
        · rw [hdn] at e; cases e
        · rw [hb.1, g2]
        · rw [hb.2.2.1]; exact g4
        · rw [hdn] at e; cases e
      · rw [if_neg hg] at e1
        have hg' : dGone s = false := by simpa using hg
        rw [hg'] at hdn
        generalize hs1 : dOp { s with b := s.b ++ mkFrame x } = s1 at *
        have hb1 := dOp_b s1
        have hdn1 := dOp_down s1 hdn
        have e2 : jDo s x = dFlush s1 := by unfold jDo; rw [e1]; rfl
        by_cases hg1 : dGone s1 = true
        · have e3 : dFlush s1 = (42, dOp s1) := by unfold dFlush; rw [if_neg (by simp [hdn]), if_pos hg1]
          rw [hg1] at hdn1
          rw [hj, e2, e3]
          simp only
          rw [if_neg (by omega)]
          simp only
          have hc : True ∧ s.down = false ∧ (dOp s1).down = true := ⟨trivial, hd', hdn1⟩
          rw [if_pos hc, if_pos hc, if_neg (show ¬ (42 : Nat) = 0 by omega)]
          refine ⟨⟨h1, fun e => ?_, fun _ => ⟨by simp, rfl, hx, ?_, ?_⟩, fun e => ?_⟩, rfl⟩
          · rw [hdn1] at e; cases e
          · rw [hb1.1, hb.1, g2]
          · rw [hb1.2.2.1, hb.2.2.1]; exact g4
          · rw [hdn1] at e; cases e
        · have hg1' : dGone s1 = false := by simpa using hg1
          have e3 : dFlush s1 = (0, { dOp s1 with sure := s1.b.length }) := by unfold dFlush; rw [if_neg (by simp [hdn]), if_neg hg1]
          rw [hg1'] at hdn1
          rw [hj, e2, e3]
          have hz : ∀ (c d : Nat × Jrn × Dsk), (if (0 : Nat) = 0 then c else d) = c := fun c d => if_pos rfl
          rw [hz, if_neg (fun h => by simp at h), if_neg (fun h => by simp at h), if_pos rfl]
          refine ⟨⟨h1.snoc hx, fun _ => ⟨g1, ?_⟩, fun e => ?_, fun _ => ?_⟩, rfl⟩
          · simp only
            rw [jAll_snoc, hb1.1, hb.1, g2]
          · simp only at e; rw [hdn1] at e; cases e
          · simp only
            rw [jAll_snoc, hb.1, g2]
theorem JK.new (n : Nat) (torn : List UInt8) : JK (jOpen (dNew n)).2 (jOpen (dNew n)).1 false torn := by
  rw [jOpen_eq _ rfl]
  have : jRead (dNew n).b = ([], 0) := rfl
  rw [this]
  refine ⟨(fun x hx => by simp at hx), fun _ => ⟨rfl, rfl⟩, fun e => ?_, fun _ => rfl⟩
  exact Bool.noConfusion e
theorem JK.arm {s : Dsk} {j : Jrn} {being : Bool} {torn : List UInt8} (h : JK s j being torn) (a b : Int) : JK (dArm s a b) j being torn := by
  unfold dArm; split
  · exact h
  · exact h

/-- A journal on a disk that has room and no alarm. -/
def JF (s : Dsk) (j : Jrn) (m : Nat) : Prop := s.down = false ∧ s.armed = false ∧ m ≤ s.size ∧ s.b = jAll j.l ∧ j.broken = false
theorem JF.new (n : Nat) : JF (jOpen (dNew n)).2 (jOpen (dNew n)).1 n := by
  rw [jOpen_eq _ rfl]
  exact ⟨rfl, rfl, Nat.le_refl _, rfl, rfl⟩
theorem JF.add {s : Dsk} {j : Jrn} {m : Nat} (h : JF s j m) (x : List UInt8) (hr : (jAll j.l).length + (mkFrame x).length ≤ m) :
    (jAdd j s x).1 = 0 ∧ (jAdd j s x).2.1 = { l := j.l ++ [x], broken := false } ∧ JF (jAdd j s x).2.2 (jAdd j s x).2.1 m := by
  obtain ⟨h1, h2, h3, h4, h5⟩ := h
  have hop : dOp { s with b := s.b ++ mkFrame x } = { s with b := s.b ++ mkFrame x } := by unfold dOp; simp [h2]
  have hg : dGone s = false := by unfold dGone; simp [h2]
  have hg2 : dGone { s with b := s.b ++ mkFrame x } = false := hg
  have e1 : dPut s (mkFrame x) = (0, { s with b := s.b ++ mkFrame x }) := by
    unfold dPut; rw [if_neg (by simp [h1]), if_neg (by rw [h4]; omega), hop, if_neg (by simp [hg])]
  have e2 : jDo s x = (0, { s with b := s.b ++ mkFrame x, sure := (s.b ++ mkFrame x).length }) := by
    unfold jDo; rw [e1]
    show (if (0 : Nat) = 0 then _ else _) = _
    rw [if_pos rfl]
    show dFlush { s with b := s.b ++ mkFrame x } = _
    unfold dFlush
    rw [if_neg (by simp [h1]), if_neg (by simp [hg2]), hop]
  have e3 : jAdd j s x = (0, { j with l := j.l ++ [x] }, { s with b := s.b ++ mkFrame x, sure := (s.b ++ mkFrame x).length }) := by
    unfold jAdd; rw [if_neg (by simp [h5]), e2]; rfl
  rw [e3]
  refine ⟨rfl, by simp [h5], h1, h2, h3, ?_, h5⟩
  simp only
  rw [jAll_snoc, h4]
end Wn
