/- NatSplits: the plain law of numbers put together in two goes, and the law's walk. -/
import Derived.Test.YtdkmfppdiggpfaaWB
namespace Wn
theorem sumGo_err {most : Int} : ∀ (l : List Int) (s : Int), (sumGo most s l).2 = 0 ∨ ((sumGo most s l).1 = 0 ∧ ((sumGo most s l).2 = 2 ∨ (sumGo most s l).2 = 20)) := by
  intro l
  induction l with
  | nil => intro s; exact .inl rfl
  | cons n l ih =>
    intro s
    simp only [sumGo]
    split
    · exact .inr ⟨rfl, .inl rfl⟩
    · split
      · exact .inr ⟨rfl, .inr rfl⟩
      · exact ih _
theorem sumGo_append {most : Int} : ∀ (a b : List Int) (s : Int), sumGo most s (a ++ b) = if (sumGo most s a).2 = 0 then sumGo most (sumGo most s a).1 b else sumGo most s a := by
  intro a
  induction a with
  | nil => intro b s; simp [sumGo]
  | cons n a ih =>
    intro b s
    simp only [List.cons_append, sumGo]
    split
    · simp
    · split
      · simp
      · exact ih b _
theorem sumGo_shift {most n : Int} : ∀ (b : List Int) (s : Int), sumGo most (n + s) b = if (sumGo (most - n) s b).2 = 0 then (n + (sumGo (most - n) s b).1, 0) else sumGo (most - n) s b := by
  intro b
  induction b with
  | nil => intro s; simp [sumGo]
  | cons x b ih =>
    intro s
    simp only [sumGo]
    split
    · simp
    · have e : (x > most - (n + s)) ↔ (x > most - n - s) := by omega
      by_cases hx : x > most - n - s
      · rw [if_pos (e.2 hx), if_pos hx]; simp
      · rw [if_neg (fun h => hx (e.1 h)), if_neg hx, ← ih, Int.add_assoc]
theorem sumGo_le {most : Int} : ∀ (l : List Int) (s : Int), 0 ≤ s → s ≤ most → (sumGo most s l).2 = 0 → 0 ≤ (sumGo most s l).1 ∧ (sumGo most s l).1 ≤ most := by
  intro l
  induction l with
  | nil => intro s h0 h1 _; exact ⟨h0, h1⟩
  | cons n l ih =>
    intro s h0 h1 h2
    simp only [sumGo] at h2 ⊢
    split at h2
    · simp at h2
    · split at h2
      · simp at h2
      · rename_i h3 h4
        rw [if_neg h3, if_neg h4]
        exact ih _ (by omega) (by omega) h2
theorem natSum_pos {most : Int} (h : 0 ≤ most) (l : List Int) : natSum most l = sumGo most 0 l := by
  unfold natSum; rw [if_neg]; omega
/-- Numbers put together in two goes are those put together at once. -/
theorem natSum_two {most : Int} (h : 0 ≤ most) (a b : List Int) :
    ((natSum most a).2 ≠ 0 ∧ (natSum most a).1 = 0 ∧ natSum most (a ++ b) = natSum most a) ∨
    ((natSum most a).2 = 0 ∧ 0 ≤ (natSum most a).1 ∧ (natSum most a).1 ≤ most ∧
      (((natSum (most - (natSum most a).1) b).2 ≠ 0 ∧ natSum most (a ++ b) = (0, (natSum (most - (natSum most a).1) b).2)) ∨
       ((natSum (most - (natSum most a).1) b).2 = 0 ∧ natSum most (a ++ b) = ((natSum most a).1 + (natSum (most - (natSum most a).1) b).1, 0) ∧
        0 ≤ (natSum (most - (natSum most a).1) b).1 ∧ (natSum (most - (natSum most a).1) b).1 ≤ most - (natSum most a).1))) := by
  rw [natSum_pos h, natSum_pos h, sumGo_append]
  rcases sumGo_err (most := most) a 0 with h0 | ⟨h1, h2⟩
  · have hle := sumGo_le a 0 (by omega) h h0
    refine .inr ⟨h0, hle.1, hle.2, ?_⟩
    rw [if_pos h0, natSum_pos (by omega)]
    generalize (sumGo most 0 a).1 = n at *
    have hs := sumGo_shift (most := most) (n := n) b 0
    rw [Int.add_zero] at hs
    rw [hs]
    rcases sumGo_err (most := most - n) b 0 with g0 | ⟨g1, g2⟩
    · have gle := sumGo_le b 0 (by omega) (by omega) g0
      exact .inr ⟨g0, by rw [if_pos g0], gle.1, gle.2⟩
    · have gne : (sumGo (most - n) 0 b).2 ≠ 0 := by omega
      refine .inl ⟨gne, ?_⟩
      rw [if_neg gne]
      exact Prod.ext g1 rfl
  · have hne : (sumGo most 0 a).2 ≠ 0 := by omega
    exact .inl ⟨hne, h1, by rw [if_neg hne]⟩
end Wn
namespace Go.Proofs.Ytdkmfppdiggpfaa
open Go.RowKit Wm

theorem info3 : (Try.prog.info? 3).map (fun i => (i.zero, i.size, i.bytes)) = some (some (.int .i64 0), 1, 8) := by kernel_rfl

set_option maxRecDepth 20000 in
set_option maxHeartbeats 1000000 in
theorem natSplits_any (most : Int) (v : Value) (l : List Int) (v' : Value) (l' : List Int) (w : World) (hm : -9223372036854775808 ≤ most ∧ most ≤ 9223372036854775807) (h : SI No w v l ∧ I64 l) (h' : SI No w v' l' ∧ I64 l') :
    Calls Try.prog 7 #[.int .i64 most, v, v'] w (PTrue w) := by
  obtain ⟨i0, hi, hz0, hz1, hz2⟩ := info_parts info3
  obtain ⟨h, h64⟩ := h
  obtain ⟨h', h64'⟩ := h'
  obtain ⟨a, n, c, rfl, hn, hnc, hcm⟩ := h.opened
  obtain ⟨a', n', c', rfl, hn', hnc', hcm'⟩ := h'.opened
  unfold maxLen at hcm hcm'
  have H64 := hid h64
  have H64' := hid h64'
  have Hn := hid hn
  have Hn' := hid hn'
  clear hn h64 hn' h64'
  go_enter Try.func7, Try.ntmps7
  go_wp2_with fail
  refine (awake1_any w).mono ?_
  rintro e w1 ⟨rfl, hk1⟩
  have h1 : SI No w1 (.slice a n c) l := SV.keep h hk1 fun _ _ hk => hk.elim
  have h1' : SI No w1 (.slice a' n' c') l' := SV.keep h' hk1 fun _ _ hk => hk.elim
  by_cases h100 : n ≤ 100
  · by_cases h100' : n' ≤ 100
    · by_cases hm0 : 0 ≤ most
      · have htwo := Wn.natSum_two hm0 l l'
        have Htwo := hid htwo
        clear htwo
        go_wp2_with fail
        refine (sum_any No most _ l _ h1 hm H64.out).mono ?_
        rintro e w2 ⟨rfl, rfl⟩
        have hml : (l.map iv).length = n := by rw [List.length_map]; exact Hn.out.symm
        have hml' : (l'.map iv).length = n' := by rw [List.length_map]; exact Hn'.out.symm
        have Hml := hid hml
        have Hml' := hid hml'
        clear hml hml'
        go_wp2_with (first | (at_builtin; refine wpList_copy _ rfl (.tmp 35) (.tmp 36) _ rfl 3 i0 _ 8 Try.underlying23 hi hz0 hz1 hz2 rfl rfl No _ (l.map iv) rfl h1 (one_iv _) n Hml.out (by unfold maxLen; omega) (by omega) ?_; intro a1 c1 w2 hown1 hk2) | (at_builtin; refine wpList_app _ rfl (.tmp 37) (.tmp 38) _ rfl w1.heap.size 3 i0 _ 8 Try.underlying23 hi hz0 hz1 hz2 rfl _ _ _ rfl hown1 No _ (l'.map iv) rfl (SV.keep h1' hk2 fun _ _ hk => hk.elim) (one_iv _) (n + n') (by rw [Hml'.out]) (by unfold maxLen; omega) (by omega) hk2.size ?_; intro a2 c2 w3 hown2 hg2 hat2))
        have hv : SI No w3 (.slice a2 (n + n') c2) (l ++ l') := by
          have := SV.of_own (M := No) hown2 (fun _ _ hk => hk)
          unfold SI; rw [List.map_append]; exact this
        have h64a : I64 (l ++ l') := fun z hz => by
          rw [List.mem_append] at hz
          rcases hz with hz | hz
          · exact H64.out z hz
          · exact H64'.out z hz
        have hK : Keeps No w1 w3 := hk2.app hown1 (Nat.le_refl _) hg2
        have h3' : SI No w3 (.slice a' n' c') l' := SV.keep h1' hK fun _ _ hk => hk.elim
        clear hown1 hown2 hg2 hat2 hk2
        refine (sum_any No most _ (l ++ l') _ hv hm h64a).mono ?_
        rintro e w4 ⟨rfl, rfl⟩
        clear hv h64a
        rcases Htwo.out with ⟨he1, hs1, hall⟩ | ⟨he1, hs0, hsm, hrest⟩
        · rw [hall]
          clear hall Htwo
          have hb : ((Wn.natSum most l).2 != 0) = true := by rw [bne_iff_ne]; exact he1
          have hb2 : ((Wn.natSum most l).1 == 0) = true := by rw [beq_iff_eq]; exact hs1
          clear he1 hs1
          generalize (Wn.natSum most l).1 = s1 at *
          generalize (Wn.natSum most l).2 = e1 at *
          go_wp2_with fail
          go_ret
          exact ⟨rfl, hk1.then_ hK⟩
        · have hb : ((Wn.natSum most l).2 != 0) = false := by rw [bne_eq_false_iff_eq]; exact he1
          have Hrest := hid hrest
          clear hrest Htwo he1
          have hd : -9223372036854775808 ≤ most - (Wn.natSum most l).1 ∧ most - (Wn.natSum most l).1 ≤ 9223372036854775807 := by omega
          generalize (Wn.natSum most l).1 = s1 at *
          generalize (Wn.natSum most l).2 = e1 at *
          rcases Hrest.out with ⟨hg, hall⟩ | ⟨hg, hall, hr0, hrm⟩
          · rw [hall]
            clear hall Hrest
            have hg1 : ((Wn.natSum (most - s1) l').2 != 0) = true := by rw [bne_iff_ne]; exact hg
            have hg2 : ((Wn.natSum (most - s1) l').2 == 0) = false := by rw [beq_eq_false_iff_ne]; exact hg
            clear hg
            go_wp2_with fail
            refine (sum_any No (most - s1) _ l' _ h3' hd H64'.out).mono ?_
            rintro e w4 ⟨rfl, rfl⟩
            generalize (Wn.natSum (most - s1) l').1 = s2 at *
            generalize (Wn.natSum (most - s1) l').2 = e2 at *
            go_wp2_with fail
            go_ret
            exact ⟨rfl, hk1.then_ hK⟩
          · rw [hall]
            clear hall Hrest
            go_wp2_with fail
            refine (sum_any No (most - s1) _ l' _ h3' hd H64'.out).mono ?_
            rintro e w4 ⟨rfl, rfl⟩
            rw [hg]
            clear hg
            generalize (Wn.natSum (most - s1) l').1 = s2 at *
            go_wp2_with fail
            go_ret
            exact ⟨by first | rfl | exact ret_bool (by simp), hk1.then_ hK⟩
      · go_wp2_with fail
        go_ret
        exact ⟨rfl, hk1⟩
    · go_wp2_with fail
      go_ret
      exact ⟨rfl, hk1⟩
  · go_wp2_with fail
    go_ret
    exact ⟨rfl, hk1⟩
end Go.Proofs.Ytdkmfppdiggpfaa
