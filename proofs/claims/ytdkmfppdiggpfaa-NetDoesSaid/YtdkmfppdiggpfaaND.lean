/- The walks through a net's rows: drop. -/
import Derived.Test.YtdkmfppdiggpfaaNC
namespace Go.Proofs.Ytdkmfppdiggpfaa
open Go.RowKit Wm

set_option maxRecDepth 20000 in
set_option maxHeartbeats 4000000 in
theorem ndrop_any (T : TypeId) (tail : List Value) (R : Blocks) (p k : Nat) (vs : List Value) (Ls : List (List (List UInt8))) (l : List (List UInt8)) (m : Nat) (w : World) (h : RowsAt 47 T tail R w p vs Ls)
    (hl : Ls[k]? = some l) (hm : m < l.length) (hll : l.length ≤ 1048576) :
    Calls Try.prog 50 #[.pointer (some ⟨p, k, none⟩), .int .i64 (m : Int)] w (PRows T tail R p vs (.tuple #[]) (Ls.set k (l.take m ++ l.drop (m + 1))) w) := by
  obtain ⟨i0, hi, hz0, hz1, hz2⟩ := info_parts info47
  obtain ⟨a0, n0, c0, us0, hv0, hn0, hu0, hnc0, hcm0, hr0, hs0, hc0, hf0⟩ := h.row hl
  have hp := h.lt p (.inl rfl)
  have hne0 := RowsAt.ownp h hv0
  obtain ⟨b, off, rfl, -, -⟩ := hr0.1.at_ (by omega)
  unfold maxLen at hcm0
  have hmn : m < n0 := by omega
  have hnb : n0 ≤ 1048576 := by omega
  have hsv := hr0.1
  have hul : us0.length = n0 := by omega
  have hw1 : Rw 47 w (.slice (some ⟨b, off, none⟩) m m) (us0.take m) := by
    have ht := SV.take hsv (k := m) (by omega)
    have hlt : (us0.take m).length = m := by rw [List.length_take]; omega
    refine ⟨SV.mk hlt.symm (Nat.le_refl _) (by unfold maxLen; omega) fun h0 => ?_, .inr ⟨_, by rw [hlt]⟩⟩
    exact ht.at_ h0
  have hout := hs0.out m
  by_cases hcap : c0 = m + 1
  · have hn1 : n0 = m + 1 := by omega
    have hd : us0.drop (m + 1) = [] := List.drop_of_length_le (by omega)
    rw [hd] at hout
    have hlen : (us0.take m).length + ([] : List Value).length = m := by rw [List.length_take]; simp; omega
    have H := hid h
    have HH := hid (show _ ∧ _ ∧ _ ∧ _ ∧ _ from ⟨hw1, hlen, hout, hv0, hne0⟩)
    have hw : IntKind.i64.wrap ((m : Int) + 1) = (m : Int) + 1 := by rw [IntKind.wrap_i64]; omega
    have hm6 : ((m : Int) + 1).toNat = m + 1 := by omega
    have hm8 : (0 : Int) ≤ (m : Int) + 1 := by omega
    have hm1 : (0 : Int) ≤ (m : Int) := by omega
    have hm2 : (m : Int) < ((m + 1 : Nat) : Int) := by omega
    have hm5 : (m : Int) + 1 ≤ ((m + 1 : Nat) : Int) := by omega
    have hm9 : (m : Int) ≤ (m : Int) + 1 := by omega
    subst hcap; subst hn1
    clear h hw1 hlen hout hv0 hne0 hn0 hu0 hr0 hs0 hsv hul hl hm hll hd
    go_enter Try.func50, Try.ntmps50
    go_wp2_with fail
    go_region_law (refine step_append_rw _ (by rfl) (.tmp 11) (.tmp 18) _ (by rfl) 47 i0 _ 24 Try.underlying66 hi hz0 hz1 hz2 (by rfl) _ (us0.take m) (by rfl) (by exact HH.out.1) No _ [] (by rfl) (by exact SV.nil_ _ _ _ _ (Nat.zero_le _)) (by intro u hu; cases hu) m HH.out.2.1 (by unfold maxLen; omega) (by omega) ?_; intro a5 c5 w5 hrw5 hg5 hfr5; have d0 := grown_cell hg5 (by exact hp) (by exact HH.out.2.2.2.2) (by exact hc0); have g0 := grown_frozen hg5 (by exact hp) (by exact HH.out.2.2.2.2) (by exact hf0))
    all_goals
      have hput := H.out.put HH.out.2.2.2.1 (Keeps.refl No w).drew hg5 hrw5 hfr5 HH.out.2.2.1
      clear hrw5 hg5 hfr5
      go_end0
      exact ⟨rfl, _, hput⟩
  · have hnews : SV No w (.slice (some ⟨b, off + (m + 1), none⟩) (n0 - (m + 1)) (c0 - (m + 1))) (us0.drop (m + 1)) :=
      SV.drop hsv (k := m + 1) (by omega) fun _ b off e => by cases e; rfl
    have hlen : (us0.take m).length + (us0.drop (m + 1)).length = n0 - 1 := by rw [List.length_take, List.length_drop]; omega
    have hone : ∀ u ∈ us0.drop (m + 1), u.oneCell' = true := by
      intro u hu
      obtain ⟨i, hi, rfl⟩ := List.getElem_of_mem (List.mem_of_mem_drop hu)
      obtain ⟨u', hu', hb'⟩ := hs0.2 i l[i] (List.getElem?_eq_getElem (by rw [← hs0.1]; exact hi))
      rw [List.getElem?_eq_getElem hi] at hu'
      injection hu' with hu'
      obtain ⟨xa, xn, xc, hx, -⟩ := hb'.opened
      rw [hu', hx]; rfl
    have H := hid h
    have HH := hid (show _ ∧ _ ∧ _ ∧ _ ∧ _ ∧ _ ∧ _ from ⟨hw1, hnews, hlen, hone, hout, hv0, hne0⟩)
    have hw : IntKind.i64.wrap ((m : Int) + 1) = (m : Int) + 1 := by rw [IntKind.wrap_i64]; omega
    have hm8 : (0 : Int) ≤ (m : Int) + 1 := by omega
    have hm6 : ((m : Int) + 1).toNat = m + 1 := by omega
    have hm7 : ¬ c0 = m + 1 := hcap
    have hm1 : (0 : Int) ≤ (m : Int) := by omega
    have hm2 : (m : Int) < (n0 : Int) := by omega
    have hm3 : m ≤ c0 := by omega
    have hm4 : m + 1 ≤ n0 := by omega
    have hm5 : (m : Int) + 1 ≤ (n0 : Int) := by omega
    clear h hw1 hnews hlen hone hout hv0 hne0 hn0 hu0 hr0 hs0 hsv hul hl hm hll
    go_enter Try.func50, Try.ntmps50
    go_wp2_with fail
    go_region_law (refine step_append_rw _ (by rfl) (.tmp 11) (.tmp 18) _ (by rfl) 47 i0 _ 24 Try.underlying66 hi hz0 hz1 hz2 (by rfl) _ (us0.take m) (by rfl) (by exact HH.out.1) No _ (us0.drop (m + 1)) (by rfl) (by exact HH.out.2.1) HH.out.2.2.2.1 (n0 - 1) HH.out.2.2.1 (by unfold maxLen; omega) (by omega) ?_; intro a5 c5 w5 hrw5 hg5 hfr5; have d0 := grown_cell hg5 (by exact hp) (by exact HH.out.2.2.2.2.2.2) (by exact hc0); have g0 := grown_frozen hg5 (by exact hp) (by exact HH.out.2.2.2.2.2.2) (by exact hf0))
    all_goals
      have hput := H.out.put HH.out.2.2.2.2.2.1 (Keeps.refl No w).drew hg5 hrw5 hfr5 HH.out.2.2.2.2.1
      clear hrw5 hg5 hfr5
      go_end0
      exact ⟨rfl, _, hput⟩
end Go.Proofs.Ytdkmfppdiggpfaa
