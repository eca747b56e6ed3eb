/- The walks of the reference's way: Take. -/
import Derived.Test.YtdkmfppdiggpfaaNI
namespace Go.Proofs.Ytdkmfppdiggpfaa
open Go.RowKit Wm

/-- What stands in the row's cell behind the frame that is taken out. -/
theorem PTake.cut {T : TypeId} {tail : List Value} {R : Blocks} {p k m : Nat} {vs : List Value} {Ls : List (List (List UInt8))} {l : List (List UInt8)} {w w4 : World} {v0 v4 u : Value} {us us4 : List Value}
    (h : RowsAt 47 T tail R w p vs Ls) (hm : m < l.length) (hv0 : vs[k]? = some v0) (hk4 : Keeps No w w4) (hr : Rw 47 w4 v4 us4) (hus : us4 = us.take m ++ us.drop (m + 1))
    (hfr : ∀ g, v4.ownBlock = some g → w.heap.size ≤ g ∧ g < w4.heap.size) (hs : SLV (fun q => RF p vs q ∨ R q) w us l) (hu : SB (fun q => RF p vs q ∨ R q) w u l[m]) :
    PTake T tail R p k vs Ls l m false w (.returned (.tuple #[u, .int .i64 0])) (w4.setCell ⟨p, k, none⟩ v4) := by
  subst hus
  have hz : InL l m := ⟨by omega, by omega⟩
  obtain ⟨h1, h2, h3⟩ := h.put hv0 (Keeps.refl No w) (hk4.grownBy fun _ _ h => h.elim) hr (fun g hg => .inr (hfr g hg)) (hs.out m)
  have hx : takeB l m = l[m] := by
    unfold takeB; rw [if_pos hz, List.getD_eq_getElem?_getD]
    simp [hm]
  refine ⟨u, _, by unfold takeC; rw [if_pos hz], ?_, by unfold takeL; rw [if_pos ⟨hz, rfl⟩]; exact h1, h2, h3⟩
  rw [hx]
  exact sv_shift hu h2 (fun q _ hq => .inl hq) fun q hl hq => hq.elim (fun hq => (h3 q hq).elim .inl fun h => by omega) .inr

set_option maxRecDepth 20000 in
set_option maxHeartbeats 4000000 in
theorem rtake_any (R : Blocks) (p : Nat) (z : Int) (keep : Bool) (vs : List Value) (Ls : List (List (List UInt8))) (l : List (List UInt8)) (w : World) (h : RowsAt 47 68 [] R w p vs Ls)
    (hl : Ls[0]? = some l) (hll : l.length ≤ 1048576) :
    Calls Try.prog 35 #[.pointer (some ⟨p, 0, none⟩), .int .i64 z, .bool keep] w (PTake 68 [] R p 0 vs Ls l z keep w) := by
  obtain ⟨i0, hi, hz0, hz1, hz2⟩ := info_parts info47
  obtain ⟨a0, n0, c0, us0, hv0, hn0, hu0, hnc0, hcm0, hr0, hs0, hc0, hf0⟩ := h.row hl
  have hp := h.lt p (.inl rfl)
  unfold maxLen at hcm0
  by_cases hz : InL l z
  · obtain ⟨m, rfl⟩ : ∃ m : Nat, z = (m : Int) := ⟨z.toNat, by have := hz.1; omega⟩
    have hm : m < l.length := by have := hz.2; omega
    obtain ⟨b, off, rfl, -, hat⟩ := hr0.1.at_ (by omega)
    obtain ⟨u, hu, hb⟩ := hs0.2 m l[m] (List.getElem?_eq_getElem hm)
    have hcu := hat m u hu
    have hx : takeB l m = l[m] := by
      unfold takeB; rw [if_pos hz, List.getD_eq_getElem?_getD]
      simp [hm]
    have hmn : m < n0 := by omega
    have hnb : n0 ≤ 1048576 := by omega
    have hsv := hr0.1
    have ho1 : ¬ (m : Int) < 0 := by omega
    have ho2 : (m : Int) < (n0 : Int) := by omega
    have ho3 : (0 : Int) ≤ (m : Int) := by omega
    cases keep
    · have ht : SV No w (.slice (some ⟨b, off, none⟩) m c0) (us0.take m) := SV.take hsv (k := m) (by omega)
      have hone : ∀ u ∈ us0, u.oneCell' = true := by
        intro u hu
        obtain ⟨i, hi, rfl⟩ := List.getElem_of_mem hu
        obtain ⟨u', hu', hb'⟩ := hs0.2 i l[i] (List.getElem?_eq_getElem (by rw [← hs0.1]; exact hi))
        rw [List.getElem?_eq_getElem hi] at hu'
        injection hu' with hu'
        obtain ⟨xa, xn, xc, hx, -⟩ := hb'.opened
        rw [hu', hx]; rfl
      have hone1 : ∀ u ∈ us0.take m, u.oneCell' = true := fun u hu => hone u (List.mem_of_mem_take hu)
      have hone2 : ∀ u ∈ us0.drop (m + 1), u.oneCell' = true := fun u hu => hone u (List.mem_of_mem_drop hu)
      have hl1 : ([] : List Value).length + (us0.take m).length = m := by rw [List.length_take]; simp; omega
      have hl2 : (us0.take m).length + (us0.drop (m + 1)).length = n0 - 1 := by rw [List.length_take, List.length_drop]; omega
      have hcut := fun w4 v4 us4 hk4 hr hus hfr => PTake.cut (k := 0) (w4 := w4) (v4 := v4) (us4 := us4) h hm hv0 hk4 hr hus hfr hs0 hb
      have Hcut := hid hcut
      have hnews : c0 ≠ m + 1 → SV No w (.slice (some ⟨b, off + (m + 1), none⟩) (n0 - (m + 1)) (c0 - (m + 1))) (us0.drop (m + 1)) := fun _ =>
        SV.drop hsv (k := m + 1) (by omega) fun _ b off e => by cases e; rfl
      have hnil : c0 = m + 1 → us0.drop (m + 1) = [] := fun e => List.drop_of_length_le (by omega)
      have HH := hid (show _ ∧ _ ∧ _ ∧ _ ∧ _ from ⟨ht, hone1, hone2, hl1, hl2⟩)
      have HN := hid (show _ ∧ _ from ⟨hnews, hnil⟩)
      have hw : IntKind.i64.wrap ((m : Int) + 1) = (m : Int) + 1 := by rw [IntKind.wrap_i64]; omega
      have hm8 : (0 : Int) ≤ (m : Int) + 1 := by omega
      have hm6 : ((m : Int) + 1).toNat = m + 1 := by omega
      have hm3 : m ≤ c0 := by omega
      have hm4 : m + 1 ≤ n0 := by omega
      have hm5 : (m : Int) + 1 ≤ (n0 : Int) := by omega
      clear hcut h hx hz hl hll hv0 hn0 hu0 hr0 hs0 hat hu hb ht hone hone1 hone2 hl1 hl2 hnews hnil hsv hm
      go_enter Try.func35, Try.ntmps35
      go_wp2_with (at_builtin; refine hold ?_)
      unfold Held
      refine wpList_append_rw _ rfl (.tmp 30) (.tmp 36) _ rfl 47 i0 _ 24 Try.underlying66 hi hz0 hz1 hz2 rfl _ [] rfl (Rw.nil _ _) No _ (us0.take m) rfl HH.out.1 HH.out.2.1 m HH.out.2.2.2.1 (by unfold maxLen; omega) (by omega) ?_
      intro a3 c3 w3 hrw3 hg3 hfr3
      have hk3 : Keeps No w w3 := Keeps.of_grown hg3 fun g hg => by cases hg
      have hfr3' : ∀ g, (Value.slice a3 m c3).ownBlock = some g → w.heap.size ≤ g ∧ g < w3.heap.size := fun g hg => (hfr3 g hg).elim (fun e => by cases e) id
      have hne3 : (Value.slice a3 m c3).ownBlock ≠ some p := fun e => by have := hfr3' p e; omega
      have d0 := grown_cell hg3 hp (by intro e; cases e) hc0
      have g0 := grown_frozen hg3 hp (by intro e; cases e) hf0
      have hp3 : p < w3.heap.size := by have := hk3.size; omega
      have H3 := hid (show _ ∧ _ ∧ _ ∧ _ from ⟨hrw3, hk3, hfr3', hne3⟩)
      clear hrw3 hg3 hfr3 hk3 hfr3' hne3 hc0 hf0
      by_cases hcap : c0 = m + 1
      · have hn1 : n0 = m + 1 := by omega
        have hlen := HH.out.2.2.2.2
        rw [HN.out.2 hcap] at hlen
        subst hcap; subst hn1
        have hlen' : (us0.take m).length + ([] : List Value).length = m := by omega
        have Hlen := hid hlen'
        have Hnil := hid (HN.out.2 rfl)
        clear hlen hlen'
        go_wp2_with (at_builtin; refine hold ?_)
        unfold Held
        refine wpList_append_rw _ rfl (.tmp 39) (.tmp 46) _ rfl 47 i0 _ 24 Try.underlying66 hi hz0 hz1 hz2 rfl _ (us0.take m) rfl H3.out.1 No _ [] rfl (SV.nil_ _ _ _ _ (Nat.zero_le _)) (by intro u hu; cases hu) m Hlen.out (by unfold maxLen; omega) (by omega) ?_
        intro a4 c4 w4 hrw4 hg4 hfr4
        have hk4 : Keeps No w w4 := H3.out.2.1.grown hg4 fun g hg hl => by have := H3.out.2.2.1 g hg; omega
        have hfr4' : ∀ g, (Value.slice a4 m c4).ownBlock = some g → w.heap.size ≤ g ∧ g < w4.heap.size := fun g hg => by
          have hs := hg4.size
          rcases hfr4 g hg with h | h
          · have := H3.out.2.2.1 g h; omega
          · have := H3.out.2.1.size; omega
        have d1 := grown_cell hg4 hp3 H3.out.2.2.2 d0
        have g1 := grown_frozen hg4 hp3 H3.out.2.2.2 g0
        have Hend := hid (Hcut.out w4 _ _ hk4 hrw4 (by rw [Hnil.out]) hfr4')
        clear hrw4 hg4 hfr4 hk4 hfr4' d0 g0
        go_wp2_with fail
        go_ret2
        exact Hend.out
      · go_wp2_with (at_builtin; refine hold ?_)
        unfold Held
        refine wpList_append_rw _ rfl (.tmp 39) (.tmp 46) _ rfl 47 i0 _ 24 Try.underlying66 hi hz0 hz1 hz2 rfl _ (us0.take m) rfl H3.out.1 No _ (us0.drop (m + 1)) rfl ((HN.out.1 hcap).keep H3.out.2.1 fun _ _ h => h) HH.out.2.2.1 (n0 - 1) HH.out.2.2.2.2 (by unfold maxLen; omega) (by omega) ?_
        intro a4 c4 w4 hrw4 hg4 hfr4
        have hk4 : Keeps No w w4 := H3.out.2.1.grown hg4 fun g hg hl => by have := H3.out.2.2.1 g hg; omega
        have hfr4' : ∀ g, (Value.slice a4 (n0 - 1) c4).ownBlock = some g → w.heap.size ≤ g ∧ g < w4.heap.size := fun g hg => by
          have hs := hg4.size
          rcases hfr4 g hg with h | h
          · have := H3.out.2.2.1 g h; omega
          · have := H3.out.2.1.size; omega
        have d1 := grown_cell hg4 hp3 H3.out.2.2.2 d0
        have g1 := grown_frozen hg4 hp3 H3.out.2.2.2 g0
        have Hend := hid (Hcut.out w4 _ _ hk4 hrw4 rfl hfr4')
        clear hrw4 hg4 hfr4 hk4 hfr4' d0 g0
        go_wp2_with fail
        go_ret2
        exact Hend.out
    · have hpost : PTake 68 [] R p 0 vs Ls l m true w (.returned (.tuple #[u, .int .i64 0])) w :=
        ⟨u, vs, by unfold takeC; rw [if_pos hz], by rw [hx]; exact hb, by unfold takeL; rw [if_neg (by simp), set_same hl]; exact h, Keeps.refl _ _, fun _ h => .inl h⟩
      have Hp := hid hpost
      clear hpost hx hz h hl hll hv0 hn0 hu0 hr0 hs0 hat hu hb hsv hm
      go_enter Try.func35, Try.ntmps35
      go_wp2_with fail
      go_ret2
      exact Hp.out
  · have hpost := PTake.out (keep := keep) h hl hz
    have Hp := hid hpost
    have hzz : z < 0 ∨ (0 ≤ z ∧ (n0 : Int) ≤ z) := by unfold InL at hz; omega
    clear hpost hz h hl hll hv0 hn0 hu0 hr0 hs0
    rcases hzz with hz0 | ⟨hz0, hz1⟩
    · go_enter Try.func35, Try.ntmps35
      go_wp2_with fail
      go_ret2
      exact Hp.out
    · have hz2 : ¬ z < 0 := by omega
      go_enter Try.func35, Try.ntmps35
      go_wp2_with fail
      go_ret2
      exact Hp.out
end Go.Proofs.Ytdkmfppdiggpfaa
