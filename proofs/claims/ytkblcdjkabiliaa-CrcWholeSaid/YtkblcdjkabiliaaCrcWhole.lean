/- CrcWhole: the law's walk. -/
import Derived.Test.YtkblcdjkabiliaaWF
namespace Go.Proofs.Ytkblcdjkabiliaa
open Go.RowKit Wm

theorem wholeB_tail (b : List UInt8) : wholeB (b ++ Wn.le4 (Wn.crc b)) = true := by
  have h : (b ++ Wn.le4 (Wn.crc b)).length - 4 = b.length := by simp [Wn.le4_length]
  unfold wholeB
  rw [h, decide_eq_true_iff]
  exact ⟨by simp [Wn.le4_length], by rw [List.drop_left, List.take_left]⟩

/-- The law's last part: bytes with their sum behind them end in their sum. -/
def PBack (w : World) (e : Ending) (w' : World) : Prop := PTrue w e w'

set_option maxRecDepth 20000 in
set_option maxHeartbeats 1000000 in
theorem crcWhole_any (v : Value) (b : List UInt8) (w : World) (h : SB No w v b) : Calls Try.prog 5 #[v] w (PTrue w) := by
  obtain ⟨i0, hi, hz0, hz1, hz2⟩ := info_parts info5
  obtain ⟨a, n, c, rfl, hn, hnc, hcm⟩ := h.opened
  unfold maxLen at hcm
  have Hn := hid hn
  clear hn
  go_enter Try.func5, Try.ntmps5
  go_wp2_with fail
  refine (awake3_any w).mono ?_
  rintro e w1 ⟨rfl, hk1⟩
  by_cases h400 : n ≤ 400
  · have h1 : SB No w1 (.slice a n c) b := SV.keep h hk1 fun _ _ hk => hk.elim
    have hsz : b.length ≤ 16777216 := by have := Hn.out; omega
    go_wp2_with fail
    refine (whole_any No _ b _ h1 hsz).mono ?_
    rintro e w2 ⟨r, rfl, hr, hk2⟩
    have h2 : SB No w2 (.slice a n c) b := SV.keep h1 hk2 fun _ _ hk => hk.elim
    obtain ⟨a2, n2, c2, rfl, hn2, hnc2, hcm2⟩ := hr.opened
    unfold maxLen at hcm2
    have Hn2 := hid hn2
    have Hr := hid hr
    have Hcase : Hid ((wholeB b = true ∧ ∃ k : Nat, b.length - 4 = k ∧ k ≤ n ∧ k ≤ c ∧ wholeN b = (k : Int) ∧ SB No w2 (.slice a k c) (b.take k) ∧ SB No w2 (.slice a2 n2 c2) (b.take k)) ∨ (wholeB b = false ∧ wholeN b = -1 ∧ n2 ≤ 0)) := by
      by_cases hw : wholeB b = true
      · refine .inl ⟨hw, b.length - 4, rfl, by have := Hn.out; omega, by have := Hn.out; omega, by unfold wholeN; rw [if_pos hw], ?_, ?_⟩
        · have := SV.take h2 (k := b.length - 4) (by have := Hn.out; omega)
          rw [← List.map_take] at this; exact this
        · have := Hr.out
          rw [if_pos hw] at this; exact SV.no this
      · refine .inr ⟨by simpa using hw, by unfold wholeN; rw [if_neg hw], ?_⟩
        rw [if_neg hw] at hn2; simp at hn2; omega
    clear hn2 hr
    rcases Hcase.out with ⟨hw, k, -, hkn, hkc, hnn, htk, hgot⟩ | ⟨hw, hnn, hn0⟩
    focus
      rw [hw]
      have hkc2 : (k : Int) ≤ (c : Int) := by omega
      have hk0 : (0 : Int) ≤ (k : Int) := by omega
      have hmax : ∀ ts t wx, (Builtin.max_ ts t #[.int .i64 0, .int .i64 (k : Int)]).run Try.prog wx = .ok (.int .i64 (k : Int)) wx := by
        intro ts t wx
        rw [run_max_int2]
        congr 2
        split <;> omega
      clear hw Hcase
      have Hnn := hid hnn
      clear hnn
      go_wp2_with fail
      refine (rwhole_any No _ b _ h2).mono ?_
      rintro e w3 ⟨rfl, hk3⟩
      rw [Hnn.out]
      clear Hnn
      go_wp2_with fail
      clear hmax
      refine (bytes_any No No _ _ _ _ _ (SV.keep hgot hk3 fun _ _ hk => hk.elim) (SV.keep htk hk3 fun _ _ hk => hk.elim)).mono ?_
      rintro e w4 ⟨rfl, q, rfl⟩
      rw [eqB_self]
      replace hk3 := hk3.drewN q
      generalize w3.drewN q = w3 at *
      clear hgot htk
      have h3 : SB No w3 (.slice a n c) b := SV.keep h2 hk3 fun _ _ hk => hk.elim
      have hm : (b.map bv).length = n := by rw [List.length_map]; exact Hn.out.symm
      have Hm := hid hm
      clear hm
      go_wp2_with (at_builtin; go_must (refine wpList_append_copy _ rfl (.tmp 46) (.tmp 47) _ rfl 5 i0 _ 1 Try.underlying24 hi hz0 hz1 hz2 rfl rfl No _ (b.map bv) rfl h3 (one_bv _) (by rw [Hm.out]; unfold maxLen; omega) (by rw [Hm.out]; omega) ?_); intro v1 w4 hown1 hk4)
    rotate_left
    focus
      rw [hw]
      clear hw Hcase
      have Hnn := hid hnn
      clear hnn
      go_wp2_with fail
      refine (rwhole_any No _ b _ h2).mono ?_
      rintro e w3 ⟨rfl, hk3⟩
      rw [Hnn.out]
      clear Hnn
      have h3 : SB No w3 (.slice a n c) b := SV.keep h2 hk3 fun _ _ hk => hk.elim
      have hm : (b.map bv).length = n := by rw [List.length_map]; exact Hn.out.symm
      have Hm := hid hm
      clear hm
      go_wp2_with (at_builtin; go_must (refine wpList_append_copy _ rfl (.tmp 46) (.tmp 47) _ rfl 5 i0 _ 1 Try.underlying24 hi hz0 hz1 hz2 rfl rfl No _ (b.map bv) rfl h3 (one_bv _) (by rw [Hm.out]; unfold maxLen; omega) (by rw [Hm.out]; omega) ?_); intro v1 w4 hown1 hk4)
    all_goals
      rw [Hm.out] at hown1
      have h4 : SB No w4 (.slice a n c) b := SV.keep h3 hk4 fun _ _ hk => hk.elim
      refine (sum_any No _ [b] _ (SL.one_new h4)).mono ?_
      rintro e w5 ⟨rfl, rfl⟩
      simp only [List.flatten_singleton]
      have hcl := Wn.crc_lt b
      have Hback := hid (wholeB_tail b)
      generalize Wn.crc b = cs at *
      go_wp2_with fail
      refine (tail_any _ _ hcl).mono ?_
      rintro e w5 ⟨v2, rfl, ht2, hk5⟩
      obtain ⟨a4, n4, c4, rfl, hn4, -, -⟩ := ht2.opened
      have Hn4 := hid hn4
      clear hn4
      have hown2 := ownsRow_keep (hown1.alloc _) hk5 fun _ _ hk => hk
      have hl4 : ((Wn.le4 cs).map bv).length = 4 := by rw [List.length_map, Wn.le4_length]
      have hs5 : w3.heap.size ≤ w5.heap.size := by have := hk5.size; have := hk4.size; simp at *; omega
      go_wp2_with (at_builtin; go_must (refine wpList_append_any _ rfl (.tmp 48) (.tmp 52) _ rfl w3.heap.size 5 i0 _ 1 Try.underlying24 hi hz0 hz1 hz2 rfl _ _ _ rfl hown2 _ _ _ rfl ht2 (one_bv _) (by rw [hl4]; unfold maxLen; omega) (by rw [hl4]; omega) hs5 ?_); intro v3 w6 hown3 hg6 hat6)
      have hK : Keeps No w w6 := ((((((hk1.then_ hk2).then_ hk3).then_ hk4).alloc _).then_ hk5)).app hown2 (by have := hk1.size; have := hk2.size; have := hk3.size; omega) hg6
      have hv : SB No w6 v3 (b ++ Wn.le4 cs) := by
        have := SV.of_own (M := No) hown3 (fun _ _ hk => hk)
        unfold SB; rw [List.map_append]; exact this
      have hK36 : Keeps No w3 w6 := ((hk4.alloc _).then_ hk5).app hown2 (Nat.le_refl _) hg6
      clear hown3 hg6 hat6 hown2
      have hsz2 : (b ++ Wn.le4 cs).length ≤ 16777216 := by rw [List.length_append, Wn.le4_length]; have := Hn.out; omega
      refine (whole_any No _ _ _ hv hsz2).mono ?_
      rintro e w7 ⟨r2, rfl, hr2, hk7⟩
      rw [Hback.out] at *
      have hlast : (b ++ Wn.le4 cs).length - 4 = b.length := by rw [List.length_append, Wn.le4_length]; omega
      rw [if_pos rfl, hlast, List.take_left] at hr2
      clear hlast
      obtain ⟨a6, n6, c6, rfl, hn6, -, -⟩ := hr2.opened
      have Hn6 := hid hn6
      clear hn6
      have h7 : SB No w7 (.slice a n c) b := SV.keep h3 (hK36.then_ hk7) fun _ _ hk => hk.elim
      go_wp2_with fail
      refine (bytes_any _ No _ _ _ _ _ hr2 h7).mono ?_
      rintro e w8 ⟨rfl, q8, rfl⟩
      rw [eqB_self]
      go_wp2_with fail
      go_ret
      exact ⟨rfl, (hK.then_ hk7).drewN _⟩
  · go_wp2_with fail
    go_ret
    exact ⟨rfl, hk1⟩
end Go.Proofs.Ytkblcdjkabiliaa
