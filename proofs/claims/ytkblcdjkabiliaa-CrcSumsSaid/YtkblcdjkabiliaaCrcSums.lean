/- CrcSums: the law's walk. -/
import Derived.Test.YtkblcdjkabiliaaWF
namespace Go.Proofs.Ytkblcdjkabiliaa
open Go.RowKit Wm

set_option maxRecDepth 20000 in
set_option maxHeartbeats 1000000 in
theorem crcSums_any (v : Value) (ls : List (List UInt8)) (w : World) (h : SL No w v ls) : Calls Try.prog 3 #[v] w (PTrue w) := by
  obtain ⟨i0, hi, hz0, hz1, hz2⟩ := info_parts info5
  obtain ⟨a, n, c, rfl, hn, hnc, hcm⟩ := h.opened
  unfold maxLen at hcm
  have Hn := hid hn
  clear hn
  go_enter Try.func3, Try.ntmps3
  go_wp2_with fail
  refine (awake3_any w).mono ?_
  rintro e w1 ⟨rfl, hk1⟩
  by_cases h20 : n ≤ 20
  · have h1 := h.keep hk1 fun _ _ hk => hk.elim
    go_wp2_with fail
    go_loopw [3, 14] (fun u i wr => ∃ k m : Nat, k ≤ n ∧ i = .int .i64 k ∧ m ≤ 300 * k ∧ wr.ownsRow w1.heap.size 5 1 u m ((ls.take k).flatten.map bv) ∧ Keeps No w1 wr) (fun _ i _ => n - (intOf i).toNat)
    case atStart => exact ⟨0, 0, Nat.zero_le _, rfl, by omega, World.ownsRow_nil _ _ _ _, Keeps.refl _ _⟩
    case round =>
      obtain ⟨k, m, hk, rfl, hm, hown, hkr⟩ := hrel
      have hks := hkr.size
      by_cases hlt : k < n
      · have h2 := h1.keep hkr fun _ _ hk => hk.elim
        obtain ⟨b, off, rfl, _, hat⟩ := h2.at_ (by omega)
        have hkl : k < ls.length := by have := Hn.out; omega
        obtain ⟨u2, hcell, hub⟩ := hat k ls[k] (List.getElem?_eq_getElem hkl)
        clear hat
        obtain ⟨a2, n2, c2, rfl, hn2, hnc2, hcm2⟩ := hub.opened
        unfold maxLen at hcm2
        have Hn2 := hid hn2
        have hstep : (ls.take (k + 1)).flatten.map bv = (ls.take k).flatten.map bv ++ ls[k].map bv := by
          rw [List.take_succ_eq_append_getElem hkl, List.flatten_append, List.flatten_singleton, List.map_append]
        have hlm : (ls[k].map bv).length = n2 := by rw [List.length_map]; exact hn2.symm
        have Hs := hid hstep
        have Hlm := hid hlm
        clear hstep hlm hn2
        by_cases h300 : n2 ≤ 300
        · generalize (ls.take k).flatten.map bv = q at *
          have hone := one_bv ls[k]
          unfold SB at hub
          generalize ls[k].map bv = p at *
          go_wp2_with (at_builtin; go_must (refine wpList_append_any _ rfl (.tmp 21) (.tmp 22) _ rfl w1.heap.size 5 i0 _ 1 Try.underlying24 hi hz0 hz1 hz2 rfl _ _ _ rfl hown No _ p rfl hub hone (by rw [Hlm.out]; unfold maxLen; omega) (by rw [Hlm.out]; omega) hks ?_); intro v1 w2 hown2 hg2 hat2)
          rw [Hlm.out] at hown2
          go_roundw
          case rel => exact ⟨k + 1, m + n2, by omega, by go_num, by omega, by rw [Hs.out]; exact hown2, hkr.app hown (Nat.le_refl _) hg2⟩
          case measure => simp [intOf]; omega
        · go_wp2_with fail
          go_ret
          exact ⟨rfl, hk1.then_ hkr⟩
      · have hke : k = n := by omega
        subst hke
        have hall : (ls.take k) = ls := List.take_of_length_le (by have := Hn.out; omega)
        rw [hall] at hown
        clear hall
        have hv := SV.of_own (M := No) hown (fun _ _ hk => hk)
        have Hv := hid hv
        obtain ⟨a3, n3, c3, rfl, -, hnc3, hcm3⟩ := hv.opened
        clear hv
        have hcl := Wn.crc_lt ls.flatten
        have h3 := h1.keep hkr fun _ _ hk => hk.elim
        go_wp2_with fail
        refine (sum_any No _ ls _ h3).mono ?_
        rintro e w2 ⟨rfl, rfl⟩
        go_wp2_with fail
        refine (rsum_any No _ ls.flatten _ Hv.out).mono ?_
        rintro e w2 ⟨rfl, rfl⟩
        generalize Wn.crc ls.flatten = cs at *
        go_wp2_with fail
        refine (tail_any _ _ hcl).mono ?_
        rintro e w2 ⟨v2, rfl, ht2, hk2⟩
        obtain ⟨a4, n4, c4, rfl, -, -, -⟩ := ht2.opened
        go_wp2_with fail
        refine (rtail_any _ _ hcl).mono ?_
        rintro e w3 ⟨v3, rfl, ht3, hk3⟩
        obtain ⟨a5, n5, c5, rfl, -, -, -⟩ := ht3.opened
        go_wp2_with fail
        refine (bytes_any No No _ _ _ _ _ (ht2.no.keep hk3 fun _ _ hk => hk.elim) ht3.no).mono ?_
        rintro e w4 ⟨rfl, q, rfl⟩
        rw [eqB_self]
        go_wp2_with fail
        go_ret
        exact ⟨rfl, (((hk1.then_ hkr).then_ hk2).then_ hk3).drewN _⟩
  · go_wp2_with fail
    go_ret
    exact ⟨rfl, hk1⟩
end Go.Proofs.Ytkblcdjkabiliaa
