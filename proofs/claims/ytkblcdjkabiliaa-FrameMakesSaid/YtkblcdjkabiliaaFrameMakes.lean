/- FrameMakes: the law's walk. -/
import Derived.Test.YtkblcdjkabiliaaWL
namespace Go.Proofs.Ytkblcdjkabiliaa
open Go.RowKit Wm

set_option maxRecDepth 20000 in
set_option maxHeartbeats 4000000 in
theorem frameMakes_any (v : Value) (ls : List (List UInt8)) (cut : Int) (w : World) (h : SL No w v ls) (hcut : 0 ≤ cut ∧ cut ≤ 65535) : Calls Try.prog 10 #[v, .int .u16 cut] w (PTrue w) := by
  obtain ⟨i0, hi, hz0, hz1, hz2⟩ := info_parts info5
  obtain ⟨a, n, c, rfl, hn, hnc, hcm⟩ := h.opened
  obtain ⟨ct, rfl⟩ := Int.eq_ofNat_of_zero_le hcut.1
  obtain ⟨-, hcut⟩ := hcut
  unfold maxLen at hcm
  have Hn := hid hn
  clear hn
  go_enter Try.func10, Try.ntmps10
  go_wp2_with fail
  refine (awake4_any w).mono ?_
  rintro e w1 ⟨rfl, hk1⟩
  by_cases h10 : n ≤ 10
  · have h1 := h.keep hk1 fun _ _ hk => hk.elim
    go_wp2_with fail
    go_loopw [5, 21] (fun u i wr => ∃ (k m : Nat) (a' : Option Addr) (c' : Nat), k ≤ n ∧ i = .int .i64 k ∧ m ≤ 70000 * k ∧ u = .slice a' m c' ∧ wr.ownsRow w1.heap.size 5 1 (.slice a' m c') m ((ls.take k).flatten.map bv) ∧ Keeps No w1 wr) (fun _ i _ => n - (intOf i).toNat)
    case atStart => exact ⟨0, 0, none, 0, Nat.zero_le _, rfl, by omega, rfl, World.ownsRow_nil _ _ _ _, Keeps.refl _ _⟩
    case round =>
      obtain ⟨k, m, a', c', hk, rfl, hm, rfl, hown, hkr⟩ := hrel
      have hks := hkr.size
      by_cases hlt : k < n
      · have h2 := h1.keep hkr fun _ _ hk => hk.elim
        obtain ⟨b, off, rfl, _, hat⟩ := h2.at_ (by omega)
        have hkl : k < ls.length := by have := Hn.out; omega
        obtain ⟨u2, hcell, hub⟩ := hat k ls[k] (List.getElem?_eq_getElem hkl)
        clear hat
        obtain ⟨a2, n2, c2, rfl, hn2, hnc2, hcm2⟩ := hub.opened
        unfold maxLen at hcm2
        have hstep : (ls.take (k + 1)).flatten.map bv = (ls.take k).flatten.map bv ++ ls[k].map bv := by
          rw [flat_succ hkl, List.map_append]
        have hlm : (ls[k].map bv).length = n2 := by rw [List.length_map]; exact hn2.symm
        have Hs := hid hstep
        have Hlm := hid hlm
        clear hstep hlm hn2
        by_cases h7 : n2 ≤ 70000
        · generalize (ls.take k).flatten.map bv = q at *
          have hone := one_bv ls[k]
          unfold SB at hub
          generalize ls[k].map bv = p at *
          go_wp2_with (at_builtin; go_must (refine wpList_app _ rfl (.tmp 28) (.tmp 29) _ rfl w1.heap.size 5 i0 _ 1 Try.underlying24 hi hz0 hz1 hz2 rfl _ _ _ rfl hown No _ p rfl hub hone (m + n2) (by rw [Hlm.out]) (by unfold maxLen; omega) (by omega) hks ?_); intro a3 c3 w2 hown2 hg2 hat2)
          go_roundw
          case rel => exact ⟨k + 1, m + n2, a3, c3, by omega, by go_num, by omega, rfl, by rw [Hs.out]; exact hown2, hkr.app hown (Nat.le_refl _) hg2⟩
          case measure => simp [intOf]; omega
        · go_wp2_with fail
          go_ret
          exact ⟨rfl, hk1.then_ hkr⟩
      · have hke : k = n := by omega
        subst hke
        have hall : (ls.take k) = ls := List.take_of_length_le (by have := Hn.out; omega)
        rw [hall] at hown
        have hm' : m = ls.flatten.length := by have := hown.1; rw [List.length_map] at this; omega
        have Hm := hid hm'
        have hv : SB No wr (.slice a' m c') ls.flatten := SV.of_own hown (fun _ _ hk => hk)
        have h3 := h1.keep hkr fun _ _ hk => hk.elim
        clear hall hm' hown
        by_cases hbig : 32768 < m
        · go_wp2_with fail
          refine (make_err No _ ls _ h3 (by have := Hm.out; omega)).mono ?_
          rintro e w2 ⟨rfl, hk2⟩
          go_wp2_with fail
          go_ret
          exact ⟨rfl, (hk1.then_ hkr).then_ hk2⟩
        · have hsm : ls.flatten.length ≤ 32768 := by have := Hm.out; omega
          have hbd := mk_bd hsm
          have hop := Wn.opFrame_mk ls.flatten hsm
          have hopS := Wn.opFrame_short ls.flatten hsm
          have Hop := hid hop
          have HopS := hid hopS
          clear hop hopS
          go_wp2_with fail
          refine (make_ok No _ ls _ h3 hsm).mono ?_
          rintro e w2 ⟨ab, r, cb, rfl, hown2, hk2⟩
          have hrl : r = (Wn.mkFrame ls.flatten).length := by have := hown2.1; rw [List.length_map] at this; omega
          have Hrl := hid hrl
          have hr5 : 5 ≤ r ∧ r ≤ 32780 := by omega
          obtain ⟨hr5, hr6⟩ := hr5
          have hvb : SB No w2 (.slice ab r cb) (Wn.mkFrame ls.flatten) := SV.of_own hown2 (fun _ _ hk => hk)
          have hcb := hvb.cap
          unfold maxLen at hcb
          obtain ⟨hcb1, hcb2⟩ := hcb
          have hv2 : SB No w2 (.slice a' m c') ls.flatten := SV.keep hv hk2 fun _ _ hk => hk.elim
          clear hrl hbd hown2
          go_wp2_with fail
          refine (rmake_any No _ _ _ hv2 hsm).mono ?_
          rintro e w3 ⟨am, rm, cm, rfl, hown3, hk3⟩
          have hvm : SB No w3 (.slice am rm cm) (Wn.mkFrame ls.flatten) := SV.of_own hown3 (fun _ _ hk => hk)
          have hvb3 : SB No w3 (.slice ab r cb) (Wn.mkFrame ls.flatten) := SV.keep hvb hk3 fun _ _ hk => hk.elim
          clear hown3
          go_wp2_with fail
          refine (bytes_any No No _ _ _ _ _ hvb3 hvm).mono ?_
          rintro e w4 ⟨rfl, d4, rfl⟩
          rw [eqB_self]
          replace hk3 := hk3.drewN d4
          replace hvb3 : SB No (w3.drewN d4) (.slice ab r cb) (Wn.mkFrame ls.flatten) := SV.drewN hvb3 _
          generalize w3.drewN d4 = w4 at *
          go_wp2_with fail
          refine (open_any No _ _ _ hvb3 (by have := Hrl.out; omega)).mono ?_
          rintro e w5 ⟨r5, rfl, ht5, hk5⟩
          rw [Hop.out] at ht5 ⊢
          obtain ⟨a5, n5, c5, rfl, -, -, -⟩ := ht5.opened
          obtain ⟨j, hj, hje⟩ : ∃ j, j < r ∧ (ct : Int) % (r : Int) = (j : Int) := ⟨ct % r, Nat.mod_lt _ (by omega), by simp⟩
          have hvb5 : SB No w5 (.slice ab r cb) (Wn.mkFrame ls.flatten) := SV.keep hvb3 hk5 fun _ _ hk => hk.elim
          have htk : SB No w5 (.slice ab j cb) ((Wn.mkFrame ls.flatten).take j) := by
            have := SV.take hvb5 (k := j) (by omega)
            rw [← List.map_take] at this; exact this
          have Htk := hid htk
          have Hje := hid hje
          have hK5 : Keeps No w w5 := ((((hk1.then_ hkr).then_ hk2).then_ hk3).then_ hk5)
          have hv5 : SB No w5 (.slice a' m c') ls.flatten := SV.keep hv ((hk2.then_ hk3).then_ hk5) fun _ _ hk => hk.elim
          have hjc : j ≤ cb := by omega
          clear htk
          go_wp2_with fail
          refine (open_any No _ _ _ Htk.out (by rw [List.length_take]; have := Hrl.out; omega)).mono ?_
          rintro e w6 ⟨r6, rfl, ht6, hk6⟩
          rw [HopS.out j (by have := Hrl.out; omega)] at ht6 ⊢
          obtain ⟨a6, n6, c6, rfl, hn6, -, -⟩ := ht6.opened
          simp at hn6
          subst hn6
          have ht5' : SB No w6 (.slice a5 n5 c5) ls.flatten := SV.keep ht5.no hk6 fun _ _ hk => hk.elim
          have hv6 : SB No w6 (.slice a' m c') ls.flatten := SV.keep hv5 hk6 fun _ _ hk => hk.elim
          clear ht5 ht6
          go_wp2_with fail
          refine (bytes_any No No _ _ _ _ _ ht5' hv6).mono ?_
          rintro e w7 ⟨rfl, d7, rfl⟩
          rw [eqB_self]
          go_wp2_with fail
          go_ret
          exact ⟨rfl, (hK5.then_ hk6).drewN _⟩
  · go_wp2_with fail
    go_ret
    exact ⟨rfl, hk1⟩
end Go.Proofs.Ytkblcdjkabiliaa
