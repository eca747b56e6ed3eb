/- CrcTurned: the law's walk. -/
import Derived.Test.YtkblcdjkabiliaaWF
import Derived.RegionTactic
namespace Go.Proofs.Ytkblcdjkabiliaa
open Go.RowKit Wm

/-- A row of the call's own that is not empty lies at the head of a block. -/
theorem own_form {w : World} {base : Nat} {e : TypeId} {size : Nat} {v : Value} {n : Nat} {xs : List Value} (h : w.ownsRow base e size v n xs) (h0 : 0 < n) :
    ∃ g cap, v = .slice (some ⟨g, 0, none⟩) n cap ∧ base ≤ g ∧ n ≤ cap ∧ cap ≤ maxLen := by
  rcases h.2 with ⟨_, hn⟩ | ⟨g, cap, cur, hv, hg, _, hc, hm, _, _⟩
  · omega
  · exact ⟨g, cap, hv, hg, hc, hm⟩

theorem mod_succ_eq {w i : Nat} (h : ¬ w / 2 ^ i % 2 = 1) : w % 2 ^ (i + 1) = w % 2 ^ i := by
  rw [Wn.mod_two_pow_succ, if_neg h, Nat.xor_zero]
theorem mod_succ_ne {w i : Nat} (h : w / 2 ^ i % 2 = 1) : w % 2 ^ (i + 1) ≠ 0 := by
  intro h0
  have hb : (w % 2 ^ (i + 1)).testBit i = true := by
    rw [Nat.testBit_mod_two_pow, Nat.testBit_eq_decide_div_mod_eq]
    simp [h]
  rw [h0] at hb; simp at hb
/-- A byte turned by one bit, as the walk spells it. -/
theorem turn_u8 {x : Nat} {m : Nat} (hx : x < 256) (hm : m < 8) : bits .xor .u8 (x : Int) ((2 : Int) ^ m % 256) = ((x ^^^ 2 ^ m : Nat) : Int) := by
  have hp : 2 ^ m < 256 := Nat.lt_of_lt_of_le (Nat.pow_lt_pow_right (by omega) hm) (by omega)
  have e : (2 : Int) ^ m % 256 = ((2 ^ m : Nat) : Int) := by
    rw [show (2 : Int) ^ m = ((2 ^ m : Nat) : Int) by simp]
    have h0 : (0 : Int) ≤ ((2 ^ m : Nat) : Int) := Int.natCast_nonneg _
    exact Int.emod_eq_of_lt h0 (by omega)
  rw [e]
  exact u8_xor_nat x (2 ^ m) hx hp

set_option maxRecDepth 20000 in
set_option maxHeartbeats 1000000 in
theorem crcTurned_any (v : Value) (b : List UInt8) (at_ turn : Int) (w : World) (h : SB No w v b) (hat : 0 ≤ at_ ∧ at_ ≤ 65535) (htu : 0 ≤ turn ∧ turn ≤ 4294967295) :
    Calls Try.prog 4 #[v, .int .u16 at_, .int .u32 turn] w (PTrue w) := by
  obtain ⟨i0, hi, hz0, hz1, hz2⟩ := info_parts info5
  obtain ⟨a, n, c, rfl, hn, hnc, hcm⟩ := h.opened
  obtain ⟨at0, rfl⟩ := Int.eq_ofNat_of_zero_le hat.1
  obtain ⟨tu, rfl⟩ := Int.eq_ofNat_of_zero_le htu.1
  obtain ⟨-, hat⟩ := hat
  obtain ⟨-, htu⟩ := htu
  unfold maxLen at hcm
  have Hn := hid hn
  clear hn
  go_enter Try.func4, Try.ntmps4
  go_wp2_with fail
  refine (awake3_any w).mono ?_
  rintro e w1 ⟨rfl, hk1⟩
  have h1 : SB No w1 (.slice a n c) b := SV.keep h hk1 fun _ _ hk => hk.elim
  have hone := Wn.crc_lt b
  by_cases h400 : n ≤ 400
  · by_cases ht0 : tu = 0
    · subst ht0
      go_wp2_with fail
      go_ret
      exact ⟨rfl, hk1⟩
    · have htb : (((tu : Nat) : Int) == 0) = false := by rw [beq_eq_false_iff_ne]; omega
      have hm : (b.map bv).length = n := by rw [List.length_map]; exact Hn.out.symm
      have Hm := hid hm
      clear hm ht0
      by_cases hn0 : n = 0
      · subst hn0
        have hb0 : b = [] := List.eq_nil_of_length_eq_zero Hn.out.symm
        subst hb0
        go_wp2_with (at_builtin; go_must (refine wpList_copy _ rfl (.tmp 21) (.tmp 22) _ rfl 5 i0 _ 1 Try.underlying24 hi hz0 hz1 hz2 rfl rfl No _ ([].map bv) rfl h1 (one_bv _) 0 Hm.out (by unfold maxLen; omega) (by omega) ?_); intro a1 c1 w2 hown1 hk2)
        have hv := SV.of_own (M := No) hown1 (fun _ _ hk => hk)
        refine (sum_any No _ [[]] _ (SL.one_new hv)).mono ?_
        rintro e w3 ⟨rfl, rfl⟩
        have hc0 : Wn.crc [] = 0 := by decide
        simp only [List.flatten_singleton, hc0]
        clear hc0
        go_wp2_with fail
        go_ret
        exact ⟨rfl, (hk1.then_ hk2).alloc _⟩
      · have hb8 : (((8 : Int) * (n : Int)) == 0) = false := by rw [beq_eq_false_iff_ne]; omega
        have hnpos : 0 < n := by omega
        clear hn0
        go_wp2_with (at_builtin; go_must (refine wpList_copy _ rfl (.tmp 21) (.tmp 22) _ rfl 5 i0 _ 1 Try.underlying24 hi hz0 hz1 hz2 rfl rfl No _ (b.map bv) rfl h1 (one_bv _) n Hm.out (by unfold maxLen; omega) (by omega) ?_); intro a1 c1 w2 hown1 hk2)
        obtain ⟨g, cap, hv1, hg, hncap, hcap⟩ := own_form hown1 hnpos
        simp only [Value.slice.injEq, true_and] at hv1
        obtain ⟨rfl, rfl⟩ := hv1
        unfold maxLen at hcap
        obtain ⟨first, hfirst⟩ : ∃ first : Nat, first < 8 * n ∧ (at0 : Int) % (8 * (n : Int)) = (first : Int) := ⟨at0 % (8 * n), Nat.mod_lt _ (by omega), by simp⟩
        obtain ⟨hf, hfirst⟩ := hfirst
        rw [hfirst]
        clear hfirst
        go_loopw [9, 10] (fun t i wr => ∃ (k : Nat) (l : List UInt8), k ≤ 32 ∧ first + k ≤ 8 * n ∧ i = .int .i64 k ∧ wr.ownsRow w1.heap.size 5 1 (.slice (some ⟨g, 0, none⟩) n c1) n (l.map bv) ∧ Wn.le l = Wn.le b ^^^ 2 ^ first * (tu % 2 ^ k) ∧ t = .bool (decide (tu % 2 ^ k ≠ 0)) ∧ Keeps No w1 wr) (fun _ i _ => 32 - (intOf i).toNat)
        case atStart => exact ⟨0, b, by omega, by omega, rfl, hown1, by rw [Nat.pow_zero, Nat.mod_one, Nat.mul_zero, Nat.xor_zero], by simp [Nat.mod_one], hk2⟩
        case round =>
          obtain ⟨k, l, hk, hfk, rfl, hown, hle, rfl, hkr⟩ := hrel
          by_cases hgo : k < 32 ∧ first + k < 8 * n
          · obtain ⟨hlt, hend⟩ := hgo
            · have hll : l.length = n := by have := hown.1; simpa using this
              have hbit : bits .and .u32 ((tu : Int) / 2 ^ k) 1 = ((tu / 2 ^ k % 2 : Nat) : Int) := by
                have h1 : tu / 2 ^ k ≤ tu := Nat.div_le_self _ _
                have := u32_and_nat (tu / 2 ^ k) 1 (by omega) (by omega)
                rw [Nat.and_one_is_mod] at this
                simpa using this
              have hj : (first + k) / 8 < l.length := by omega
              have hcell : wr.cell? ⟨g, (first + k) / 8, none⟩ = some (bv l[(first + k) / 8]) := by
                rw [hown.cellAt _ (by omega), List.getElem?_map, List.getElem?_eq_getElem hj]; rfl
              have hfz := hown.frozenAt ((first + k) / 8)
              have hro := Wn.le_round b l first k tu _ hle (List.getElem?_eq_getElem hj)
              have hro' := Wn.le_round_no b l first k tu hle
              unfold bv at hcell
              have Hll := hid hll
              have Hro := hid hro
              have Hro' := hid hro'
              clear hle hll hro hro'
              generalize l[(first + k) / 8] = x at *
              have hx := x.toNat_lt
              rcases Nat.mod_two_eq_zero_or_one (tu / 2 ^ k) with hb0 | hb0
              · have ht : (bits .and .u32 ((tu : Int) / 2 ^ k) 1 == 1) = false := by rw [hbit, hb0]; rfl
                have Hb0 := hid hb0
                clear hbit hb0
                go_wp2
                go_roundw
                case rel => exact ⟨k + 1, l, by omega, by omega, by go_num, hown, Hro'.out (by rw [Hb0.out]; omega), by rw [mod_succ_eq (by rw [Hb0.out]; omega)]; simp, hkr⟩
                case measure => simp [intOf]; omega
              · have ht : (bits .and .u32 ((tu : Int) / 2 ^ k) 1 == 1) = true := by rw [hbit, hb0]; rfl
                have Hb0 := hid hb0
                clear hbit hb0
                go_wp2
                go_region
                go_wp2
                have hst := hown.stored ((first + k) / 8) (bv (UInt8.ofNat (x.toNat ^^^ 2 ^ ((first + k) % 8))))
                have hval : bits .xor .u8 (x.toNat : Int) ((2 : Int) ^ ((first + k) % 8) % 256) = ((x.toNat ^^^ 2 ^ ((first + k) % 8) : Nat) : Int) := turn_u8 (by omega) (by omega)
                have hlt256 : x.toNat ^^^ 2 ^ ((first + k) % 8) < 256 := Nat.xor_lt_two_pow (n := 8) (by omega) (Nat.pow_lt_pow_right (by omega) (by omega))
                have hbv : bv (UInt8.ofNat (x.toNat ^^^ 2 ^ ((first + k) % 8))) = .int .u8 (bits .xor .u8 (x.toNat : Int) ((2 : Int) ^ ((first + k) % 8) % 256)) := by
                  rw [hval]; exact bv_of (by omega)
                rw [hbv, ← hbv, ← List.map_set, hbv] at hst
                go_roundw
                case rel => exact ⟨k + 1, _, by omega, by omega, by go_num, hst.1, Hro.out Hb0.out, by rw [decide_eq_true (mod_succ_ne Hb0.out)], (hkr.setCell (fun hl => absurd hg (by simp at hl; omega)) _).drew⟩
                case measure => simp [intOf]; omega
          · have hll : l.length = n := by have := hown.1; simpa using this
            have hw32 : tu % 2 ^ k < 4294967296 := Nat.lt_of_le_of_lt (Nat.mod_le _ _) (by omega)
            have hburst := Wn.crc_burst b l (by rw [hll]; exact Hn.out.symm) first (tu % 2 ^ k) (by have := Hn.out; omega) hw32 hle
            have hvc : SB No wr (.slice (some ⟨g, 0, none⟩) n c1) l := SV.of_own (M := No) hown (fun _ _ hk => hk)
            have hcb := Wn.crc_lt b
            have hcl := Wn.crc_lt l
            have h2 : SB No wr (.slice a n c) b := SV.keep h1 hkr fun _ _ hk => hk.elim
            generalize tu % 2 ^ k = wd at *
            have Hburst := hid hburst
            clear hburst hle hw32 hll hone
            have hcases : (32 ≤ k) ∨ (k < 32 ∧ 8 * n ≤ first + k) := by omega
            rcases hcases with hk32 | ⟨hk32, hend⟩
            all_goals
              go_wp2_with fail
              refine (sum_any No _ [b] _ (SL.one_new h2)).mono ?_
              rintro e w3 ⟨rfl, rfl⟩
              simp only [List.flatten_singleton]
              go_wp2_with fail
              refine (sum_any No _ [l] _ (SL.oneAt (by simp) (SV.alloc hvc _))).mono ?_
              rintro e w3 ⟨rfl, rfl⟩
              simp only [List.flatten_singleton]
              generalize Wn.crc b = cs1 at *
              generalize Wn.crc l = cs2 at *
              by_cases hw0 : wd = 0
              · have he : (((cs1 : Nat) : Int) != ((cs2 : Nat) : Int)) = false := by
                  rw [bne_eq_false_iff_eq, Hburst.out.2 hw0]
                subst hw0
                go_wp2_with fail
                go_ret
                exact ⟨by first | rfl | exact ret_bool (by rw [he]; rfl), ((hk1.then_ hkr).alloc _).alloc _⟩
              · have he : (((cs1 : Nat) : Int) != ((cs2 : Nat) : Int)) = true := by
                  rw [bne_iff_ne]; intro e; exact hw0 (Hburst.out.1 (by omega))
                go_wp2_with fail
                go_ret
                exact ⟨by first | rfl | exact ret_bool (by rw [he]), ((hk1.then_ hkr).alloc _).alloc _⟩
  · go_wp2_with fail
    go_ret
    exact ⟨rfl, hk1⟩
end Go.Proofs.Ytkblcdjkabiliaa
