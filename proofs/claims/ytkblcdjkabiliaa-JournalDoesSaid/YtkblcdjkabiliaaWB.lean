/- The walks through crc.Sum and the reference's Sum. -/
import Derived.Test.YtkblcdjkabiliaaWA
import Derived.Test.YtkblcdjkabiliaaMem
namespace Go.Proofs.Ytkblcdjkabiliaa
open Go.RowKit Wm

set_option maxHeartbeats 400000 in
theorem sum_any (M : Blocks) (v : Value) (ls : List (List UInt8)) (w : World) (h : SL M w v ls) :
    Calls Try.prog 16 #[v] w fun e w' => e = .returned (.int .u32 (Wn.crc ls.flatten : Nat)) ∧ w = w' := by
  obtain ⟨a, n, c, rfl, hn, hnc, hcm⟩ := h.opened
  unfold maxLen at hcm
  have Hn := hid hn
  clear hn
  go_enter Try.func16, Try.ntmps16
  go_wp2
  go_loop [3, 10] (fun s i => ∃ k : Nat, k ≤ n ∧ i = .int .i64 k ∧ s = .int .u32 (Wn.run 4294967295 (ls.take k).flatten : Nat)) (fun _ i => n - (intOf i).toNat)
  case atStart => exact ⟨0, Nat.zero_le _, rfl, rfl⟩
  case round =>
    obtain ⟨k, hk, rfl, rfl⟩ := hrel
    by_cases hlt : k < n
    · obtain ⟨b, off, rfl, _, hat⟩ := h.at_ (by omega)
      have hkl : k < ls.length := by have := Hn.out; omega
      obtain ⟨u, hcell, hub⟩ := hat k ls[k] (List.getElem?_eq_getElem hkl)
      clear hat
      obtain ⟨a2, n2, c2, rfl, hn2, hnc2, hcm2⟩ := hub.opened
      unfold maxLen at hcm2
      have Hn2 := hid hn2
      clear hn2
      have hstep : (ls.take (k + 1)).flatten = (ls.take k).flatten ++ ls[k] := by
        rw [List.take_succ_eq_append_getElem hkl, List.flatten_append, List.flatten_singleton]
      have Hs := hid hstep
      clear hstep
      generalize hp : ls[k] = p at *
      clear hp
      generalize hq : (ls.take k).flatten = q at *
      clear hq
      go_wp2
      go_loop [3, 16] (fun s i => ∃ j : Nat, j ≤ n2 ∧ i = .int .i64 j ∧ s = .int .u32 (Wn.run (Wn.run 4294967295 q) (p.take j) : Nat)) (fun _ i => n2 - (intOf i).toNat)
      case atStart => exact ⟨0, Nat.zero_le _, rfl, rfl⟩
      case round =>
        obtain ⟨j, hj, rfl, rfl⟩ := hrel
        by_cases hjlt : j < n2
        · obtain ⟨b2, off2, rfl, _, hat2⟩ := hub.at_ (by omega)
          have hjl : j < p.length := by have := Hn2.out; omega
          have hc2 := hat2 j p[j] (List.getElem?_eq_getElem hjl)
          clear hat2
          have hst : Wn.run (Wn.run 4294967295 q) (p.take (j + 1)) = Wn.stepB (Wn.run (Wn.run 4294967295 q) (p.take j)) p[j].toNat := by
            rw [List.take_succ_eq_append_getElem hjl, Wn.run_snoc]
          have Hst := hid hst
          clear hst
          have hb1 := Wn.run_lt (p.take j) _ (Wn.run_lt q 4294967295 (by omega))
          have hb2 := p[j].toNat_lt
          generalize Wn.run (Wn.run 4294967295 q) (p.take j) = st at *
          generalize p[j].toNat = x at *
          go_wp2_with (go_at_call 56; refine (step_any _ _ _ (by omega) (by omega)).mono ?_; rintro e w' ⟨rfl, rfl⟩)
          go_round
          case rel => exact ⟨j + 1, by omega, by go_num, by rw [Hst.out]⟩
          case measure => simp [intOf]; omega
        · have hje : j = p.length := by have := Hn2.out; omega
          subst hje
          go_wp2
          go_round
          case rel => exact ⟨k + 1, by omega, by go_num, by rw [Hs.out, Wn.run_append, List.take_length]⟩
          case measure => simp [intOf]; omega
    · have hke : k = ls.length := by have := Hn.out; omega
      subst hke
      go_wp2
      go_ret
      refine ⟨ret_int ?_, rfl⟩
      have hb := Wn.run_lt ls.flatten 4294967295 (by omega)
      have := u32_xor_nat 4294967295 (Wn.run 4294967295 ls.flatten) (by omega) (by omega)
      rw [show IntKind.u32.max = ((4294967295 : Nat) : Int) by decide, this, Nat.xor_comm]
      rfl

set_option maxHeartbeats 400000 in
theorem rsum_any (M : Blocks) (v : Value) (l : List UInt8) (w : World) (h : SB M w v l) :
    Calls Try.prog 17 #[v] w fun e w' => e = .returned (.int .u32 (Wn.crc l : Nat)) ∧ w = w' := by
  obtain ⟨a, n, c, rfl, hn, hnc, hcm⟩ := h.opened
  unfold maxLen at hcm
  have Hn := hid hn
  clear hn
  go_enter Try.func17, Try.ntmps17
  go_wp2
  go_loop [3, 4] (fun s i => ∃ k : Nat, k ≤ n ∧ i = .int .i64 k ∧ s = .int .u32 (Wn.run 4294967295 (l.take k) : Nat)) (fun _ i => n - (intOf i).toNat)
  case atStart => exact ⟨0, Nat.zero_le _, rfl, rfl⟩
  case round =>
    obtain ⟨k, hk, rfl, rfl⟩ := hrel
    by_cases hlt : k < n
    · obtain ⟨b, off, rfl, _, hat⟩ := h.at_ (by omega)
      have hkl : k < l.length := by have := Hn.out; omega
      have hcell := hat k l[k] (List.getElem?_eq_getElem hkl)
      clear hat
      have hst : Wn.run 4294967295 (l.take (k + 1)) = Wn.stepB (Wn.run 4294967295 (l.take k)) l[k].toNat := by
        rw [List.take_succ_eq_append_getElem hkl, Wn.run_snoc]
      have Hst := hid hst
      clear hst
      have hb1 := Wn.run_lt (l.take k) 4294967295 (by omega)
      have hb2 := l[k].toNat_lt
      generalize Wn.run 4294967295 (l.take k) = st at *
      generalize l[k].toNat = x at *
      have hx : bits .xor .u32 (st : Int) (x : Int) = ((st ^^^ x : Nat) : Int) := u32_xor_nat st x (by omega) (by omega)
      have hl : st ^^^ x < 4294967296 := Nat.xor_lt_two_pow (n := 32) (by omega) (by omega)
      unfold Wn.stepB at Hst
      generalize st ^^^ x = y at *
      go_wp2
      clear hx hcell
      go_loop [3, 5] (fun s i => ∃ j : Nat, j ≤ 8 ∧ i = .int .i64 j ∧ s = .int .u32 (Wn.shN j y : Nat)) (fun _ i => 8 - (intOf i).toNat)
      case atStart => exact ⟨0, Nat.zero_le _, rfl, rfl⟩
      case round =>
        obtain ⟨j, hj, rfl, rfl⟩ := hrel
        have hb := Wn.shN_lt j y hl
        have hsucc := shN_succ' j y
        generalize hz : Wn.shN j y = z at *
        have HZ := hid hz
        have H := hid hsucc
        clear hsucc hz
        have hx2 : bits .xor .u32 ((z : Int) / 2) 3988292384 = ((z / 2 ^^^ 3988292384 : Nat) : Int) := by
          have := u32_xor_nat (z / 2) 3988292384 (by omega) (by omega)
          simpa using this
        rcases Nat.mod_two_eq_zero_or_one z with h2 | h2
        · have hsh : Wn.sh z = z / 2 := by unfold Wn.sh; rw [if_neg (by omega)]
          have hs2 := hid hsh
          have hq : ((z : Int) % 2 == 1) = false := by rw [beq_eq_false_iff_ne]; omega
          clear hsh hx2 h2
          go_wp2
          · go_round
            case rel => exact ⟨j + 1, by omega, by go_num, by rw [H.out, hs2.out]; go_num⟩
            case measure => simp [intOf]; omega
          · have : j = 8 := by omega
            subst this
            go_wp2
            go_round
            case rel => exact ⟨k + 1, by omega, by go_num, by rw [Hst.out, HZ.out]⟩
            case measure => simp [intOf]; omega
        · have hsh : Wn.sh z = z / 2 ^^^ 3988292384 := by unfold Wn.sh; rw [if_pos (by omega)]
          have hs2 := hid hsh
          have hq : ((z : Int) % 2 == 1) = true := by rw [beq_iff_eq]; omega
          clear hsh h2
          go_wp2
          · go_round
            case rel => exact ⟨j + 1, by omega, by go_num, by rw [H.out, hs2.out]⟩
            case measure => simp [intOf]; omega
          · have : j = 8 := by omega
            subst this
            go_wp2
            go_round
            case rel => exact ⟨k + 1, by omega, by go_num, by rw [Hst.out, HZ.out]⟩
            case measure => simp [intOf]; omega
    · have hke : k = l.length := by have := Hn.out; omega
      subst hke
      go_wp2
      go_ret
      refine ⟨ret_int ?_, rfl⟩
      have hb := Wn.run_lt l 4294967295 (by omega)
      have := u32_xor_nat (Wn.run 4294967295 l) 4294967295 (by omega) (by omega)
      exact this
end Go.Proofs.Ytkblcdjkabiliaa
