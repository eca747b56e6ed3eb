/- The walk through crc.step. -/
import Derived.Test.YtkblcdjkabiliaaRows
import Derived.WalkKit
import Derived.WalkSpells
import Derived.WalkLawsBesides
import Derived.Handy
import Derived.Test.YtkblcdjkabiliaaCrc
namespace Go.Proofs.Ytkblcdjkabiliaa
open Go.RowKit

theorem hid {p : Prop} (h : p) : Hid p := h
theorem ret_int {k : IntKind} {a b : Int} (h : a = b) : Ending.returned (.int k a) = .returned (.int k b) := by rw [h]
theorem ret_bool {a b : Bool} (h : a = b) : Ending.returned (.bool a) = .returned (.bool b) := by rw [h]
theorem shN_succ' (k s : Nat) : Wn.shN (k + 1) s = Wn.sh (Wn.shN k s) := by rw [Wn.shN_add]; rfl

set_option maxHeartbeats 400000 in
theorem step_any (s c : Nat) (w : World) (hs : s < 4294967296) (hc : c < 256) :
    Calls Try.prog 56 #[.int .u32 (s : Int), .int .u8 (c : Int)] w fun e w' => e = .returned (.int .u32 (Wn.stepB s c : Nat)) ∧ w = w' := by
  have hx : bits .xor .u32 (s : Int) (c : Int) = ((s ^^^ c : Nat) : Int) := u32_xor_nat s c (by omega) (by omega)
  have hl : s ^^^ c < 4294967296 := Nat.xor_lt_two_pow (n := 32) (by omega) (by omega)
  unfold Wn.stepB
  generalize s ^^^ c = x at *
  go_enter Try.func56, Try.ntmps56
  go_wp2
  clear hx
  go_loop [0, 10] (fun v i => ∃ k : Nat, k ≤ 8 ∧ i = .int .i64 k ∧ v = .int .u32 (Wn.shN k x : Nat)) (fun _ i => 8 - (intOf i).toNat)
  case atStart => exact ⟨0, by omega, rfl, rfl⟩
  case round =>
    obtain ⟨k, hk, rfl, rfl⟩ := hrel
    have hb := Wn.shN_lt k x hl
    have hsucc := shN_succ' k x
    generalize hy : Wn.shN k x = y at *
    have HY := hid hy
    clear hy
    have H := hid hsucc
    clear hsucc
    have ha : bits .and .u32 (y : Int) 1 = ((y % 2 : Nat) : Int) := by
      have := u32_and_nat y 1 (by omega) (by omega)
      rw [Nat.and_one_is_mod] at this; exact this
    have hx2 : bits .xor .u32 ((y : Int) / 2) 3988292384 = ((y / 2 ^^^ 3988292384 : Nat) : Int) := by
      have := u32_xor_nat (y / 2) 3988292384 (by omega) (by omega)
      simpa using this
    rcases Nat.mod_two_eq_zero_or_one y with h2 | h2
    · have hsh : Wn.sh y = y / 2 := by unfold Wn.sh; rw [if_neg (by omega)]
      have hs2 := hid hsh
      have hq : (bits .and .u32 (y : Int) 1 == 1) = false := by rw [ha, h2]; rfl
      clear hsh ha hx2 h2
      go_wp2
      · go_round
        case rel => exact ⟨k + 1, by omega, by go_num, by rw [H.out, hs2.out]; go_num⟩
        case measure => simp [intOf]; omega
      · have : k = 8 := by omega
        subst this
        go_ret
        exact ⟨by rw [HY.out]; rfl, rfl⟩
    · have hsh : Wn.sh y = y / 2 ^^^ 3988292384 := by unfold Wn.sh; rw [if_pos (by omega)]
      have hs2 := hid hsh
      have hq : (bits .and .u32 (y : Int) 1 == 1) = true := by rw [ha, h2]; rfl
      clear hsh ha h2
      go_wp2
      · go_round
        case rel => exact ⟨k + 1, by omega, by go_num, by rw [H.out, hs2.out]⟩
        case measure => simp [intOf]; omega
      · have : k = 8 := by omega
        subst this
        go_ret
        exact ⟨by rw [HY.out]; rfl, rfl⟩
end Go.Proofs.Ytkblcdjkabiliaa
