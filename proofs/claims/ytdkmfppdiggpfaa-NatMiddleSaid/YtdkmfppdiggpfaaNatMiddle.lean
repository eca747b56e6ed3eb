/- NatMiddle: the law's walk. -/
import Derived.Test.YtdkmfppdiggpfaaWB
namespace Go.Proofs.Ytdkmfppdiggpfaa
open Go.RowKit Wm

set_option maxRecDepth 20000 in
set_option maxHeartbeats 1000000 in
theorem natMiddle_any (lo hi : Int) (w : World) (h1 : -9223372036854775808 ≤ lo ∧ lo ≤ 9223372036854775807) (h2 : -9223372036854775808 ≤ hi ∧ hi ≤ 9223372036854775807) :
    Calls Try.prog 6 #[.int .i64 lo, .int .i64 hi] w (PTrue w) := by
  go_enter Try.func6, Try.ntmps6
  go_wp2_with fail
  refine (awake1_any w).mono ?_
  rintro e w1 ⟨rfl, hk1⟩
  go_wp2_with fail
  refine (middle_any lo hi _ h1 h2).mono ?_
  rintro e w2 ⟨rfl, rfl⟩
  by_cases h : hi ≤ lo
  · rw [if_pos h]
    go_wp2_with fail
    go_ret
    exact ⟨by first | rfl | exact ret_bool (by simp), hk1⟩
  · rw [if_neg h]
    obtain ⟨m, hm⟩ : ∃ m, lo + (hi - lo) / 2 = m := ⟨_, rfl⟩
    have hm1 : lo ≤ m := by omega
    have hm2 : m < hi := by omega
    have hm3 : m - lo ≤ hi - m := by omega
    have hm4 : hi - m ≤ m - lo + 1 := by omega
    rw [hm]
    clear hm
    have u1 : IntKind.u64.wrap (IntKind.u64.wrap m - IntKind.u64.wrap lo) = m - lo := by simp only [IntKind.wrap_u64]; omega
    have u2 : IntKind.u64.wrap (IntKind.u64.wrap hi - IntKind.u64.wrap m) = hi - m := by simp only [IntKind.wrap_u64]; omega
    by_cases he : m - lo = hi - m
    · have hb : (m - lo == hi - m) = true := by rw [beq_iff_eq]; exact he
      have He := hid he
      clear he
      go_wp2_with fail
      go_ret
      exact ⟨rfl, hk1⟩
    · have hb : (m - lo == hi - m) = false := by rw [beq_eq_false_iff_ne]; exact he
      have u3 : IntKind.u64.wrap (m - lo + 1) = hi - m := by simp only [IntKind.wrap_u64]; omega
      clear he
      go_wp2_with fail
      go_ret
      exact ⟨by first | rfl | exact ret_bool (by simp), hk1⟩
end Go.Proofs.Ytdkmfppdiggpfaa
