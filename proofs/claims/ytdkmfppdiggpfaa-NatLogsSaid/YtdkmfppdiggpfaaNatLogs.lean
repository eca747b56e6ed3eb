/- NatLogs: the law's walk. -/
import Derived.Test.YtdkmfppdiggpfaaWB
namespace Go.Proofs.Ytdkmfppdiggpfaa
open Go.RowKit Wm

set_option maxRecDepth 20000 in
set_option maxHeartbeats 1000000 in
theorem natLogs_any (n : Int) (w : World) (hn : -9223372036854775808 ≤ n ∧ n ≤ 9223372036854775807) : Calls Try.prog 5 #[.int .i64 n] w (PTrue w) := by
  go_enter Try.func5, Try.ntmps5
  go_wp2_with fail
  refine (awake1_any w).mono ?_
  rintro e w1 ⟨rfl, hk1⟩
  go_wp2_with fail
  refine (log_any n _ hn).mono ?_
  rintro e w2 ⟨k, rfl, hk, rfl⟩
  go_wp2_with fail
  refine (rlog_any n _ hn).mono ?_
  rintro e w2 ⟨j, rfl, hj, rfl⟩
  obtain rfl := hk.uniq hj
  clear hj
  by_cases h1 : n ≤ 1
  · have hk0 : k = 0 := hk.1 (by omega)
    subst hk0
    clear hk
    go_wp2_with fail
    go_ret
    exact ⟨rfl, hk1⟩
  · have hk63 := hk.le (by omega)
    have hk1' := (hk.2 (by omega)).1
    have hhalf := hk.half (by omega)
    have Hhalf := hid hhalf
    clear hk hhalf
    go_wp2_with fail
    refine (log_any (n - n / 2) _ (by omega)).mono ?_
    rintro e w2 ⟨i, rfl, hi, rfl⟩
    have e1 : (n - n / 2).toNat = n.toNat - n.toNat / 2 := by omega
    rw [e1] at hi
    obtain rfl := hi.uniq Hhalf.out
    have ht : (((k - 1 : Nat) : Int) == (k : Int) - 1) = true := by rw [beq_iff_eq]; omega
    clear hi e1
    go_wp2_with fail
    go_ret
    exact ⟨by first | rfl | exact ret_bool (by simp; omega), hk1⟩
end Go.Proofs.Ytdkmfppdiggpfaa
