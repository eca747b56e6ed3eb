/- NatSums: the law's walk. -/
import Derived.Test.YtdkmfppdiggpfaaWB
namespace Go.Proofs.Ytdkmfppdiggpfaa
open Go.RowKit Wm

set_option maxRecDepth 20000 in
set_option maxHeartbeats 1000000 in
theorem natSums_any (most : Int) (v : Value) (l : List Int) (w : World) (hm : -9223372036854775808 ≤ most ∧ most ≤ 9223372036854775807) (h : SI No w v l ∧ I64 l) :
    Calls Try.prog 4 #[.int .i64 most, v] w (PTrue w) := by
  obtain ⟨h, h64⟩ := h
  obtain ⟨a, n, c, rfl, hn, hnc, hcm⟩ := h.opened
  unfold maxLen at hcm
  have H64 := hid h64
  clear hn h64
  go_enter Try.func4, Try.ntmps4
  go_wp2_with fail
  refine (awake1_any w).mono ?_
  rintro e w1 ⟨rfl, hk1⟩
  by_cases h200 : n ≤ 200
  · have h1 : SI No w1 (.slice a n c) l := SV.keep h hk1 fun _ _ hk => hk.elim
    go_wp2_with fail
    refine (sum_any No most _ l _ h1 hm H64.out).mono ?_
    rintro e w2 ⟨rfl, rfl⟩
    go_wp2_with fail
    refine (rsum_any No most _ l _ h1 hm H64.out).mono ?_
    rintro e w2 ⟨rfl, rfl⟩
    go_wp2_with fail
    go_ret
    exact ⟨by first | rfl | exact ret_bool (by simp), hk1⟩
  · go_wp2_with fail
    go_ret
    exact ⟨rfl, hk1⟩
end Go.Proofs.Ytdkmfppdiggpfaa
