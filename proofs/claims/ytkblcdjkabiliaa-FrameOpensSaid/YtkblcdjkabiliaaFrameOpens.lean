/- FrameOpens: the law's walk. -/
import Derived.Test.YtkblcdjkabiliaaWL
namespace Go.Proofs.Ytkblcdjkabiliaa
open Go.RowKit Wm

set_option maxRecDepth 20000 in
set_option maxHeartbeats 2000000 in
theorem frameOpens_any (v : Value) (b : List UInt8) (w : World) (h : SB No w v b) : Calls Try.prog 11 #[v] w (PTrue w) := by
  obtain ⟨a, n, c, rfl, hn, hnc, hcm⟩ := h.opened
  unfold maxLen at hcm
  have Hn := hid hn
  clear hn
  go_enter Try.func11, Try.ntmps11
  go_wp2_with fail
  refine (awake4_any w).mono ?_
  rintro e w1 ⟨rfl, hk1⟩
  by_cases h2000 : n ≤ 2000
  · have hsz : b.length ≤ 16777216 := by have := Hn.out; omega
    have h1 : SB No w1 (.slice a n c) b := SV.keep h hk1 fun _ _ hk => hk.elim
    go_wp2_with fail
    refine (open_any No _ b _ h1 hsz).mono ?_
    rintro e w2 ⟨r2, rfl, hr2, hk2⟩
    obtain ⟨a2, n2, c2, rfl, -, -, -⟩ := hr2.opened
    have h2 : SB No w2 (.slice a n c) b := SV.keep h1 hk2 fun _ _ hk => hk.elim
    go_wp2_with fail
    refine (ropen_any No _ b _ h2 hsz).mono ?_
    rintro e w3 ⟨r3, rfl, hr3, hk3⟩
    obtain ⟨a3, n3, c3, rfl, -, -, -⟩ := hr3.opened
    have h3 : SB No w3 (.slice a n c) b := SV.keep h2 hk3 fun _ _ hk => hk.elim
    have hr2a := hr2.no.keep hk3 fun _ _ hk => hk.elim
    go_wp2_with fail
    refine (next_any No _ b _ h3 hsz).mono ?_
    rintro e w4 ⟨r4, rfl, hr4, hk4⟩
    obtain ⟨a4, n4, c4, rfl, -, -, -⟩ := hr4.opened
    have h4 : SB No w4 (.slice a n c) b := SV.keep h3 hk4 fun _ _ hk => hk.elim
    have hr2b := hr2a.keep hk4 fun _ _ hk => hk.elim
    have hr3b := SV.keep hr3 hk4 fun _ _ hk => hk.elim
    go_wp2_with fail
    refine (rnext_any No _ b _ h4 hsz).mono ?_
    rintro e w5 ⟨r5, rfl, hr5, hk5⟩
    obtain ⟨a5, n5, c5, rfl, -, -, -⟩ := hr5.opened
    have hr2c : SB No w5 _ _ := hr2b.keep hk5 fun _ _ hk => hk.elim
    have hr3c : SB No w5 _ _ := SV.keep hr3b hk5 fun _ _ hk => hk.elim
    have hr4c : SB No w5 _ _ := hr4.no.keep hk5 fun _ _ hk => hk.elim
    have hK : Keeps No w w5 := (((hk1.then_ hk2).then_ hk3).then_ hk4).then_ hk5
    clear hr2 hr3 hr4 hr2a hr2b hr3b
    generalize Wn.opFrame b = q1 at *
    generalize Wn.rdFrame b = q2 at *
    go_wp2_with fail
    refine (bytes_any No No _ _ _ _ _ hr2c hr3c).mono ?_
    rintro e w6 ⟨rfl, d6, rfl⟩
    rw [eqB_self]
    go_wp2_with fail
    refine (bytes_any No No _ _ _ _ _ (SV.drewN hr4c _) (SV.drewN hr5 _)).mono ?_
    rintro e w6 ⟨rfl, d7, rfl⟩
    rw [eqB_self]
    go_wp2_with fail
    go_ret
    exact ⟨by first | rfl | exact ret_bool (by simp), hK.drewN _⟩
  · go_wp2_with fail
    go_ret
    exact ⟨rfl, hk1⟩
end Go.Proofs.Ytkblcdjkabiliaa
