/- The walks through the reference's words on events. -/
import Derived.Test.YtdkmfppdiggpfaaLD
namespace Go.Proofs.Ytdkmfppdiggpfaa
open Go.RowKit Wm

theorem str_nil (w : World) : (convert 47 9 (.slice none 0 0)).run Try.prog w = .ok (.string ⟨#[]⟩) w := by kernel_rfl
set_option maxRecDepth 20000 in
set_option maxHeartbeats 2000000 in
theorem same_any (x : Wn.Evt) (w : World) : Calls Try.prog 25 #[evV x, evV x] w fun e w' => e = .returned (.bool true) ∧ Keeps No w w' := by
  have hs := str_nil
  obtain ⟨k, a, n, b⟩ := x
  unfold evV evC
  simp only
  go_enter Try.func25, Try.ntmps25
  go_wp2_with fail
  go_ret
  exact ⟨rfl, ((Keeps.refl _ _).alloc _).alloc _⟩
theorem number_any (z : Int) (w : World) (hz : 0 ≤ z ∧ z ≤ 281474976710656) : Calls Try.prog 45 #[.int .i64 z] w fun e w' => e = .returned (.bool true) ∧ w = w' := by
  obtain ⟨h1, h2⟩ := hz
  go_enter Try.func45, Try.ntmps45
  go_wp2
  go_ret
  exact ⟨rfl, rfl⟩

def Rt (x : Wn.Evt) : Prop :=
  ((x.kind = 1 ∨ x.kind = 5 ∨ x.kind = 6) ∧ x.at_ = 0 ∧ x.n = 0 ∧ x.keep = false) ∨ ((x.kind = 2 ∨ x.kind = 3) ∧ (0 ≤ x.at_ ∧ x.at_ ≤ 64) ∧ x.n = 0) ∨
    ((x.kind = 4 ∨ x.kind = 7) ∧ (0 ≤ x.at_ ∧ x.at_ ≤ 64) ∧ (0 ≤ x.n ∧ x.n ≤ 64) ∧ x.keep = false)
theorem evOf_rt (s : Nat) : Rt (Wn.evOf s).1 := by
  unfold Wn.evOf Wn.evN
  generalize Wn.dr (Wn.nx s) = d1
  generalize Wn.dr (Wn.nx (Wn.nx s)) = d2
  repeat' split
  all_goals
    unfold Rt
    first
      | exact .inl ⟨by simp, rfl, rfl, rfl⟩
      | exact .inr (.inl ⟨by simp, ⟨by simp only; omega, by simp only; omega⟩, rfl⟩)
      | exact .inr (.inr ⟨by simp, ⟨by simp only; omega, by simp only; omega⟩, ⟨by simp only; omega, by simp only; omega⟩, rfl⟩)
set_option maxRecDepth 20000 in
set_option maxHeartbeats 4000000 in
theorem right_any (x : Wn.Evt) (w : World) (h : Rt x) : Calls Try.prog 26 #[evV x] w fun e w' => e = .returned (.bool true) ∧ Keeps No w w' := by
  obtain ⟨k, a, n, b⟩ := x
  unfold Rt at h
  simp only at h
  unfold evV evC
  simp only
  rcases h with ⟨hk, rfl, rfl, rfl⟩ | ⟨hk, ⟨ha1, ha2⟩, rfl⟩ | ⟨hk, ⟨ha1, ha2⟩, ⟨hn1, hn2⟩, rfl⟩
  · rcases hk with rfl | rfl | rfl
    all_goals
      go_enter Try.func26, Try.ntmps26
      go_wp2_with fail
      refine (number_any _ _ (by omega)).mono ?_
      rintro e w1 ⟨rfl, rfl⟩
      go_wp2_with fail
      refine (number_any _ _ (by omega)).mono ?_
      rintro e w1 ⟨rfl, rfl⟩
      go_wp2_with fail
      go_ret
      exact ⟨rfl, (Keeps.refl _ _).alloc _⟩
  · rcases hk with rfl | rfl
    all_goals
      go_enter Try.func26, Try.ntmps26
      go_wp2_with fail
      refine (number_any _ _ (by omega)).mono ?_
      rintro e w1 ⟨rfl, rfl⟩
      go_wp2_with fail
      refine (number_any _ _ (by omega)).mono ?_
      rintro e w1 ⟨rfl, rfl⟩
      go_wp2_with fail
      go_ret
      exact ⟨rfl, (Keeps.refl _ _).alloc _⟩
  · rcases hk with rfl | rfl
    all_goals
      go_enter Try.func26, Try.ntmps26
      go_wp2_with fail
      refine (number_any _ _ (by omega)).mono ?_
      rintro e w1 ⟨rfl, rfl⟩
      go_wp2_with fail
      refine (number_any _ _ (by omega)).mono ?_
      rintro e w1 ⟨rfl, rfl⟩
      go_wp2_with fail
      go_ret
      exact ⟨rfl, (Keeps.refl _ _).alloc _⟩
end Go.Proofs.Ytdkmfppdiggpfaa
