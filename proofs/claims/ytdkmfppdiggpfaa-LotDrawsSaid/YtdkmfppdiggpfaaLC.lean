/- The walks through what is drawn below a number, and through a new lot. -/
import Derived.Test.YtdkmfppdiggpfaaLB
namespace Go.Proofs.Ytdkmfppdiggpfaa
open Go.RowKit Wm

theorem lnew_any (s : Nat) (w : World) (hs : s < 18446744073709551616) :
    Calls Try.prog 20 #[.int .u64 (s : Int)] w fun e w' => ∃ g, e = .returned (.pointer (some ⟨g, 0, none⟩)) ∧ w.heap.size = g ∧ LotAt 60 w' g s ∧ Keeps No w w' := by
  go_enter Try.func20, Try.ntmps20
  go_wp2
  go_ret
  exact ⟨w.heap.size, rfl, rfl, ⟨heap_alloc_new w _, hs⟩, (Keeps.refl _ _).alloc _⟩

theorem ddbelow_any (T : TypeId) (g s k : Nat) (w : World) (h : LotAt T w g s) (hk : 1 ≤ k) (hk2 : k ≤ 9223372036854775807) :
    Calls Try.prog 43 #[.pointer (some ⟨g, 0, none⟩), .int .i64 (k : Int)] w (PLot T g (.int .i64 (Wn.dr s % k : Nat)) (Wn.nx s) w) := by
  have hd := ddraw_any T g s w h
  have hdl := Wn.dr_lt s
  generalize Wn.dr s = x at *
  have Hd := hid hd
  clear hd h
  go_enter Try.func43, Try.ntmps43
  go_wp2_with fail
  refine Hd.out.mono ?_
  rintro e w1 ⟨rfl, hl, hK⟩
  have hm : ((x : Int) % (k : Int)) = ((x % k : Nat) : Int) := by push_cast; rfl
  have hml : x % k < k := Nat.mod_lt _ (by omega)
  have hk0 : ¬ ((k : Int) = 0) := by omega
  generalize x % k = y at *
  have Hm := hid hm
  go_wp2_with fail
  go_ret
  exact ⟨rfl, hl, hK⟩

theorem ldraw_any (T : TypeId) (g s : Nat) (w : World) (h : LotAt T w g s) :
    Calls Try.prog 21 #[.pointer (some ⟨g, 0, none⟩)] w (PLot T g (.int .u64 (Wn.dr s : Nat)) (Wn.nx s) w) := by
  have hd := ddraw_any T g s w h
  generalize Wn.dr s = x at *
  have Hd := hid hd
  clear hd h
  go_enter Try.func21, Try.ntmps21
  go_wp2_with fail
  refine Hd.out.mono ?_
  rintro e w1 ⟨rfl, hl, hK⟩
  go_wp2_with fail
  go_ret
  exact ⟨rfl, hl, hK⟩
theorem ldraw_nil (w : World) : Calls Try.prog 21 #[.pointer none] w fun e w' => e = .returned (.int .u64 0) ∧ w = w' := by
  go_enter Try.func21, Try.ntmps21
  go_wp2
  go_ret
  exact ⟨rfl, rfl⟩
theorem below_small {s : Nat} {k : Int} (h : k < 1) : Wn.below s k = (0, s) := by unfold Wn.below; rw [if_pos h]
theorem below_big {s : Nat} {k : Nat} (h : 1 ≤ k) : Wn.below s (k : Int) = (((Wn.dr s % k : Nat) : Int), Wn.nx s) := by unfold Wn.below; rw [if_neg (by omega), Int.toNat_natCast]
theorem lbelow_any (T : TypeId) (g s : Nat) (k : Int) (w : World) (h : LotAt T w g s) (hk2 : k ≤ 9223372036854775807) :
    Calls Try.prog 27 #[.pointer (some ⟨g, 0, none⟩), .int .i64 k] w (PLot T g (.int .i64 (Wn.below s k).1) (Wn.below s k).2 w) := by
  by_cases hk : k < 1
  · rw [below_small hk]
    go_enter Try.func27, Try.ntmps27
    go_wp2_with fail
    go_ret
    exact ⟨rfl, h, Keeps.refl _ _⟩
  · obtain ⟨kn, rfl⟩ := Int.eq_ofNat_of_zero_le (a := k) (by omega)
    have hk1 : 1 ≤ kn := by omega
    have hd := ddbelow_any T g s kn w h hk1 (by omega)
    rw [below_big hk1]
    generalize (Wn.dr s % kn : Nat) = x at *
    have Hd := hid hd
    clear hd h
    go_enter Try.func27, Try.ntmps27
    go_wp2_with fail
    refine Hd.out.mono ?_
    rintro e w1 ⟨rfl, hl, hK⟩
    go_wp2_with fail
    go_ret
    exact ⟨rfl, hl, hK⟩
theorem lbelow_nil (k : Int) (w : World) : Calls Try.prog 27 #[.pointer none, .int .i64 k] w fun e w' => e = .returned (.int .i64 0) ∧ w = w' := by
  go_enter Try.func27, Try.ntmps27
  go_wp2
  go_ret
  exact ⟨rfl, rfl⟩
theorem rbelow_any (T : TypeId) (g s : Nat) (k : Int) (w : World) (h : LotAt T w g s) (hk2 : k ≤ 9223372036854775807) :
    Calls Try.prog 28 #[.pointer (some ⟨g, 0, none⟩), .int .i64 k] w (PLot T g (.int .i64 (Wn.below s k).1) (Wn.below s k).2 w) := by
  by_cases hk : k < 1
  · rw [below_small hk]
    go_enter Try.func28, Try.ntmps28
    go_wp2_with fail
    go_ret
    exact ⟨rfl, h, Keeps.refl _ _⟩
  · obtain ⟨kn, rfl⟩ := Int.eq_ofNat_of_zero_le (a := k) (by omega)
    have hk1 : 1 ≤ kn := by omega
    have hd := rdraw_any T g s w h
    have hdl := Wn.dr_lt s
    rw [below_big hk1]
    generalize Wn.dr s = x at *
    have Hd := hid hd
    clear hd h
    have hml : x % kn < kn := Nat.mod_lt _ (by omega)
    have hm : ((x : Int) % (kn : Int)) = ((x % kn : Nat) : Int) := by push_cast; rfl
    have hk0 : ¬ ((kn : Int) = 0) := by omega
    generalize x % kn = y at *
    go_enter Try.func28, Try.ntmps28
    go_wp2_with fail
    refine Hd.out.mono ?_
    rintro e w1 ⟨rfl, hl, hK⟩
    go_wp2_with fail
    go_ret
    exact ⟨rfl, hl, hK⟩
end Go.Proofs.Ytdkmfppdiggpfaa
