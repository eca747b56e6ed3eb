/- The walks through nat.Log and the reference's Log, and layer 1's awake. -/
import Derived.Test.YtdkmfppdiggpfaaWA
import Derived.Test.YtdkmfppdiggpfaaNat
namespace Go.Proofs.Ytdkmfppdiggpfaa
open Go.RowKit Wm

/-- What Log answers. -/
def PLog (n : Int) (w : World) (e : Ending) (w' : World) : Prop := ∃ k : Nat, e = .returned (.int .i64 k) ∧ Wn.IsLog n.toNat k ∧ w = w'

set_option maxRecDepth 20000 in
theorem log_any (n : Int) (w : World) (hn : -9223372036854775808 ≤ n ∧ n ≤ 9223372036854775807) :
    Calls Try.prog 16 #[.int .i64 n] w (PLog n w) := by
  by_cases h1 : n ≤ 1
  · go_enter Try.func16, Try.ntmps16
    go_wp2
    refine wp_loop_rounds 1 ?_
    rw [rounds_succ]
    go_wp2
    go_ret
    exact ⟨0, rfl, ⟨fun _ => rfl, fun h => by omega⟩, rfl⟩
  · obtain ⟨N, rfl⟩ := Int.eq_ofNat_of_zero_le (show 0 ≤ n by omega)
    have hst := Wn.LogAt.start (n := N) (by omega)
    have Hst := hid hst
    have hN : N < 2 ^ 63 := by omega
    have HN := hid hN
    clear hst hN
    go_enter Try.func16, Try.ntmps16
    go_wp2
    go_loop [0, 3] (fun x i => ∃ j m : Nat, i = .int .i64 j ∧ x = .int .i64 m ∧ 1 ≤ m ∧ m ≤ 9223372036854775807 ∧ Wn.LogAt N m j) (fun x _ => (intOf x).toNat)
    case atStart => exact ⟨0, N, rfl, rfl, by omega, by omega, Hst.out⟩
    case round =>
      obtain ⟨j, m, rfl, rfl, hm1, hm2, hlog⟩ := hrel
      have hj := hlog.lt HN.out
      have Hlog := hid hlog
      clear hlog
      by_cases hm : 1 < m
      · go_wp2
        go_round
        case rel => exact ⟨j + 1, m - m / 2, by go_num, by go_num, by omega, by omega, Hlog.out.step hm⟩
        case measure => simp [intOf]; omega
      · have hme : m = 1 := by omega
        subst hme
        have Hd := hid Hlog.out.done
        go_wp2
        go_ret
        exact ⟨j, rfl, Hd.out, rfl⟩

/-- Where the doubling stands. -/
def Dbl (N k m : Nat) : Prop := m = 2 ^ k ∧ (1 ≤ k → 2 ^ (k - 1) < N)

set_option maxRecDepth 20000 in
theorem rlog_any (n : Int) (w : World) (hn : -9223372036854775808 ≤ n ∧ n ≤ 9223372036854775807) :
    Calls Try.prog 17 #[.int .i64 n] w (PLog n w) := by
  by_cases h1 : n ≤ 1
  · go_enter Try.func17, Try.ntmps17
    go_wp2
    refine wp_loop_rounds 1 ?_
    rw [rounds_succ]
    go_wp2
    go_ret
    exact ⟨0, rfl, ⟨fun _ => rfl, fun h => by omega⟩, rfl⟩
  · obtain ⟨N, rfl⟩ := Int.eq_ofNat_of_zero_le (show 0 ≤ n by omega)
    have hN : N < 2 ^ 63 := by omega
    have HN := hid hN
    clear hN
    go_enter Try.func17, Try.ntmps17
    go_wp2
    go_loop [3, 4] (fun i x => ∃ k m : Nat, k ≤ 62 ∧ i = .int .i64 k ∧ x = .int .i64 m ∧ 1 ≤ m ∧ m ≤ 4611686018427387904 ∧ Dbl N k m) (fun i _ => 62 - (intOf i).toNat)
    case atStart => exact ⟨0, 1, by omega, rfl, rfl, by omega, by omega, rfl, fun h => by omega⟩
    case round =>
      obtain ⟨k, m, hk, rfl, rfl, hm1, hm2, hd⟩ := hrel
      have Hd := hid hd
      clear hd
      by_cases hlt : m < N
      · by_cases hk2 : k < 62
        · have hmm : 2 * m ≤ 4611686018427387904 := by
            have := Hd.out.1
            have h61 : 2 ^ k ≤ 2 ^ 61 := Nat.pow_le_pow_right (by omega) (by omega)
            omega
          go_wp2
          go_round
          case rel => exact ⟨k + 1, 2 * m, by omega, by go_num, by go_num, by omega, hmm, by rw [Hd.out.1, Nat.pow_succ]; omega, fun _ => by simpa [← Hd.out.1] using hlt⟩
          case measure => simp [intOf]; omega
        · have hke : k = 62 := by omega
          subst hke
          go_wp2
          go_ret
          refine ⟨63, rfl, ⟨fun h => by omega, fun _ => ⟨by omega, ?_, ?_⟩⟩, rfl⟩
          · have := Hd.out.1; simp at this ⊢; omega
          · have := HN.out; simp; omega
      · go_wp2
        go_ret
        refine ⟨k, rfl, ⟨fun h => by omega, fun _ => ?_⟩, rfl⟩
        have := Hd.out.1
        have hk0 : 1 ≤ k := by
          rcases Nat.eq_zero_or_pos k with h | h
          · subst h; simp at this; omega
          · exact h
        exact ⟨hk0, by simpa using Hd.out.2 hk0, by simp; omega⟩

theorem log5 {k : Nat} (h : Wn.IsLog (5 : Int).toNat k) : k = 3 := h.uniq (j := 3) ⟨fun h => by simp at h, fun _ => by decide⟩
theorem log4 {k : Nat} (h : Wn.IsLog (4 : Int).toNat k) : k = 2 := h.uniq (j := 2) ⟨fun h => by simp at h, fun _ => by decide⟩

theorem i64_of {l : List Int} (h : l.all (fun z => decide (-9223372036854775808 ≤ z ∧ z ≤ 9223372036854775807)) = true) : I64 l := by
  intro z hz
  have := List.all_eq_true.1 h z hz
  exact of_decide_eq_true this
theorem SI.lit (w : World) (g : Nat) (cs : Array Value) (e : TypeId) (fz : Nat × Nat) (l : List Int) (hg : w.heap.size = g) (hm : l.length ≤ maxLen) (hcs : l.map iv = cs.toList) :
    SI No (w.alloc (.cells cs e fz)) (.slice (some ⟨g, 0, none⟩) l.length l.length) l :=
  SV.no (SV.newAt w g cs e fz _ _ _ hg (by simp) (Nat.le_refl _) hm (by rw [← hcs, List.take_of_length_le (by simp)]))

set_option maxRecDepth 20000 in
set_option maxHeartbeats 1000000 in
theorem awake1_any (w : World) : Calls Try.prog 10 #[] w (PTrue w) := by
  have m3 : (3 : Nat) ≤ maxLen := by unfold maxLen; omega
  have s1 : Wn.natSum 9 [2, 3, 4] = (9, 0) := by decide
  have s2 : Wn.natSum 9 [2, 8, -1] = (0, 20) := by decide
  have S1 := hid s1
  have S2 := hid s2
  clear s1 s2
  go_enter Try.func10, Try.ntmps10
  go_wp2_with fail
  refine (sum_any No 9 _ [2, 3, 4] _ (SI.lit _ _ _ _ _ [2, 3, 4] rfl m3 rfl) (by omega) (i64_of (by decide))).mono ?_
  rintro e w1 ⟨rfl, rfl⟩
  rw [S1.out]
  go_wp2_with fail
  refine (sum_any No 9 _ [2, 8, -1] _ (SI.lit _ _ _ _ _ [2, 8, -1] (by simp) m3 rfl) (by omega) (i64_of (by decide))).mono ?_
  rintro e w1 ⟨rfl, rfl⟩
  rw [S2.out]
  go_wp2_with fail
  refine (log_any 5 _ (by omega)).mono ?_
  rintro e w1 ⟨k, rfl, hk, rfl⟩
  obtain rfl := log5 hk
  go_wp2_with fail
  refine (log_any 4 _ (by omega)).mono ?_
  rintro e w1 ⟨k, rfl, hk, rfl⟩
  obtain rfl := log4 hk
  go_wp2_with fail
  refine (middle_any 4 9 _ (by omega) (by omega)).mono ?_
  rintro e w1 ⟨rfl, rfl⟩
  go_wp2_with fail
  refine (hold_any 7 1 5 _).mono ?_
  rintro e w1 ⟨rfl, rfl⟩
  go_wp2_with fail
  refine (least_any No _ [3, 1, 2] _ (SI.lit _ _ _ _ _ [3, 1, 2] (by simp) m3 rfl)).mono ?_
  rintro e w1 ⟨m, rfl, rfl, -, hm, hle⟩
  have hm1 : m = 1 := by
    have h1 := hm (by simp)
    have h2 := hle 1 (by simp)
    simp at h1
    omega
  subst hm1
  clear hm hle
  go_wp2_with fail
  go_ret
  exact ⟨rfl, (((Keeps.refl _ _).alloc _).alloc _).alloc _⟩
end Go.Proofs.Ytdkmfppdiggpfaa
