/- Layer 4's awake, and plain facts on opened frames. -/
import Derived.Test.YtkblcdjkabiliaaWK
import Derived.Test.YtkblcdjkabiliaaWF
namespace Wn
theorem opFrame_mk (load : List UInt8) (h : load.length ≤ 32768) : opFrame (mkFrame load) = (load, 0) := by
  have h1 := rdFrame_mk load [] h
  rw [List.append_nil] at h1
  unfold opFrame
  rw [h1]
  simp
theorem opFrame_short (load : List UInt8) (h : load.length ≤ 32768) (i : Nat) (hi : i < (mkFrame load).length) : opFrame ((mkFrame load).take i) = ([], 10) := by
  unfold opFrame
  rw [rdFrame_short load h i hi]
  simp
end Wn
namespace Go.Proofs.Ytkblcdjkabiliaa
open Go.RowKit Wm

theorem mk_bd {l : List UInt8} (h : l.length ≤ 32768) : 5 ≤ (Wn.mkFrame l).length ∧ (Wn.mkFrame l).length ≤ 32780 := by
  have h1 := Wn.mk_length l
  have h2 := Wn.vb_pos l.length (Nat.lt_of_le_of_lt h (by decide))
  omega

set_option maxRecDepth 20000 in
set_option maxHeartbeats 1000000 in
theorem awake4_any (w : World) : Calls Try.prog 49 #[] w (PTrue w) := by
  have m1 : (1 : Nat) ≤ maxLen := by unfold maxLen; omega
  have m2 : (2 : Nat) ≤ maxLen := by unfold maxLen; omega
  have m3 : (3 : Nat) ≤ maxLen := by unfold maxLen; omega
  have hop := Wn.opFrame_mk [7, 8, 9] (by simp)
  have hl8 : (Wn.mkFrame [7, 8, 9]).length = 8 := by decide +kernel
  have Hop := hid hop
  have Hl8 := hid hl8
  clear hop hl8
  go_enter Try.func49, Try.ntmps49
  go_wp2_with fail
  refine (make_ok No _ [[7], [8, 9]] _ ?_ (by simp)).mono ?_
  · refine SL.of_all (SV.newAt _ _ _ _ _ 2 2 _ (by simp) rfl (by omega) (by omega) rfl).no ⟨?_, ?_, trivial⟩
    · exact (SV.alloc (SV.alloc (SB.lit _ _ _ _ _ [7] rfl m1 rfl) _) _).no
    · exact (SV.alloc (SB.lit _ _ _ _ _ [8, 9] (by simp) m2 rfl) _).no
  rintro e w1 ⟨a1, r1, c1, rfl, hown1, hk1⟩
  simp only [List.flatten_cons, List.flatten_nil, List.cons_append, List.nil_append, List.append_nil] at hown1
  have hr8 : r1 = 8 := by have := hown1.1; rw [List.length_map, Hl8.out] at this; omega
  subst hr8
  have hv : SB No w1 (.slice a1 8 c1) (Wn.mkFrame [7, 8, 9]) := SV.of_own hown1 (fun _ _ hk => hk)
  go_wp2_with fail
  refine (open_any No _ _ _ hv (by rw [Hl8.out]; omega)).mono ?_
  rintro e w2 ⟨r2, rfl, hr2, hk2⟩
  rw [Hop.out] at hr2 ⊢
  obtain ⟨a3, n3, c3, rfl, -, -, -⟩ := hr2.opened
  go_wp2_with fail
  have hb : SB No (w2.alloc (.cells #[.int .u8 7, .int .u8 8, .int .u8 9] 5)) (.slice (some ⟨w2.heap.size, 0, none⟩) 3 3) [7, 8, 9] := (SB.lit _ _ _ _ _ [7, 8, 9] rfl m3 rfl).no
  refine (bytes_any _ No _ _ _ [7, 8, 9] _ (SV.alloc hr2 _) hb).mono ?_
  rintro e w3 ⟨rfl, q, rfl⟩
  rw [eqB_self]
  go_wp2_with fail
  go_ret
  exact ⟨rfl, ((((((Keeps.refl No w).alloc _).alloc _).alloc _).then_ hk1).then_ hk2).alloc _ |>.drewN _⟩
end Go.Proofs.Ytkblcdjkabiliaa
