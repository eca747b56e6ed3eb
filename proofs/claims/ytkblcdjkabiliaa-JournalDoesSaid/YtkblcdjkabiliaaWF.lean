/- The walk through CrcSums. -/
import Derived.Test.YtkblcdjkabiliaaWE
import Derived.Lib.SlBytesConst
namespace Go.Proofs.Ytkblcdjkabiliaa
open Go.RowKit Wm

/-- True, and nothing old has turned. -/
def PTrue (w : World) (e : Ending) (w' : World) : Prop := e = .returned (.bool true) ∧ Keeps No w w'

theorem const_conv (w : World) (g : Nat) (C : Array Value) (n c : Nat) (hg : w.heap.size = g) :
    (convert 24 24 (.slice (some ⟨g, 0, none⟩) n c)).run Try.prog (w.alloc (.cells C 5)) = .ok (.slice (some ⟨g, 0, none⟩) n c) (w.alloc (.cells C 5 (C.size, C.size + 1))) := by
  subst hg
  exact Lib.run_convert_bytes_const (P := Try.prog) w 24 5 C n c Try.underlying24 Try.underlying5

set_option maxRecDepth 20000 in
set_option maxHeartbeats 300000 in
theorem awake3_any (w : World) : Calls Try.prog 15 #[] w (PTrue w) := by
  have hc : Wn.crc [49, 50, 51, 52, 53, 54, 55, 56, 57] = 3421780262 := by decide +kernel
  have kc := const_conv
  go_enter Try.func15, Try.ntmps15
  go_wp2_with fail
  clear kc
  have m4 : (4 : Nat) ≤ maxLen := by unfold maxLen; omega
  have m5 : (5 : Nat) ≤ maxLen := by unfold maxLen; omega
  refine (sum_any No _ [[49, 50, 51, 52], [53, 54, 55, 56, 57]] _ ?_).mono ?_
  · refine SL.of_all (SV.newAt _ _ _ _ _ 2 2 _ (by simp) rfl (by omega) (by omega) rfl).no ⟨?_, ?_, trivial⟩
    · exact (SV.alloc (SV.alloc (SB.lit _ _ _ _ _ [49, 50, 51, 52] rfl m4 rfl) _) _).no
    · exact (SV.alloc (SB.lit _ _ _ _ _ [53, 54, 55, 56, 57] (by simp) m5 rfl) _).no
  rintro e w1 ⟨rfl, rfl⟩
  simp only [List.flatten_cons, List.flatten_nil, List.cons_append, List.nil_append, hc]
  clear hc
  go_wp2_with fail
  refine (tail_any 1 _ (by omega)).mono ?_
  rintro e w1 ⟨v1, rfl, ht1, hkeep1⟩
  obtain ⟨a2, n2, c2, rfl, hn2, hnc2, hcm2⟩ := ht1.opened
  clear hn2
  go_wp2_with fail
  have hb : SB No (w1.alloc (.cells #[.int .u8 1, .int .u8 0, .int .u8 0, .int .u8 0] 5)) (.slice (some ⟨w1.heap.size, 0, none⟩) 4 4) [1, 0, 0, 0] := (SB.lit _ _ _ _ _ [1, 0, 0, 0] rfl m4 rfl).no
  have he : eqB (Wn.le4 1) [1, 0, 0, 0] = true := by decide +kernel
  refine (bytes_any _ No _ _ _ [1, 0, 0, 0] _ (SV.alloc ht1 _) hb).mono ?_
  rintro e w2 ⟨rfl, q, rfl⟩
  rw [he]
  clear he hb
  go_wp2_with fail
  go_ret
  refine ⟨rfl, ?_⟩
  exact (((((Keeps.refl No w).alloc _).alloc _).alloc _).then_ hkeep1).alloc _ |>.drewN _
end Go.Proofs.Ytkblcdjkabiliaa
