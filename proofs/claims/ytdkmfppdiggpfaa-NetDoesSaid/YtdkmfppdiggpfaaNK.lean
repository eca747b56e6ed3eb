/- The walks of the reference's way: Sent. -/
import Derived.Test.YtdkmfppdiggpfaaNJ
import Derived.Deep.QuietTactic
namespace Go.Proofs.Ytdkmfppdiggpfaa
open Go.RowKit Wm

set_option maxRecDepth 20000 in
set_option maxHeartbeats 4000000 in
theorem rsent_any (M' R : Blocks) (p : Nat) (vs : List Value) (Ls : List (List (List UInt8))) (al : List (List UInt8)) (v' : Value) (y : List UInt8) (w : World) (h : RowsAt 47 68 [] R w p vs Ls)
    (ha : Ls[1]? = some al) (h' : SB M' w v' y) :
    Calls Try.prog 40 #[.pointer (some ⟨p, 0, none⟩), v'] w (fun e w' => e = .returned (.bool (hasB al y)) ∧ ∃ k, w' = w.drewN k) := by
  obtain ⟨a1, n1, c1, us1, hv1, hn1, hu1, hnc1, hcm1, hr1, hs1, hc1, hf1⟩ := h.row ha
  unfold maxLen at hcm1
  have hsl : SL No w (.slice a1 n1 c1) al := ⟨us1, hr1.1, hs1.1, fun i x hi => by
    obtain ⟨u, hu, hb⟩ := hs1.2 i x hi
    exact ⟨u, hu, hb.no⟩⟩
  have hy : ∀ k, (convert 47 9 v').run Try.prog (w.drewN k) = .ok (.string ⟨y.toArray⟩) (w.drewN k) := fun k => sb_string (SV.drewN h' k)
  have Hn := hid hn1
  clear h ha h' hv1 hn1 hu1 hr1 hs1 hf1
  go_enter Try.func40, Try.ntmps40
  go_wp2
  go_loopw [5] (fun i wr => ∃ k : Nat, k ≤ n1 ∧ i = .int .i64 k ∧ hasB (al.take k) y = false ∧ ∃ j, wr = w.drewN j) (fun i _ => n1 - (intOf i).toNat)
  case atStart => exact ⟨0, Nat.zero_le _, rfl, by simp [hasB], 0, rfl⟩
  case round =>
    obtain ⟨k, hk, rfl, heq, j, rfl⟩ := hrel
    have Heq := hid heq
    clear heq
    by_cases hlt : k < n1
    · obtain ⟨b, off, rfl, _, hat⟩ := hsl.at_ (by omega)
      have hkl : k < al.length := by have := Hn.out; omega
      obtain ⟨u, hcu, hu⟩ := hat k al[k] (List.getElem?_eq_getElem hkl)
      have hst := hasB_step (y := y) hkl
      have hit := hasB_hit (y := y) hkl
      have hx : ∀ i, (convert 47 9 u).run Try.prog (w.drewN i) = .ok (.string ⟨(al[k]).toArray⟩) (w.drewN i) := fun i => sb_string (SV.drewN hu i)
      generalize al[k] = x at *
      have hxy := list_eqB x y
      have Hst := hid hst
      have Hit := hid hit
      clear hst hit hu hat hsl
      by_cases hxe : eqB x y = true
      · rw [hxe] at hxy
        have Hx := hid hxe
        clear hxe
        go_wp2
        go_quiet (fail)
        go_wp2
        go_ret
        exact ⟨by rw [Hit.out Hx.out]; rfl, _, World.drewN_drewN _ _ _⟩
      · have hxf : eqB x y = false := by simpa using hxe
        rw [hxf] at hxy
        have Hx := hid hxf
        clear hxe hxf
        go_wp2
        go_quiet (fail)
        go_wp2
        go_roundw
        case rel => exact ⟨k + 1, by omega, by go_num, by rw [Hst.out, Heq.out, Hx.out]; rfl, _, rfl⟩
        case measure => simp [intOf]; omega
    · have hke : k = n1 := by omega
      subst hke
      go_wp2_with fail
      go_ret
      refine ⟨?_, j, rfl⟩
      have := Heq.out
      rw [List.take_of_length_le (by have := Hn.out; omega)] at this
      rw [this]; rfl
end Go.Proofs.Ytdkmfppdiggpfaa
