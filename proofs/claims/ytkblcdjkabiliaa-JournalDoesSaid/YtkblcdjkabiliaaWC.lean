/- The walk through the reference's Bytes: are two lists the same? -/
import Derived.Test.YtkblcdjkabiliaaWA
import Derived.Test.YtkblcdjkabiliaaMem
import Derived.Deep.QuietTactic
import Derived.BigQuiet
namespace Go.Proofs.Ytkblcdjkabiliaa
open Go.RowKit Wm

/-- Are two lists of bytes the same? A word that the walk does not open. -/
def eqB (l m : List UInt8) : Bool := decide (l = m)
theorem eqB_self (l : List UInt8) : eqB l l = true := by simp [eqB]
theorem eqB_iff {l m : List UInt8} : eqB l m = true ↔ l = m := by simp [eqB]

theorem u8_ne {x y : UInt8} : (((x.toNat : Nat) : Int) == ((y.toNat : Nat) : Int)) = decide (x = y) := by
  rw [Bool.eq_iff_iff, beq_iff_eq, decide_eq_true_iff, ← UInt8.toNat_inj]; omega

set_option maxHeartbeats 400000 in
theorem bytes_any (M M' : Blocks) (v v' : Value) (l m : List UInt8) (w : World) (h : SB M w v l) (h' : SB M' w v' m) :
    Calls Try.prog 18 #[v, v'] w fun e w' => e = .returned (.bool (eqB l m)) ∧ ∃ k, w' = w.drewN k := by
  obtain ⟨a, n, c, rfl, hn, hnc, hcm⟩ := h.opened
  obtain ⟨a2, n2, c2, rfl, hn2, hnc2, hcm2⟩ := h'.opened
  unfold maxLen at hcm hcm2
  have Hn := hid hn
  have Hn2 := hid hn2
  by_cases hne : n = n2
  · clear hn2
    subst hne
    clear hn
    go_enter Try.func18, Try.ntmps18
    go_wp2
    go_loopw [5] (fun i wr => ∃ k : Nat, k ≤ n ∧ i = .int .i64 k ∧ l.take k = m.take k ∧ ∃ j, wr = w.drewN j) (fun i _ => n - (intOf i).toNat)
    case atStart => exact ⟨0, Nat.zero_le _, rfl, by simp, 0, rfl⟩
    case round =>
      obtain ⟨k, hk, rfl, heq, j, rfl⟩ := hrel
      have Heq := hid heq
      clear heq
      by_cases hlt : k < n
      · obtain ⟨b, off, rfl, _, hat⟩ := h.at_ (by omega)
        obtain ⟨b2, off2, rfl, _, hat2⟩ := h'.at_ (by omega)
        have hkl : k < l.length := by have := Hn.out; omega
        have hkm : k < m.length := by have := Hn2.out; omega
        have hc1 := hat k l[k] (List.getElem?_eq_getElem hkl)
        have hc2 := hat2 k m[k] (List.getElem?_eq_getElem hkm)
        clear hat hat2
        have hst : l[k] = m[k] → l.take (k + 1) = m.take (k + 1) := by
          intro e
          rw [List.take_succ_eq_append_getElem hkl, List.take_succ_eq_append_getElem hkm, Heq.out, e]
        have Hst := hid hst
        have hno : l[k] ≠ m[k] → l ≠ m := by
          rintro e rfl; exact e rfl
        have Hno := hid hno
        clear hst hno
        have hxy := @u8_ne l[k] m[k]
        generalize l[k] = x at *
        generalize m[k] = y at *
        by_cases hxe : x = y
        · have ht : (((x.toNat : Nat) : Int) == ((y.toNat : Nat) : Int)) = true := by rw [hxy]; simp [hxe]
          have Hx := hid hxe
          clear hxy hxe
          go_wp2
          go_quiet (fail)
          go_wp2
          go_roundw
          case rel => exact ⟨k + 1, by omega, by go_num, Hst.out Hx.out, _, rfl⟩
          case measure => simp [intOf]; omega
        · have ht : (((x.toNat : Nat) : Int) == ((y.toNat : Nat) : Int)) = false := by rw [hxy]; simp [hxe]
          have Hx := hid hxe
          clear hxy hxe
          go_wp2
          go_quiet (fail)
          go_wp2
          go_ret
          exact ⟨ret_bool (by rw [Bool.eq_iff_iff, eqB_iff]; simp [Hno.out Hx.out]), _, World.drewN_drewN _ _ _⟩
      · have hke : k = n := by omega
        subst hke
        go_wp2
        go_ret
        refine ⟨ret_bool ?_, _, rfl⟩
        have := Heq.out
        rw [List.take_of_length_le (by have := Hn.out; omega), List.take_of_length_le (by have := Hn2.out; omega)] at this
        rw [this, eqB_self]
  · have hd : ((n : Int) == (n2 : Int)) = false := by rw [beq_eq_false_iff_ne]; omega
    have hlm : eqB l m = false := by
      rw [← Bool.not_eq_true, eqB_iff]
      rintro rfl; omega
    have Hlm := hid hlm
    clear hlm hn hn2 hne
    go_enter Try.func18, Try.ntmps18
    go_wp2
    go_ret
    exact ⟨ret_bool Hlm.out.symm, 0, rfl⟩
end Go.Proofs.Ytkblcdjkabiliaa
