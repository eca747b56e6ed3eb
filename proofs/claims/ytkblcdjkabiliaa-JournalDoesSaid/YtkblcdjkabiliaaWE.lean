/- The walk through the reference's Whole. -/
import Derived.Test.YtkblcdjkabiliaaWD
namespace Go.Proofs.Ytkblcdjkabiliaa
open Go.RowKit Wm

/-- What the reference's Whole answers: how many bytes stand ahead of their sum, or -1. -/
def wholeN (b : List UInt8) : Int := if wholeB b = true then ((b.length - 4 : Nat) : Int) else -1
def PRWhole (w : World) (b : List UInt8) (e : Ending) (w' : World) : Prop := e = .returned (.int .i64 (wholeN b)) ∧ Keeps No w w'

set_option maxRecDepth 20000 in
set_option maxHeartbeats 1000000 in
theorem rwhole_any (M : Blocks) (v : Value) (b : List UInt8) (w : World) (h : SB M w v b) :
    Calls Try.prog 22 #[v] w (PRWhole w b) := by
  obtain ⟨a, n, c, rfl, hn, hnc, hcm⟩ := h.opened
  unfold maxLen at hcm
  by_cases h4 : n < 4
  · have hw : wholeB b = false := by unfold wholeB; rw [decide_eq_false_iff_not]; omega
    have Hw := hid hw
    clear hw hn
    go_enter Try.func22, Try.ntmps22
    go_wp2
    go_ret
    unfold PRWhole wholeN
    rw [Hw.out]
    exact ⟨rfl, Keeps.refl _ _⟩
  · obtain ⟨k, rfl⟩ : ∃ k, n = k + 4 := ⟨n - 4, by omega⟩
    have hk : b.length - 4 = k := by omega
    have Hn := hid hn
    have Hk := hid hk
    clear hk hn h4
    have htk : SB M w (.slice a k c) (b.take k) := by
      have := SV.take h (k := k) (by omega)
      rw [← List.map_take] at this; exact this
    have HT := hid htk
    have hcl := Wn.crc_lt (b.take k)
    have hlast : wholeB b = decide (b.drop k = Wn.le4 (Wn.crc (b.take k))) := by
      unfold wholeB; rw [Hk.out]; have := Hn.out; congr 1; simp only [eq_iff_iff]; constructor
      · exact fun h => h.2
      · exact fun h => ⟨by omega, h⟩
    have Hlast := hid hlast
    clear htk hlast
    go_enter Try.func22, Try.ntmps22
    go_wp2_with fail
    refine (rsum_any M _ (b.take k) _ HT.out).mono ?_
    rintro e w1 ⟨rfl, rfl⟩
    generalize Wn.crc (b.take k) = cs at *
    go_wp2_with fail
    refine (rtail_any _ _ hcl).mono ?_
    rintro e w1 ⟨v1, rfl, ht1, hkeep1⟩
    obtain ⟨a2, n2, c2, rfl, hn2, hnc2, hcm2⟩ := ht1.opened
    unfold maxLen at hcm2
    rw [Wn.le4_length] at hn2
    subst hn2
    go_wp2_with fail
    have h1 : SB M w1 (.slice a (k + 4) c) b := SV.keep h hkeep1 (fun _ _ hk => hk.elim)
    go_loopw [5] (fun i wr => ∃ j : Nat, j ≤ 4 ∧ i = .int .i64 j ∧ (b.drop k).take j = (Wn.le4 cs).take j ∧ ∃ q, wr = w1.drewN q) (fun i _ => 4 - (intOf i).toNat)
    case atStart => exact ⟨0, by omega, rfl, by simp, 0, rfl⟩
    case round =>
      obtain ⟨j, hj, rfl, heq, q, rfl⟩ := hrel
      have Heq := hid heq
      clear heq
      by_cases hlt : j < 4
      · obtain ⟨b1, off1, rfl, _, hat1⟩ := h1.at_ (by omega)
        obtain ⟨b2, off2, rfl, _, hat2⟩ := ht1.at_ (by omega)
        have hkl : k + j < b.length := by have := Hn.out; omega
        have hkm : j < (Wn.le4 cs).length := by rw [Wn.le4_length]; omega
        have hc1 := hat1 (k + j) b[k + j] (List.getElem?_eq_getElem hkl)
        have hc2 := hat2 j (Wn.le4 cs)[j] (List.getElem?_eq_getElem hkm)
        clear hat1 hat2
        have hjd : j < (b.drop k).length := by rw [List.length_drop]; omega
        have hst : b[k + j] = (Wn.le4 cs)[j] → (b.drop k).take (j + 1) = (Wn.le4 cs).take (j + 1) := by
          intro e
          rw [List.take_succ_eq_append_getElem hjd, List.take_succ_eq_append_getElem hkm, Heq.out, List.getElem_drop, e]
        have Hst := hid hst
        have hno : b[k + j] ≠ (Wn.le4 cs)[j] → b.drop k ≠ Wn.le4 cs := by
          intro hne e
          apply hne
          have : (b.drop k)[j]? = (Wn.le4 cs)[j]? := by rw [e]
          rw [List.getElem?_drop, List.getElem?_eq_getElem hkl, List.getElem?_eq_getElem hkm] at this
          exact Option.some.inj this
        have Hno := hid hno
        clear hst hno
        have hxy := @u8_ne b[k + j] (Wn.le4 cs)[j]
        generalize b[k + j] = x at *
        generalize (Wn.le4 cs)[j] = y at *
        have hadd : IntKind.i64.wrap ((k : Int) + (j : Int)) = (k : Int) + (j : Int) := IntWalk.i64_in _ (by omega)
        have hadd2 : (0 : Int) ≤ (k : Int) + (j : Int) := by omega
        have hadd3 : ((k : Int) + (j : Int)).toNat = k + j := by omega
        by_cases hxe : x = y
        · have ht : (((x.toNat : Nat) : Int) == ((y.toNat : Nat) : Int)) = true := by rw [hxy]; simp [hxe]
          have Hx := hid hxe
          clear hxy hxe
          go_wp2
          go_quiet (fail)
          clear hadd hadd2 hadd3
          go_wp2
          go_roundw
          case rel => exact ⟨j + 1, by omega, by go_num, Hst.out Hx.out, _, rfl⟩
          case measure => simp [intOf]; omega
        · have ht : (((x.toNat : Nat) : Int) == ((y.toNat : Nat) : Int)) = false := by rw [hxy]; simp [hxe]
          have Hx := hid hxe
          clear hxy hxe
          go_wp2
          go_quiet (fail)
          clear hadd hadd2 hadd3
          go_wp2
          go_ret
          unfold PRWhole wholeN
          rw [Hlast.out, decide_eq_false (Hno.out Hx.out)]
          exact ⟨rfl, (hkeep1.drewN _).drewN _⟩
      · have hje : j = 4 := by omega
        subst hje
        have hall : b.drop k = Wn.le4 cs := list_eq_of_takes (by rw [List.length_drop, Wn.le4_length]; have := Hn.out; omega) 4 (by rw [List.length_drop]; have := Hn.out; omega) Heq.out
        have Hall := hid hall
        clear hall
        go_wp2
        go_ret
        unfold PRWhole wholeN
        rw [Hlast.out, decide_eq_true Hall.out, Hk.out, if_pos rfl]
        exact ⟨rfl, hkeep1.drewN _⟩
end Go.Proofs.Ytkblcdjkabiliaa
