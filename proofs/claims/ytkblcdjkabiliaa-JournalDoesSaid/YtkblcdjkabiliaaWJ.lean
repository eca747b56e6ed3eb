/- The walk through the reference's Number. -/
import Derived.Test.YtkblcdjkabiliaaWI
namespace Go.Proofs.Ytkblcdjkabiliaa
open Go.RowKit Wm

theorem right_any (n : Int) (w : World) : Calls Try.prog 77 #[.int .i64 n] w fun e w' => e = .returned (.bool (decide (0 ≤ n ∧ n ≤ 281474976710656))) ∧ w = w' := by
  by_cases h0 : 0 ≤ n
  · by_cases h1 : n ≤ 281474976710656
    · go_enter Try.func77, Try.ntmps77
      go_wp2
      go_ret
      exact ⟨ret_bool (by simp; omega), rfl⟩
    · go_enter Try.func77, Try.ntmps77
      go_wp2
      go_ret
      exact ⟨ret_bool (by simp; omega), rfl⟩
  · go_enter Try.func77, Try.ntmps77
    go_wp2
    go_ret
    exact ⟨ret_bool (by simp; omega), rfl⟩

/-- What the reference's Number answers. -/
def PRNum (b : List UInt8) (w : World) (e : Ending) (w' : World) : Prop :=
  e = .returned (.tuple #[.int .i64 ((Wn.rdNum b).1 : Int), .int .i64 ((Wn.rdNum b).2.1 : Int), .int .i64 ((Wn.rdNum b).2.2 : Int)]) ∧ w = w'

set_option maxRecDepth 20000 in
set_option maxHeartbeats 2000000 in
theorem rrnum_any (M : Blocks) (v : Value) (b : List UInt8) (w : World) (h : SB M w v b) :
    Calls Try.prog 70 #[v] w (PRNum b w) := by
  obtain ⟨a, n, c, rfl, hn, hnc, hcm⟩ := h.opened
  unfold maxLen at hcm
  have Hn := hid hn
  clear hn
  go_enter Try.func70, Try.ntmps70
  go_wp2
  go_loop [5] (fun i => ∃ k : Nat, k ≤ n ∧ k ≤ 8 ∧ i = .int .i64 k ∧ ∀ i (hi : i < k), ∀ y, b[i]? = some y → 128 ≤ y.toNat) (fun i => 8 - (intOf i).toNat)
  case atStart => exact ⟨0, Nat.zero_le _, by omega, rfl, fun i hi => by omega⟩
  case round =>
    obtain ⟨k, hk, hk8, rfl, hall⟩ := hrel
    have hcl := cl_all 8 b k (by have := Hn.out; omega) hk8 (fun i hi => hall i hi _ (List.getElem?_eq_getElem (by have := Hn.out; omega)))
    have Hcl := hid hcl
    have Hall := hid hall
    clear hall hcl
    by_cases hlt : k < n
    · by_cases hlt8 : k < 8
      · obtain ⟨b2, off2, rfl, _, hat⟩ := h.at_ (by omega)
        have hkl : k < b.length := by have := Hn.out; omega
        have hcell := hat k b[k] (List.getElem?_eq_getElem hkl)
        have Hat := hid hat
        have hlow : b[k].toNat < 128 → Wn.cl 8 b = k := fun hl => cl_at 8 b k hkl (by omega) (fun i hi => Hall.out i hi _ (List.getElem?_eq_getElem (by omega))) hl
        have hhigh : 128 ≤ b[k].toNat → ∀ i (hi : i < k + 1), ∀ y, b[i]? = some y → 128 ≤ y.toNat := by
          intro hh i hi y hy
          rcases Nat.lt_succ_iff_lt_or_eq.1 hi with h1 | rfl
          · exact Hall.out i h1 y hy
          · rw [List.getElem?_eq_getElem hkl] at hy; injection hy with hy; rw [← hy]; exact hh
        have hzero : (((b[k].toNat : Nat) : Int) == 0) = decide (b[k] = 0) := by
          rw [Bool.eq_iff_iff, beq_iff_eq, decide_eq_true_iff, ← UInt8.toNat_inj]
          show _ ↔ b[k].toNat = 0
          omega
        have hrd : b[k].toNat < 128 → Wn.rdNum b = if (0 < k ∧ b[k] = 0) ∨ 281474976710656 < Wn.num7 (b.take (k + 1)) then (0, 0, 11) else (Wn.num7 (b.take (k + 1)), k + 1, 0) := by
          intro hl
          have e := hlow hl
          unfold Wn.rdNum
          rw [e, if_neg (by omega), if_neg (by omega), List.getElem?_eq_getElem hkl]
          simp
        have htl : (b.take (k + 1)).length = k + 1 := by rw [List.length_take]; omega
        have Htl := hid htl
        have Hhigh := hid hhigh
        have Hrd := hid hrd
        have Hz := hid hzero
        clear hat hlow hhigh hrd htl hzero
        obtain ⟨yk, hyk⟩ : ∃ yk, b[k] = yk := ⟨_, rfl⟩
        rw [hyk] at hcell Hhigh Hrd Hz
        clear hyk
        by_cases hy : yk.toNat < 128
        · have hk0 : ((k : Nat) : Int) ≤ 7 := by omega
          have hb8 : (((k : Nat) : Int) == 8) = false := by rw [beq_eq_false_iff_ne]; omega
          have hbn : (((k : Nat) : Int) == (n : Int)) = false := by rw [beq_eq_false_iff_ne]; omega
          go_wp2
          go_loop [6, 7] (fun s i => ∃ j : Nat, j ≤ k + 1 ∧ i = .int .i64 ((j : Int) - 1) ∧ s = .int .i64 (Wn.num7 ((b.take (k + 1)).drop j) : Nat)) (fun _ i => (intOf i + 1).toNat)
          case atStart =>
            refine ⟨k + 1, Nat.le_refl _, by go_num, ?_⟩
            rw [List.drop_of_length_le (by rw [Htl.out]; omega)]
            first | done | rfl
          case round =>
            obtain ⟨j, hj, rfl, rfl⟩ := hrel
            rcases Nat.eq_zero_or_pos j with rfl | hj0
            · rw [List.drop_zero]
              have hV := num7_bd (l := b.take (k + 1)) (by rw [Htl.out]; omega)
              have hr := Hrd.out hy
              generalize Wn.num7 (b.take (k + 1)) = V at *
              have hz := Hz.out
              by_cases hbad : 0 < k ∧ yk = 0
              · have hyb : (((yk.toNat : Nat) : Int) == 0) = true := by rw [hz]; simp [hbad.2]
                obtain ⟨hkp, -⟩ := id hbad
                rw [if_pos (.inl hbad)] at hr
                have Hr := hid hr
                clear hr hz hbad
                go_wp2_with fail
                go_ret3
                unfold PRNum
                rw [Hr.out]
                exact ⟨rfl, rfl⟩
              · have hyb : (0 : Int) < (k : Int) → (((yk.toNat : Nat) : Int) == 0) = false := by
                  intro hh; rw [hz]; simp; intro e; exact hbad ⟨by omega, e⟩
                by_cases hbig : 281474976710656 < V
                · rw [if_pos (.inr hbig)] at hr
                  have Hr := hid hr
                  clear hr hz hbad
                  rcases Nat.eq_zero_or_pos k with hk1 | hk1
                  all_goals
                    have Hy := hid hyb
                    clear hyb
                  focus
                    have hk2 : (k : Int) ≤ 0 := by omega
                    clear hk1
                  rotate_left
                  focus
                    have hk2 := Hy.out (by omega)
                  all_goals
                    go_wp2_with fail
                    refine (right_any (V : Int) _).mono ?_
                    rintro e w1 ⟨rfl, rfl⟩
                    rw [decide_eq_false (by omega)]
                    go_wp2_with fail
                    go_ret3
                    unfold PRNum
                    rw [Hr.out]
                    exact ⟨rfl, rfl⟩
                · rw [if_neg (by rintro (h1 | h1); exact hbad h1; exact hbig h1)] at hr
                  have Hr := hid hr
                  clear hr hz hbad
                  rcases Nat.eq_zero_or_pos k with hk1 | hk1
                  all_goals
                    have Hy := hid hyb
                    clear hyb
                  focus
                    have hk2 : (k : Int) ≤ 0 := by omega
                    clear hk1
                  rotate_left
                  focus
                    have hk2 := Hy.out (by omega)
                  all_goals
                    go_wp2_with fail
                    refine (right_any (V : Int) _).mono ?_
                    rintro e w1 ⟨rfl, rfl⟩
                    rw [decide_eq_true (by omega)]
                    go_wp2_with fail
                    go_ret3
                    unfold PRNum
                    rw [Hr.out]
                    exact ⟨rfl, rfl⟩
            · obtain ⟨i, rfl⟩ : ∃ i, j = i + 1 := ⟨j - 1, by omega⟩
              have hib : i < b.length := by omega
              have hil : i < (b.take (k + 1)).length := by rw [Htl.out]; omega
              have hcelli := Hat.out i b[i] (List.getElem?_eq_getElem hib)
              have hst : Wn.num7 ((b.take (k + 1)).drop i) = b[i].toNat % 128 + 128 * Wn.num7 ((b.take (k + 1)).drop (i + 1)) := by
                rw [List.drop_eq_getElem_cons hil, List.getElem_take]; rfl
              have hbd := num7_bd (l := (b.take (k + 1)).drop (i + 1)) (by rw [List.length_drop, Htl.out]; omega)
              have hbd2 := num7_bd (l := (b.take (k + 1)).drop i) (by rw [List.length_drop, Htl.out]; omega)
              have Hst := hid hst
              have hbd3 : 128 * Wn.num7 ((b.take (k + 1)).drop (i + 1)) ≤ 72057594037927936 := by omega
              have hyi := b[i].toNat_lt
              clear hst
              generalize b[i] = y at *
              generalize Wn.num7 ((b.take (k + 1)).drop (i + 1)) = acc at *
              go_wp2
              go_round
              case rel => exact ⟨i, by omega, by go_num, by rw [Hst.out]; go_num⟩
              case measure => simp [intOf]
        · go_wp2
          go_round
          case rel => exact ⟨k + 1, by omega, by omega, by go_num, Hhigh.out (by omega)⟩
          case measure => simp [intOf]; omega
      · have hke : k = 8 := by omega
        subst hke
        have hr : Wn.rdNum b = (0, 0, 11) := by
          unfold Wn.rdNum; rw [if_pos (by have := Hcl.out; have := (cl_le 8 b).1; omega)]
        have Hr := hid hr
        clear hr
        go_wp2
        go_ret3
        unfold PRNum
        rw [Hr.out]
        exact ⟨rfl, rfl⟩
    · have hke : k = n := by omega
      subst hke
      by_cases h8 : k = 8
      · subst h8
        have hr : Wn.rdNum b = (0, 0, 11) := by
          unfold Wn.rdNum; rw [if_pos (by have := Hcl.out; have := (cl_le 8 b).1; omega)]
        have Hr := hid hr
        clear hr
        go_wp2
        go_ret3
        unfold PRNum
        rw [Hr.out]
        exact ⟨rfl, rfl⟩
      · have hr : Wn.rdNum b = (0, 0, 10) := by
          have h1 := (cl_le 8 b).2
          have h2 := Hcl.out
          have h3 := Hn.out
          unfold Wn.rdNum; rw [if_neg (by omega), if_pos (by omega)]
        have Hr := hid hr
        have hb8 : (((k : Nat) : Int) == 8) = false := by rw [beq_eq_false_iff_ne]; omega
        clear hr h8
        go_wp2
        go_ret3
        unfold PRNum
        rw [Hr.out]
        exact ⟨rfl, rfl⟩
end Go.Proofs.Ytkblcdjkabiliaa
