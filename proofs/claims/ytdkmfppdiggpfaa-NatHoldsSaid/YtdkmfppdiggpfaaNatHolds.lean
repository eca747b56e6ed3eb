/- NatHolds: the law's walk. -/
import Derived.Test.YtdkmfppdiggpfaaWB
namespace Go.Proofs.Ytdkmfppdiggpfaa
open Go.RowKit Wm

theorem quiet_same {P : Program} {f : FuncId} {args : Array Value} {w : World} {v : Value} (h : Calls P f args w fun e w' => e = .returned v ∧ w = w') :
    Calls P f args w fun e w' => e = .returned v ∧ w' = w := h.mono fun _ _ ⟨a, b⟩ => ⟨a, b.symm⟩

set_option maxRecDepth 20000 in
set_option maxHeartbeats 1000000 in
theorem natHolds_any (x b0 b1 : Int) (v : Value) (l : List Int) (w : World) (h : SI No w v l ∧ I64 l) :
    Calls Try.prog 3 #[.int .i64 x, .agg #[.int .i64 b0, .int .i64 b1], v] w (PTrue w) := by
  obtain ⟨h, h64⟩ := h
  obtain ⟨a, n, c, rfl, hn, hnc, hcm⟩ := h.opened
  unfold maxLen at hcm
  have Hn := hid hn
  clear hn h64
  go_enter Try.func3, Try.ntmps3
  go_wp2_with fail
  refine (awake1_any _).mono ?_
  rintro e w1 ⟨rfl, hk1⟩
  have hB : w1.heap[w.heap.size]? = some (.cells #[.int .i64 b0, .int .i64 b1] 22) := by
    rw [hk1.block _ (by simp) (fun hk => hk)]; exact heap_alloc_new w _
  have hc0 : w1.cell? ⟨w.heap.size, 0, none⟩ = some (.int .i64 b0) := by rw [cell_of_row _ _ _ _ _ _ hB]; rfl
  have hc1 : w1.cell? ⟨w.heap.size, 1, none⟩ = some (.int .i64 b1) := by rw [cell_of_row _ _ _ _ _ _ hB]; rfl
  clear hB
  have h1 : SI No w1 (.slice a n c) l := (SV.alloc h _).keep hk1 fun _ _ hk => hk.elim
  have hK1 : Keeps No w w1 := ((Keeps.refl _ _).alloc _).then_ hk1
  by_cases h200 : n ≤ 200
  · go_wp2_with fail
    refine (least_any No _ l _ h1).mono ?_
    rintro e w2 ⟨m, rfl, rfl, hm0, hmem, hle⟩
    have Hmem := hid hmem
    have Hle := hid hle
    have Hm0 := hid hm0
    clear hmem hle hm0
    by_cases hz : n = 0
    · subst hz
      have hl : l = [] := List.eq_nil_of_length_eq_zero Hn.out.symm
      have hm0 : m = 0 := Hm0.out hl
      subst hm0
      subst hl
      go_wp2_with fail
      refine wp_loop_rounds 1 ?_
      rw [rounds_succ]
      go_wp2_with fail
      go_quiet ((first | (go_at_call 12; exact Calls.quiet_of_same (quiet_same (hold_any _ _ _ _))) | (go_at_call 13; exact Calls.quiet_of_same (quiet_same (rhold_any _ _ _ _)))))
      go_wp2
      go_ret
      exact ⟨rfl, hK1.drewN _⟩
    · have hnb : (((n : Nat) : Int) == 0) = false := by rw [beq_eq_false_iff_ne]; omega
      have hpos : 0 < n := by omega
      clear hz
      go_wp2_with fail
      go_loop [8, 9] (fun t i => ∃ (k : Nat) (tb : Bool), k ≤ n ∧ i = .int .i64 k ∧ t = .bool tb ∧ (tb = true ↔ m ∈ l.take k)) (fun _ i => n - (intOf i).toNat)
      case atStart => exact ⟨0, false, Nat.zero_le _, rfl, rfl, by simp⟩
      case round =>
        obtain ⟨k, tb, hk, rfl, rfl, htb⟩ := hrel
        have Htb := hid htb
        clear htb
        by_cases hlt : k < n
        · obtain ⟨b, off, rfl, _, hat⟩ := h1.at_ (by omega)
          have hkl : k < l.length := by have := Hn.out; omega
          have hcell := hat k l[k] (List.getElem?_eq_getElem hkl)
          have hst : l.take (k + 1) = l.take k ++ [l[k]] := List.take_succ_eq_append_getElem hkl
          have hlow := Hle.out l[k] (List.getElem_mem hkl)
          have Hst := hid hst
          clear hat hst
          generalize l[k] = y at *
          cases tb with
          | true =>
            go_wp2_with fail
            go_round
            case rel => exact ⟨k + 1, true, by omega, by go_num, rfl, by rw [Hst.out, List.mem_append]; simp [Htb.out.1 rfl]⟩
            case measure => simp [intOf]; omega
          | false =>
            by_cases hy : y = m
            · have hyb : (y == m) = true := by rw [beq_iff_eq]; exact hy
              have Hy := hid hy
              clear hy
              go_wp2_with fail
              go_round
              case rel => exact ⟨k + 1, true, by omega, by go_num, rfl, by rw [Hst.out, List.mem_append]; simp [Hy.out]⟩
              case measure => simp [intOf]; omega
            · have hyb : (y == m) = false := by rw [beq_eq_false_iff_ne]; exact hy
              have Hy := hid hy
              clear hy
              go_wp2_with fail
              go_round
              case rel => exact ⟨k + 1, false, by omega, by go_num, rfl, by
                rw [Hst.out, List.mem_append]; simp
                exact ⟨fun hh => by simpa using Htb.out.2 hh, fun hh => Hy.out hh.symm⟩⟩
              case measure => simp [intOf]; omega
        · have hke : k = n := by omega
          subst hke
          have htrue : tb = true := Htb.out.2 (by
            rw [List.take_of_length_le (by have := Hn.out; omega)]
            exact Hmem.out (by rintro rfl; have := Hn.out; simp at this; omega))
          subst htrue
          go_wp2_with fail
          go_quiet ((first | (go_at_call 12; exact Calls.quiet_of_same (quiet_same (hold_any _ _ _ _))) | (go_at_call 13; exact Calls.quiet_of_same (quiet_same (rhold_any _ _ _ _)))))
          go_wp2
          go_ret
          exact ⟨rfl, hK1.drewN _⟩
  · go_wp2_with fail
    go_ret
    exact ⟨rfl, hK1⟩
end Go.Proofs.Ytdkmfppdiggpfaa
