/- The walks through hash.Of and the reference's. -/
import Derived.Test.YtdkmfppdiggpfaaWB
import Derived.Test.YtdkmfppdiggpfaaLot
namespace Go.Proofs.Ytdkmfppdiggpfaa
open Go.RowKit Wm

theorem wrapu (y : Nat) : IntKind.u64.wrap (y : Int) = ((y % 18446744073709551616 : Nat) : Int) := by
  rw [IntKind.wrap_u64]; omega
theorem flat_succ {ls : List (List UInt8)} {k : Nat} (hk : k < ls.length) : (ls.take (k + 1)).flatten = (ls.take k).flatten ++ ls[k] := by
  rw [List.take_succ_eq_append_getElem hk, List.flatten_append, List.flatten_singleton]

set_option maxRecDepth 20000 in
set_option maxHeartbeats 2000000 in
theorem rof_any (M : Blocks) (v : Value) (l : List UInt8) (w : World) (h : SB M w v l) :
    Calls Try.prog 42 #[.int .u64 0, v] w fun e w' => e = .returned (.int .u64 (Wn.hOf l : Nat)) ∧ w = w' := by
  obtain ⟨a, n, c, rfl, hn, hnc, hcm⟩ := h.opened
  unfold maxLen at hcm
  have Hn := hid hn
  clear hn
  have hx0 : bits .xor .u64 14695981039346656037 0 = ((Wn.hBase : Nat) : Int) := by
    have := u64_xor_nat 14695981039346656037 0 (by omega) (by omega)
    simpa [Wn.hBase] using this
  go_enter Try.func42, Try.ntmps42
  go_wp2
  go_loop [5, 6] (fun s i => ∃ k : Nat, k ≤ n ∧ i = .int .i64 k ∧ s = .int .u64 (Wn.hRun Wn.hBase (l.take k) : Nat)) (fun _ i => n - (intOf i).toNat)
  case atStart => exact ⟨0, Nat.zero_le _, rfl, rfl⟩
  case round =>
    obtain ⟨k, hk, rfl, rfl⟩ := hrel
    by_cases hlt : k < n
    · obtain ⟨b, off, rfl, _, hat⟩ := h.at_ (by omega)
      have hkl : k < l.length := by have := Hn.out; omega
      have hcell := hat k l[k] (List.getElem?_eq_getElem hkl)
      clear hat
      have hst : Wn.hRun Wn.hBase (l.take (k + 1)) = Wn.hStep (Wn.hRun Wn.hBase (l.take k)) l[k].toNat := by
        rw [List.take_succ_eq_append_getElem hkl, Wn.hRun_snoc]
      unfold Wn.hStep at hst
      have Hst := hid hst
      clear hst
      have hb1 := Wn.hRun_lt (l.take k) _ Wn.hBase_lt
      have hb2 := l[k].toNat_lt
      generalize Wn.hRun Wn.hBase (l.take k) = st at *
      generalize l[k].toNat = x at *
      have hx : bits .xor .u64 (st : Int) (x : Int) = ((st ^^^ x : Nat) : Int) := u64_xor_nat st x (by omega) (by omega)
      have hl : st ^^^ x < 18446744073709551616 := Nat.xor_lt_two_pow (n := 64) (by omega) (by omega)
      generalize st ^^^ x = y at *
      have Hl := hid hl
      clear hl hb1
      go_wp2
      go_round
      case rel =>
        refine ⟨k + 1, by omega, by go_num, ?_⟩
        rw [Hst.out, ← wrapu]
        rw [Int.natCast_mul]; rfl
      case measure => simp [intOf]; omega
    · have hke : k = l.length := by have := Hn.out; omega
      subst hke
      have hall : l.take l.length = l := List.take_length
      rw [hall]
      have hb1 := Wn.hRun_lt l _ Wn.hBase_lt
      have hof : Wn.hOf l = Wn.hRun Wn.hBase l ^^^ (Wn.hRun Wn.hBase l / 4294967296) := rfl
      generalize Wn.hRun Wn.hBase l = st at *
      have hx : bits .xor .u64 (st : Int) ((st / 4294967296 : Nat) : Int) = ((st ^^^ (st / 4294967296) : Nat) : Int) := u64_xor_nat _ _ (by omega) (by omega)
      have hq : ((st : Int) / 4294967296) = ((st / 4294967296 : Nat) : Int) := by omega
      rw [← hof] at hx
      have hsq : st / 4294967296 < 18446744073709551616 := by omega
      generalize st / 4294967296 = sq at *
      have Hb := hid hb1
      have Hsq := hid hsq
      clear hof hall hb1 hsq
      go_wp2
      go_ret
      refine ⟨ret_int ?_, rfl⟩
      rw [wrapu, Nat.mod_eq_of_lt Hsq.out]; exact hx

set_option maxRecDepth 20000 in
set_option maxHeartbeats 2000000 in
theorem hof_any (M : Blocks) (v : Value) (ls : List (List UInt8)) (w : World) (h : SL M w v ls) :
    Calls Try.prog 54 #[.int .u64 0, v] w fun e w' => e = .returned (.int .u64 (Wn.hOf ls.flatten : Nat)) ∧ w = w' := by
  obtain ⟨a, n, c, rfl, hn, hnc, hcm⟩ := h.opened
  unfold maxLen at hcm
  have Hn := hid hn
  clear hn
  have hx0 : bits .xor .u64 14695981039346656037 0 = ((Wn.hBase : Nat) : Int) := by
    have := u64_xor_nat 14695981039346656037 0 (by omega) (by omega)
    simpa [Wn.hBase] using this
  go_enter Try.func54, Try.ntmps54
  go_wp2
  go_loop [5, 14] (fun s i => ∃ k : Nat, k ≤ n ∧ i = .int .i64 k ∧ s = .int .u64 (Wn.hRun Wn.hBase (ls.take k).flatten : Nat)) (fun _ i => n - (intOf i).toNat)
  case atStart => exact ⟨0, Nat.zero_le _, rfl, rfl⟩
  case round =>
    obtain ⟨k, hk, rfl, rfl⟩ := hrel
    by_cases hlt : k < n
    · obtain ⟨b, off, rfl, _, hat⟩ := h.at_ (by omega)
      have hkl : k < ls.length := by have := Hn.out; omega
      obtain ⟨u, hcell, hub⟩ := hat k ls[k] (List.getElem?_eq_getElem hkl)
      clear hat
      obtain ⟨a2, n2, c2, rfl, hn2, hnc2, hcm2⟩ := hub.opened
      unfold maxLen at hcm2
      have hst : Wn.hRun Wn.hBase (ls.take (k + 1)).flatten = Wn.hRun (Wn.hRun Wn.hBase (ls.take k).flatten) ls[k] := by
        rw [flat_succ hkl, Wn.hRun_app]
      have Hst := hid hst
      have hb0 := Wn.hRun_lt (ls.take k).flatten _ Wn.hBase_lt
      have Hn2 := hid hn2
      clear hst hn2
      generalize ls[k] = x at *
      generalize Wn.hRun Wn.hBase (ls.take k).flatten = h0 at *
      have Hb0 := hid hb0
      clear hb0
      go_wp2
      go_loop [5, 20] (fun s i => ∃ q : Nat, q ≤ n2 ∧ i = .int .i64 q ∧ s = .int .u64 (Wn.hRun h0 (x.take q) : Nat)) (fun _ i => n2 - (intOf i).toNat)
      case atStart => exact ⟨0, Nat.zero_le _, rfl, rfl⟩
      case round =>
        obtain ⟨q, hq, rfl, rfl⟩ := hrel
        by_cases hqlt : q < n2
        · obtain ⟨b2, off2, rfl, _, hat2⟩ := hub.at_ (by omega)
          have hql : q < x.length := by have := Hn2.out; omega
          have hcell2 := hat2 q x[q] (List.getElem?_eq_getElem hql)
          clear hat2
          have hst : Wn.hRun h0 (x.take (q + 1)) = Wn.hStep (Wn.hRun h0 (x.take q)) x[q].toNat := by
            rw [List.take_succ_eq_append_getElem hql, Wn.hRun_snoc]
          unfold Wn.hStep at hst
          have Hst2 := hid hst
          clear hst
          have hb1 := Wn.hRun_lt (x.take q) _ Hb0.out
          have hb2 := x[q].toNat_lt
          generalize Wn.hRun h0 (x.take q) = st at *
          generalize x[q].toNat = xc at *
          have hx : bits .xor .u64 (st : Int) (xc : Int) = ((st ^^^ xc : Nat) : Int) := u64_xor_nat st xc (by omega) (by omega)
          generalize st ^^^ xc = y at *
          clear hb1
          go_wp2
          go_round
          case rel =>
            refine ⟨q + 1, by omega, by go_num, ?_⟩
            rw [Hst2.out, ← wrapu]
            rw [Int.natCast_mul]; rfl
          case measure => simp [intOf]; omega
        · have hall : x.take q = x := List.take_of_length_le (by have := Hn2.out; omega)
          rw [hall]
          clear hall
          go_wp2
          go_round
          case rel => exact ⟨k + 1, by omega, by go_num, by rw [Hst.out]⟩
          case measure => simp [intOf]; omega
    · have hall : ls.take k = ls := List.take_of_length_le (by have := Hn.out; omega)
      rw [hall]
      have hb1 := Wn.hRun_lt ls.flatten _ Wn.hBase_lt
      have hof : Wn.hOf ls.flatten = Wn.hRun Wn.hBase ls.flatten ^^^ (Wn.hRun Wn.hBase ls.flatten / 4294967296) := rfl
      generalize Wn.hRun Wn.hBase ls.flatten = st at *
      have hx : bits .xor .u64 (st : Int) ((st / 4294967296 : Nat) : Int) = ((st ^^^ (st / 4294967296) : Nat) : Int) := u64_xor_nat _ _ (by omega) (by omega)
      have hq : ((st : Int) / 4294967296) = ((st / 4294967296 : Nat) : Int) := by omega
      rw [← hof] at hx
      have hsq : st / 4294967296 < 18446744073709551616 := by omega
      generalize st / 4294967296 = sq at *
      have Hb := hid hb1
      have Hsq := hid hsq
      clear hof hall hb1 hsq
      go_wp2
      go_ret
      refine ⟨ret_int ?_, rfl⟩
      first | rfl | exact hx | (rw [wrapu, Nat.mod_eq_of_lt Hsq.out]; exact hx)
end Go.Proofs.Ytdkmfppdiggpfaa
