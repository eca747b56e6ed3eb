/- The walks through slices.Clone, Grow, Concat of bytes, and through the reference's Bytes. -/
import Derived.Test.YtdkmfppdiggpfaaLA
import Derived.Test.YtdkmfppdiggpfaaLB
import Derived.Test.YtdkmfppdiggpfaaNA
import Derived.Lib.AppendZerosOnto
import Derived.Lib.SliceRun
import Derived.Deep.QuietTactic
import Derived.BigQuiet
namespace Go.Proofs.Ytdkmfppdiggpfaa
open Go.RowKit Wm

theorem flat_le (ls : List (List UInt8)) (k : Nat) : (ls.take k).flatten.length ≤ ls.flatten.length := by
  have h : ls.flatten = (ls.take k).flatten ++ (ls.drop k).flatten := by rw [← List.flatten_append, List.take_append_drop]
  have := congrArg List.length h
  rw [List.length_append] at this
  omega
/-- slices.Clone of bytes: a new row, or nothing. -/
def PClone (xs : List Value) (w : World) (e : Ending) (w' : World) : Prop :=
  ∃ a r c, e = .returned (.slice a r c) ∧ w'.ownsRow w.heap.size 5 1 (.slice a r c) r xs ∧ Keeps No w w'
set_option maxRecDepth 20000 in
set_option maxHeartbeats 1000000 in
theorem clone_any (M : Blocks) (v : Value) (b : List UInt8) (w : World) (h : SB M w v b) (hsz : b.length ≤ 16777216) :
    Calls Try.prog 49 #[v] w (PClone (b.map bv) w) := by
  obtain ⟨i0, hi, hz0, hz1, hz2⟩ := info_parts info5
  obtain ⟨a, n, c, rfl, hn, hnc, hcm⟩ := h.opened
  unfold maxLen at hcm
  have hm : (b.map bv).length = n := by rw [List.length_map]; exact hn.symm
  have hn24 : n ≤ 16777216 := by omega
  have Hm := hid hm
  have Hn := hid hn
  clear hm hn
  have q47 : ∀ (w : World) (a : Option Addr) (n c n' c' : Nat), (binOp .eql 47 (.slice a n c) (.slice none n' c')).run Try.prog w = .ok (.bool a.isNone) w := fun w a n c n' c' => Lib.run_eql_slice_nil w _ _ a n c n' c' Try.underlying47
  cases a with
  | none =>
    have hz : n = 0 := by
      rcases Nat.eq_zero_or_pos n with hz | hz
      · exact hz
      · obtain ⟨b, off, he, _⟩ := h.at_ hz; cases he
    subst hz
    have hb : b = [] := List.eq_nil_of_length_eq_zero Hn.out.symm
    subst hb
    go_enter Try.func49, Try.ntmps49
    go_wp2
    go_ret
    exact ⟨none, 0, 0, rfl, World.ownsRow_nil _ _ _ _, Keeps.refl _ _⟩
  | some ad =>
    go_enter Try.func49, Try.ntmps49
    go_wp2_with (at_builtin; go_must (refine wpList_copy _ rfl (.tmp 5) (.tmp 6) _ rfl 5 i0 _ 1 Try.underlying47 hi hz0 hz1 hz2 rfl rfl M _ (b.map bv) rfl h (one_bv _) n Hm.out (by unfold maxLen; omega) (by omega) ?_); intro a1 c1 w1 hown1 hk1)
    go_ret
    exact ⟨a1, n, c1, rfl, hown1, hk1⟩


set_option maxRecDepth 20000 in
set_option maxHeartbeats 2000000 in
theorem grow_any (n : Nat) (w : World) (hn : n ≤ 16777216) : Calls Try.prog 55 #[.slice none 0 0, .int .i64 (n : Int)] w fun e w' => ∃ a c, e = .returned (.slice a 0 c) ∧ w'.ownsRow w.heap.size 5 1 (.slice a 0 c) 0 [] ∧ Keeps No w w' := by
  obtain ⟨i0, hi, hz0, hz1, hz2⟩ := info_parts info5
  rcases Nat.eq_zero_or_pos n with hz | hpos
  · subst hz
    go_enter Try.func55, Try.ntmps55
    go_wp2
    go_ret
    exact ⟨none, 0, rfl, World.ownsRow_nil _ _ _ _, Keeps.refl _ _⟩
  · have hold : (Builtin.firstCells i0.size 0 (.slice none 0 0)).run Try.prog w.drew = .ok ([] : List Value).toArray w.drew := run_firstCells_none w.drew i0.size 0 0 0
    have hrz : ∀ ty, (Builtin.append_ #[47, 3] ty #[.slice none 0 0, .int .i64 (n : Int)]).run Try.prog w =
        .ok (.slice (some ⟨w.heap.size, 0, none⟩) n (grownCap w n 0 5)) (w.drew.alloc (.cells (Builtin.zeroCells (Value.int IntKind.u8 0).cells n ++ Builtin.zeroCells (Value.int IntKind.u8 0).cells (grownCap w n 0 5 - n)) 5)) := fun ty => by
      have h := Lib.run_append_grow_zeros w 47 3 ty 5 i0 _ .i64 .i64 Try.underlying47 Try.underlying3 hi hz0 none 0 0 [] hold n hpos (by omega) (by omega) (by omega)
        (by rw [hz2]; omega) (by rw [Nat.zero_add]; exact growslice_fits (by omega) (by rw [hz2]; omega))
      simpa using h
    have hGn : n ≤ grownCap w n 0 5 := grownCap_ge w _ _ _
    have hG63 : grownCap w n 0 5 ≤ maxLen := grownCap_le_maxLen w n 0 5 (by unfold maxLen; omega)
    have hsz : (Builtin.zeroCells (Value.int IntKind.u8 0).cells n ++ Builtin.zeroCells (Value.int IntKind.u8 0).cells (grownCap w n 0 5 - n)).size = grownCap w n 0 5 := by
      simp [Builtin.zeroCells, Value.cells]; omega
    generalize (Builtin.zeroCells (Value.int IntKind.u8 0).cells n ++ Builtin.zeroCells (Value.int IntKind.u8 0).cells (grownCap w n 0 5 - n)) = C at *
    generalize grownCap w n 0 5 = G at *
    have hG2 : G ≤ 9223372036854775807 := by unfold maxLen at hG63; omega
    have Hsz := hid hsz
    have HG := hid hG63
    clear hold hsz hG63
    go_enter Try.func55, Try.ntmps55
    go_wp2_with (at_builtin; refine Lib.wpList_append_run _ rfl _ _ _ _ rfl _ _ rfl rfl _ _ (hrz _) ?_)
    go_ret
    refine ⟨_, _, rfl, ?_, ((Keeps.refl No w).drew).alloc _⟩
    exact ⟨rfl, .inr ⟨w.heap.size, G, C, rfl, Nat.le_refl _, heap_alloc_new w.drew _, by omega, HG.out, by rw [Hsz.out]; omega, rfl⟩⟩

set_option maxRecDepth 20000 in
set_option maxHeartbeats 2000000 in
theorem concat_any (M : Blocks) (v : Value) (ls : List (List UInt8)) (w : World) (h : SL M w v ls) (hsm : ls.flatten.length ≤ 16777216) :
    Calls Try.prog 48 #[v] w (PClone (ls.flatten.map bv) w) := by
  obtain ⟨i0, hi, hz0, hz1, hz2⟩ := info_parts info5
  obtain ⟨a, n, c, rfl, hn, hnc, hcm⟩ := h.opened
  unfold maxLen at hcm
  have Hn := hid hn
  clear hn
  have Hsm := hid hsm
  clear hsm
  go_enter Try.func48, Try.ntmps48
  go_wp2
  go_loop [3, 11] (fun s i => ∃ k t : Nat, k ≤ n ∧ i = .int .i64 k ∧ s = .int .i64 t ∧ t ≤ 16777216 ∧ (ls.take k).flatten.length = t) (fun _ i => n - (intOf i).toNat)
  case atStart => exact ⟨0, 0, Nat.zero_le _, rfl, rfl, by omega, by simp⟩
  case round =>
    obtain ⟨k, t, hk, rfl, rfl, ht, hlen⟩ := hrel
    have Hlen := hid hlen
    clear hlen
    by_cases hlt : k < n
    · obtain ⟨b, off, rfl, _, hat⟩ := h.at_ (by omega)
      have hkl : k < ls.length := by have := Hn.out; omega
      obtain ⟨u, hcell, hub⟩ := hat k ls[k] (List.getElem?_eq_getElem hkl)
      clear hat
      obtain ⟨a2, n2, c2, rfl, hn2, hnc2, hcm2⟩ := hub.opened
      unfold maxLen at hcm2
      have hst := flat_succ hkl
      have hl2 : (ls.take (k + 1)).flatten.length = t + n2 := by rw [hst, List.length_append, Hlen.out, hn2]
      have Hl2 := hid hl2
      have hov : t + n2 ≤ 16777216 := by have := flat_le ls (k + 1); have := Hsm.out; omega
      clear hst hl2 hn2
      go_wp2
      go_round
      case rel => exact ⟨k + 1, t + n2, by omega, by go_num, by go_num, by omega, Hl2.out⟩
      case measure => simp [intOf]; omega
    · have hall : ls.take k = ls := List.take_of_length_le (by have := Hn.out; omega)
      have htot : ls.flatten.length = t := by have := Hlen.out; rwa [hall] at this
      have Htot := hid htot
      clear hall htot Hlen
      go_wp2_with fail
      refine (grow_any t _ ht).mono ?_
      rintro e w1 ⟨a1, c1, rfl, hown1, hk1⟩
      have Hown1 := hid hown1
      clear hown1
      go_wp2_with fail
      go_loopw [6, 27] (fun u i wr => ∃ (j r' : Nat) (a' : Option Addr) (c' : Nat), j ≤ n ∧ i = .int .i64 j ∧ r' ≤ 16777216 ∧ u = .slice a' r' c' ∧ wr.ownsRow w.heap.size 5 1 (.slice a' r' c') r' ((ls.take j).flatten.map bv) ∧ Keeps No w wr) (fun _ i _ => n - (intOf i).toNat)
      case atStart => exact ⟨0, 0, a1, c1, Nat.zero_le _, rfl, by omega, rfl, by simpa using Hown1.out, hk1⟩
      case round =>
        obtain ⟨j, r', a', c', hj, rfl, hr', rfl, hown, hK⟩ := hrel
        have hks := hK.size
        by_cases hjlt : j < n
        · have h2 := h.keep hK fun _ _ hk => hk.elim
          obtain ⟨b, off, rfl, _, hat⟩ := h2.at_ (by omega)
          have hjl : j < ls.length := by have := Hn.out; omega
          obtain ⟨u, hcell, hub⟩ := hat j ls[j] (List.getElem?_eq_getElem hjl)
          clear hat
          obtain ⟨a2, n2, c2, rfl, hn2, hnc2, hcm2⟩ := hub.opened
          unfold maxLen at hcm2
          have hst : (ls.take (j + 1)).flatten.map bv = (ls.take j).flatten.map bv ++ ls[j].map bv := by
            rw [flat_succ hjl, List.map_append]
          have hlm : (ls[j].map bv).length = n2 := by rw [List.length_map]; exact hn2.symm
          have hrl : r' = (ls.take j).flatten.length := by have := hown.1; rw [List.length_map] at this; omega
          have hbd : r' + n2 ≤ 16777216 := by
            have h1 := flat_le ls (j + 1)
            rw [flat_succ hjl, List.length_append] at h1
            have := Hsm.out
            omega
          have Hst := hid hst
          have Hlm := hid hlm
          clear hst hlm hn2 hrl
          have hone := one_bv ls[j]
          unfold SB at hub
          generalize (ls.take j).flatten.map bv = q at *
          generalize ls[j].map bv = p at *
          go_wp2_with (at_builtin; go_must (refine wpList_app _ rfl (.tmp 31) (.tmp 32) _ rfl w.heap.size 5 i0 _ 1 Try.underlying47 hi hz0 hz1 hz2 rfl _ _ _ rfl hown M _ p rfl hub hone (r' + n2) (by rw [Hlm.out]) (by unfold maxLen; omega) (by omega) hks ?_); intro a3 c3 w3 hown3 hg3 hat3)
          go_roundw
          case rel => exact ⟨j + 1, r' + n2, a3, c3, by omega, by go_num, by omega, rfl, by rw [Hst.out]; exact hown3, hK.app hown (Nat.le_refl _) hg3⟩
          case measure => simp [intOf]; omega
        · have hall : ls.take j = ls := List.take_of_length_le (by have := Hn.out; omega)
          rw [hall] at hown
          go_wp2_with fail
          go_ret
          exact ⟨_, _, _, rfl, hown, hK⟩

/-- Are two lists of bytes the same? A word that the walk does not open. -/
def eqB (l m : List UInt8) : Bool := decide (l = m)
theorem eqB_self (l : List UInt8) : eqB l l = true := by simp [eqB]
theorem eqB_iff {l m : List UInt8} : eqB l m = true ↔ l = m := by simp [eqB]

theorem u8_ne {x y : UInt8} : (((x.toNat : Nat) : Int) == ((y.toNat : Nat) : Int)) = decide (x = y) := by
  rw [Bool.eq_iff_iff, beq_iff_eq, decide_eq_true_iff, ← UInt8.toNat_inj]; omega

set_option maxHeartbeats 400000 in
theorem bytes_any (M M' : Blocks) (v v' : Value) (l m : List UInt8) (w : World) (h : SB M w v l) (h' : SB M' w v' m) :
    Calls Try.prog 37 #[v, v'] w fun e w' => e = .returned (.bool (eqB l m)) ∧ ∃ k, w' = w.drewN k := by
  obtain ⟨a, n, c, rfl, hn, hnc, hcm⟩ := h.opened
  obtain ⟨a2, n2, c2, rfl, hn2, hnc2, hcm2⟩ := h'.opened
  unfold maxLen at hcm hcm2
  have Hn := hid hn
  have Hn2 := hid hn2
  by_cases hne : n = n2
  · clear hn2
    subst hne
    clear hn
    go_enter Try.func37, Try.ntmps37
    go_wp2
    go_loopw [5] (fun i wr => ∃ k : Nat, k ≤ n ∧ i = .int .i64 k ∧ l.take k = m.take k ∧ ∃ j, wr = w.drewN j) (fun i _ => n - (intOf i).toNat)
    case atStart => exact ⟨0, Nat.zero_le _, rfl, by simp, 0, rfl⟩
    case round =>
      obtain ⟨k, hk, rfl, heq, j, rfl⟩ := hrel
      have Heq := hid heq
      clear heq
      by_cases hlt : k < n
      · obtain ⟨b, off, rfl, _, hat⟩ := h.at_ (by omega)
        obtain ⟨b2, off2, rfl, _, hat2⟩ := h'.at_ (by omega)
        have hkl : k < l.length := by have := Hn.out; omega
        have hkm : k < m.length := by have := Hn2.out; omega
        have hc1 := hat k l[k] (List.getElem?_eq_getElem hkl)
        have hc2 := hat2 k m[k] (List.getElem?_eq_getElem hkm)
        clear hat hat2
        have hst : l[k] = m[k] → l.take (k + 1) = m.take (k + 1) := by
          intro e
          rw [List.take_succ_eq_append_getElem hkl, List.take_succ_eq_append_getElem hkm, Heq.out, e]
        have Hst := hid hst
        have hno : l[k] ≠ m[k] → l ≠ m := by
          rintro e rfl; exact e rfl
        have Hno := hid hno
        clear hst hno
        have hxy := @u8_ne l[k] m[k]
        generalize l[k] = x at *
        generalize m[k] = y at *
        by_cases hxe : x = y
        · have ht : (((x.toNat : Nat) : Int) == ((y.toNat : Nat) : Int)) = true := by rw [hxy]; simp [hxe]
          have Hx := hid hxe
          clear hxy hxe
          go_wp2
          go_quiet (fail)
          go_wp2
          go_roundw
          case rel => exact ⟨k + 1, by omega, by go_num, Hst.out Hx.out, _, rfl⟩
          case measure => simp [intOf]; omega
        · have ht : (((x.toNat : Nat) : Int) == ((y.toNat : Nat) : Int)) = false := by rw [hxy]; simp [hxe]
          have Hx := hid hxe
          clear hxy hxe
          go_wp2
          go_quiet (fail)
          go_wp2
          go_ret
          exact ⟨ret_bool (by rw [Bool.eq_iff_iff, eqB_iff]; simp [Hno.out Hx.out]), _, World.drewN_drewN _ _ _⟩
      · have hke : k = n := by omega
        subst hke
        go_wp2
        go_ret
        refine ⟨ret_bool ?_, _, rfl⟩
        have := Heq.out
        rw [List.take_of_length_le (by have := Hn.out; omega), List.take_of_length_le (by have := Hn2.out; omega)] at this
        rw [this, eqB_self]
  · have hd : ((n : Int) == (n2 : Int)) = false := by rw [beq_eq_false_iff_ne]; omega
    have hlm : eqB l m = false := by
      rw [← Bool.not_eq_true, eqB_iff]
      rintro rfl; omega
    have Hlm := hid hlm
    clear hlm hn hn2 hne
    go_enter Try.func37, Try.ntmps37
    go_wp2
    go_ret
    exact ⟨ret_bool Hlm.out.symm, 0, rfl⟩
end Go.Proofs.Ytdkmfppdiggpfaa
