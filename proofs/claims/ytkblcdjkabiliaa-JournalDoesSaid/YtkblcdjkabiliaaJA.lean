/- The walks through slices.Grow and slices.Concat of bytes. -/
import Derived.Test.YtkblcdjkabiliaaWV
import Derived.Lib.AppendZerosOnto
namespace Go.Proofs.Ytkblcdjkabiliaa
open Go.RowKit Wm

set_option maxRecDepth 20000 in
set_option maxHeartbeats 2000000 in
theorem grow_any (n : Nat) (w : World) (hn : n ≤ 16777216) : Calls Try.prog 71 #[.slice none 0 0, .int .i64 (n : Int)] w fun e w' => ∃ a c, e = .returned (.slice a 0 c) ∧ w'.ownsRow w.heap.size 5 1 (.slice a 0 c) 0 [] ∧ Keeps No w w' := by
  obtain ⟨i0, hi, hz0, hz1, hz2⟩ := info_parts info5
  rcases Nat.eq_zero_or_pos n with hz | hpos
  · subst hz
    go_enter Try.func71, Try.ntmps71
    go_wp2
    go_ret
    exact ⟨none, 0, rfl, World.ownsRow_nil _ _ _ _, Keeps.refl _ _⟩
  · have hold : (Builtin.firstCells i0.size 0 (.slice none 0 0)).run Try.prog w.drew = .ok ([] : List Value).toArray w.drew := run_firstCells_none w.drew i0.size 0 0 0
    have hrz : ∀ ty, (Builtin.append_ #[24, 3] ty #[.slice none 0 0, .int .i64 (n : Int)]).run Try.prog w =
        .ok (.slice (some ⟨w.heap.size, 0, none⟩) n (grownCap w n 0 5)) (w.drew.alloc (.cells (Builtin.zeroCells (Value.int IntKind.u8 0).cells n ++ Builtin.zeroCells (Value.int IntKind.u8 0).cells (grownCap w n 0 5 - n)) 5)) := fun ty => by
      have h := Lib.run_append_grow_zeros w 24 3 ty 5 i0 _ .i64 .i64 Try.underlying24 Try.underlying3 hi hz0 none 0 0 [] hold n hpos (by omega) (by omega) (by omega)
        (by rw [hz2]; omega) (by rw [Nat.zero_add]; exact growslice_fits (by omega) (by rw [hz2]; omega))
      simpa using h
    have hGn : n ≤ grownCap w n 0 5 := grownCap_ge w _ _ _
    have hG63 : grownCap w n 0 5 ≤ maxLen := grownCap_le_maxLen w n 0 5 (by unfold maxLen; omega)
    have hsz : (Builtin.zeroCells (Value.int IntKind.u8 0).cells n ++ Builtin.zeroCells (Value.int IntKind.u8 0).cells (grownCap w n 0 5 - n)).size = grownCap w n 0 5 := by
      simp [Builtin.zeroCells, Value.cells]; omega
    generalize (Builtin.zeroCells (Value.int IntKind.u8 0).cells n ++ Builtin.zeroCells (Value.int IntKind.u8 0).cells (grownCap w n 0 5 - n)) = C at *
    generalize grownCap w n 0 5 = G at *
    have hG2 : G ≤ 9223372036854775807 := by unfold maxLen at hG63; omega
    have Hsz := hid hsz
    have HG := hid hG63
    clear hold hsz hG63
    go_enter Try.func71, Try.ntmps71
    go_wp2_with (at_builtin; refine Lib.wpList_append_run _ rfl _ _ _ _ rfl _ _ rfl rfl _ _ (hrz _) ?_)
    go_ret
    refine ⟨_, _, rfl, ?_, ((Keeps.refl No w).drew).alloc _⟩
    exact ⟨rfl, .inr ⟨w.heap.size, G, C, rfl, Nat.le_refl _, heap_alloc_new w.drew _, by omega, HG.out, by rw [Hsz.out]; omega, rfl⟩⟩

set_option maxRecDepth 20000 in
set_option maxHeartbeats 2000000 in
theorem concat_any (M : Blocks) (v : Value) (ls : List (List UInt8)) (w : World) (h : SL M w v ls) (hsm : ls.flatten.length ≤ 16777216) :
    Calls Try.prog 58 #[v] w (PClone (ls.flatten.map bv) w) := by
  obtain ⟨i0, hi, hz0, hz1, hz2⟩ := info_parts info5
  obtain ⟨a, n, c, rfl, hn, hnc, hcm⟩ := h.opened
  unfold maxLen at hcm
  have Hn := hid hn
  clear hn
  have Hsm := hid hsm
  clear hsm
  go_enter Try.func58, Try.ntmps58
  go_wp2
  go_loop [3, 11] (fun s i => ∃ k t : Nat, k ≤ n ∧ i = .int .i64 k ∧ s = .int .i64 t ∧ t ≤ 16777216 ∧ (ls.take k).flatten.length = t) (fun _ i => n - (intOf i).toNat)
  case atStart => exact ⟨0, 0, Nat.zero_le _, rfl, rfl, by omega, by simp⟩
  case round =>
    obtain ⟨k, t, hk, rfl, rfl, ht, hlen⟩ := hrel
    have Hlen := hid hlen
    clear hlen
    by_cases hlt : k < n
    · obtain ⟨b, off, rfl, _, hat⟩ := h.at_ (by omega)
      have hkl : k < ls.length := by have := Hn.out; omega
      obtain ⟨u, hcell, hub⟩ := hat k ls[k] (List.getElem?_eq_getElem hkl)
      clear hat
      obtain ⟨a2, n2, c2, rfl, hn2, hnc2, hcm2⟩ := hub.opened
      unfold maxLen at hcm2
      have hst := flat_succ hkl
      have hl2 : (ls.take (k + 1)).flatten.length = t + n2 := by rw [hst, List.length_append, Hlen.out, hn2]
      have Hl2 := hid hl2
      have hov : t + n2 ≤ 16777216 := by have := flat_le ls (k + 1); have := Hsm.out; omega
      clear hst hl2 hn2
      go_wp2
      go_round
      case rel => exact ⟨k + 1, t + n2, by omega, by go_num, by go_num, by omega, Hl2.out⟩
      case measure => simp [intOf]; omega
    · have hall : ls.take k = ls := List.take_of_length_le (by have := Hn.out; omega)
      have htot : ls.flatten.length = t := by have := Hlen.out; rwa [hall] at this
      have Htot := hid htot
      clear hall htot Hlen
      go_wp2_with fail
      refine (grow_any t _ ht).mono ?_
      rintro e w1 ⟨a1, c1, rfl, hown1, hk1⟩
      have Hown1 := hid hown1
      clear hown1
      go_wp2_with fail
      go_loopw [6, 27] (fun u i wr => ∃ (j r' : Nat) (a' : Option Addr) (c' : Nat), j ≤ n ∧ i = .int .i64 j ∧ r' ≤ 16777216 ∧ u = .slice a' r' c' ∧ wr.ownsRow w.heap.size 5 1 (.slice a' r' c') r' ((ls.take j).flatten.map bv) ∧ Keeps No w wr) (fun _ i _ => n - (intOf i).toNat)
      case atStart => exact ⟨0, 0, a1, c1, Nat.zero_le _, rfl, by omega, rfl, by simpa using Hown1.out, hk1⟩
      case round =>
        obtain ⟨j, r', a', c', hj, rfl, hr', rfl, hown, hK⟩ := hrel
        have hks := hK.size
        by_cases hjlt : j < n
        · have h2 := h.keep hK fun _ _ hk => hk.elim
          obtain ⟨b, off, rfl, _, hat⟩ := h2.at_ (by omega)
          have hjl : j < ls.length := by have := Hn.out; omega
          obtain ⟨u, hcell, hub⟩ := hat j ls[j] (List.getElem?_eq_getElem hjl)
          clear hat
          obtain ⟨a2, n2, c2, rfl, hn2, hnc2, hcm2⟩ := hub.opened
          unfold maxLen at hcm2
          have hst : (ls.take (j + 1)).flatten.map bv = (ls.take j).flatten.map bv ++ ls[j].map bv := by
            rw [flat_succ hjl, List.map_append]
          have hlm : (ls[j].map bv).length = n2 := by rw [List.length_map]; exact hn2.symm
          have hrl : r' = (ls.take j).flatten.length := by have := hown.1; rw [List.length_map] at this; omega
          have hbd : r' + n2 ≤ 16777216 := by
            have h1 := flat_le ls (j + 1)
            rw [flat_succ hjl, List.length_append] at h1
            have := Hsm.out
            omega
          have Hst := hid hst
          have Hlm := hid hlm
          clear hst hlm hn2 hrl
          have hone := one_bv ls[j]
          unfold SB at hub
          generalize (ls.take j).flatten.map bv = q at *
          generalize ls[j].map bv = p at *
          go_wp2_with (at_builtin; go_must (refine wpList_app _ rfl (.tmp 31) (.tmp 32) _ rfl w.heap.size 5 i0 _ 1 Try.underlying24 hi hz0 hz1 hz2 rfl _ _ _ rfl hown M _ p rfl hub hone (r' + n2) (by rw [Hlm.out]) (by unfold maxLen; omega) (by omega) hks ?_); intro a3 c3 w3 hown3 hg3 hat3)
          go_roundw
          case rel => exact ⟨j + 1, r' + n2, a3, c3, by omega, by go_num, by omega, rfl, by rw [Hst.out]; exact hown3, hK.app hown (Nat.le_refl _) hg3⟩
          case measure => simp [intOf]; omega
        · have hall : ls.take j = ls := List.take_of_length_le (by have := Hn.out; omega)
          rw [hall] at hown
          go_wp2_with fail
          go_ret
          exact ⟨_, _, _, rfl, hown, hK⟩
end Go.Proofs.Ytkblcdjkabiliaa
