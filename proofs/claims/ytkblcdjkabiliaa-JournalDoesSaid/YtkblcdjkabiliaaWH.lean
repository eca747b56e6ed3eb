/- The walks through frame.Make and the reference's Make. -/
import Derived.Test.YtkblcdjkabiliaaWG
namespace Go.Proofs.Ytkblcdjkabiliaa
open Go.RowKit Wm

theorem flat_succ {ls : List (List UInt8)} {k : Nat} (hk : k < ls.length) : (ls.take (k + 1)).flatten = (ls.take k).flatten ++ ls[k] := by
  rw [List.take_succ_eq_append_getElem hk, List.flatten_append, List.flatten_singleton]
theorem flat_le (ls : List (List UInt8)) (k : Nat) : (ls.take k).flatten.length ≤ ls.flatten.length := by
  have h : ls.flatten = (ls.take k).flatten ++ (ls.drop k).flatten := by rw [← List.flatten_append, List.take_append_drop]
  have := congrArg List.length h
  rw [List.length_append] at this
  omega

/-- Nothing, and an error. -/
def PErr (x : Int) (w : World) (e : Ending) (w' : World) : Prop := e = .returned (.tuple #[.slice none 0 0, .int .i64 x]) ∧ Keeps No w w'

set_option maxRecDepth 20000 in
set_option maxHeartbeats 1000000 in
theorem make_err (M : Blocks) (v : Value) (ls : List (List UInt8)) (w : World) (h : SL M w v ls) (hbig : 32768 < ls.flatten.length) :
    Calls Try.prog 50 #[v] w (PErr 12 w) := by
  obtain ⟨a, n, c, rfl, hn, hnc, hcm⟩ := h.opened
  unfold maxLen at hcm
  have Hn := hid hn
  clear hn
  have Hbig := hid hbig
  clear hbig
  go_enter Try.func50, Try.ntmps50
  go_wp2
  go_loop [4, 13] (fun s i => ∃ k t : Nat, k ≤ n ∧ i = .int .i64 k ∧ s = .int .i64 t ∧ t ≤ 32768 ∧ (ls.take k).flatten.length = t) (fun _ i => n - (intOf i).toNat)
  case atStart => exact ⟨0, 0, Nat.zero_le _, rfl, rfl, by omega, by simp⟩
  case round =>
    obtain ⟨k, t, hk, rfl, rfl, ht, hlen⟩ := hrel
    have Hlen := hid hlen
    clear hlen
    by_cases hlt : k < n
    · obtain ⟨b, off, rfl, _, hat⟩ := h.at_ (by omega)
      have hkl : k < ls.length := by have := Hn.out; omega
      obtain ⟨u, hcell, hub⟩ := hat k ls[k] (List.getElem?_eq_getElem hkl)
      clear hat
      obtain ⟨a2, n2, c2, rfl, hn2, hnc2, hcm2⟩ := hub.opened
      unfold maxLen at hcm2
      have hst := flat_succ hkl
      have hl2 : (ls.take (k + 1)).flatten.length = t + n2 := by rw [hst, List.length_append, Hlen.out, hn2]
      have Hl2 := hid hl2
      clear hst hl2 hn2
      by_cases hov : n2 ≤ 32768 - t
      · go_wp2
        go_round
        case rel => exact ⟨k + 1, t + n2, by omega, by go_num, by go_num, by omega, Hl2.out⟩
        case measure => simp [intOf]; omega
      · go_wp2
        go_ret2
        exact ⟨rfl, Keeps.refl _ _⟩
    · exfalso
      have := Hlen.out
      rw [List.take_of_length_le (by have := Hn.out; omega)] at this
      have := Hbig.out
      omega

set_option maxRecDepth 20000 in
set_option maxHeartbeats 2000000 in
theorem make_ok (M : Blocks) (v : Value) (ls : List (List UInt8)) (w : World) (h : SL M w v ls) (hsm : ls.flatten.length ≤ 32768) :
    Calls Try.prog 50 #[v] w (POwn0 w.heap.size ((Wn.mkFrame ls.flatten).map bv) w) := by
  obtain ⟨i0, hi, hz0, hz1, hz2⟩ := info_parts info5
  obtain ⟨a, n, c, rfl, hn, hnc, hcm⟩ := h.opened
  unfold maxLen at hcm
  have Hn := hid hn
  clear hn
  have Hsm := hid hsm
  clear hsm
  go_enter Try.func50, Try.ntmps50
  go_wp2
  go_loop [4, 13] (fun s i => ∃ k t : Nat, k ≤ n ∧ i = .int .i64 k ∧ s = .int .i64 t ∧ t ≤ 32768 ∧ (ls.take k).flatten.length = t) (fun _ i => n - (intOf i).toNat)
  case atStart => exact ⟨0, 0, Nat.zero_le _, rfl, rfl, by omega, by simp⟩
  case round =>
    obtain ⟨k, t, hk, rfl, rfl, ht, hlen⟩ := hrel
    have Hlen := hid hlen
    clear hlen
    by_cases hlt : k < n
    · obtain ⟨b, off, rfl, _, hat⟩ := h.at_ (by omega)
      have hkl : k < ls.length := by have := Hn.out; omega
      obtain ⟨u, hcell, hub⟩ := hat k ls[k] (List.getElem?_eq_getElem hkl)
      clear hat
      obtain ⟨a2, n2, c2, rfl, hn2, hnc2, hcm2⟩ := hub.opened
      unfold maxLen at hcm2
      have hst := flat_succ hkl
      have hl2 : (ls.take (k + 1)).flatten.length = t + n2 := by rw [hst, List.length_append, Hlen.out, hn2]
      have Hl2 := hid hl2
      have hov : n2 ≤ 32768 - t := by have := flat_le ls (k + 1); have := Hsm.out; omega
      clear hst hl2 hn2
      go_wp2
      go_round
      case rel => exact ⟨k + 1, t + n2, by omega, by go_num, by go_num, by omega, Hl2.out⟩
      case measure => simp [intOf]; omega
    · have hall : ls.take k = ls := List.take_of_length_le (by have := Hn.out; omega)
      have htot : ls.flatten.length = t := by have := Hlen.out; rwa [hall] at this
      have Htot := hid htot
      clear hall htot Hlen
      go_wp2_with fail
      refine (put_any (Old w) _ (t : Int) _ (SV.newAt _ _ _ _ _ 1 1 _ rfl rfl (by omega) (by unfold maxLen; omega) rfl) (by omega)).mono ?_
      rintro e w1 ⟨a1, r1, c1, rfl, hown1, hk1⟩
      rw [Int.toNat_natCast, World.size_alloc] at hown1
      replace hown1 := ownsRow_base (base' := w.heap.size) hown1 (fun g hg => by have := (hown1.lt g hg).1; omega)
      have hK1 : Keeps No w w1 := ((Keeps.refl _ _).alloc _).then_ hk1
      have hr1 : r1 ≤ 8 := by
        have h1 := hown1.1
        rw [List.length_map] at h1
        have := vb_le (n := t) (by omega)
        omega
      have hr1' : r1 = (Wn.vb t).length := by have h1 := hown1.1; rw [List.length_map] at h1; omega
      have Hr1 := hid hr1'
      clear hr1' hk1
      have Hown1 := hid hown1
      go_wp2_with fail
      clear hown1
      go_loopw [7, 38] (fun u i wr => ∃ (j r' : Nat) (a' : Option Addr) (c' : Nat), j ≤ n ∧ i = .int .i64 j ∧ r' ≤ 40000 ∧ u = .slice a' r' c' ∧ wr.ownsRow w.heap.size 5 1 (.slice a' r' c') r' ((Wn.vb t).map bv ++ (ls.take j).flatten.map bv) ∧ Keeps No w wr) (fun _ i _ => n - (intOf i).toNat)
      case atStart => exact ⟨0, r1, a1, c1, Nat.zero_le _, rfl, by omega, rfl, by simpa using Hown1.out, hK1⟩
      case round =>
        obtain ⟨j, r', a', c', hj, rfl, hr', rfl, hown, hK⟩ := hrel
        have hks := hK.size
        by_cases hjlt : j < n
        · have h2 := h.keep hK fun _ _ hk => hk.elim
          obtain ⟨b, off, rfl, _, hat⟩ := h2.at_ (by omega)
          have hjl : j < ls.length := by have := Hn.out; omega
          obtain ⟨u, hcell, hub⟩ := hat j ls[j] (List.getElem?_eq_getElem hjl)
          clear hat
          obtain ⟨a2, n2, c2, rfl, hn2, hnc2, hcm2⟩ := hub.opened
          unfold maxLen at hcm2
          have hst : (Wn.vb t).map bv ++ (ls.take (j + 1)).flatten.map bv = ((Wn.vb t).map bv ++ (ls.take j).flatten.map bv) ++ ls[j].map bv := by
            rw [flat_succ hjl, List.map_append, List.append_assoc]
          have hlm : (ls[j].map bv).length = n2 := by rw [List.length_map]; exact hn2.symm
          have hrl : r' = (Wn.vb t).length + (ls.take j).flatten.length := by have := hown.1; rw [List.length_append, List.length_map, List.length_map] at this; omega
          have hbd : r' + n2 ≤ 32776 := by
            have h1 := flat_le ls (j + 1)
            rw [flat_succ hjl, List.length_append] at h1
            have := Htot.out
            have := Hr1.out
            omega
          have Hst := hid hst
          have Hlm := hid hlm
          clear hst hlm hn2 hrl
          have hone := one_bv ls[j]
          unfold SB at hub
          generalize (Wn.vb t).map bv ++ (ls.take j).flatten.map bv = q at *
          generalize ls[j].map bv = p at *
          go_wp2_with (at_builtin; go_must (refine wpList_app _ rfl (.tmp 42) (.tmp 43) _ rfl w.heap.size 5 i0 _ 1 Try.underlying24 hi hz0 hz1 hz2 rfl _ _ _ rfl hown M _ p rfl hub hone (r' + n2) (by rw [Hlm.out]) (by unfold maxLen; omega) (by omega) hks ?_); intro a3 c3 w3 hown3 hg3 hat3)
          go_roundw
          case rel => exact ⟨j + 1, r' + n2, a3, c3, by omega, by go_num, by omega, rfl, by rw [Hst.out]; exact hown3, hK.app hown (Nat.le_refl _) hg3⟩
          case measure => simp [intOf]; omega
        · have hall : ls.take j = ls := List.take_of_length_le (by have := Hn.out; omega)
          rw [hall, ← List.map_append] at hown
          have hhd : Wn.vb t ++ ls.flatten = Wn.hdFrame ls.flatten := by unfold Wn.hdFrame; rw [Htot.out]
          rw [hhd] at hown
          have hmk : Wn.mkFrame ls.flatten = Wn.hdFrame ls.flatten ++ Wn.le4 (Wn.crc (Wn.hdFrame ls.flatten)) := rfl
          have Hmk := hid hmk
          clear hall hhd hmk
          have hcl := Wn.crc_lt (Wn.hdFrame ls.flatten)
          have hv : SB No wr (.slice a' r' c') (Wn.hdFrame ls.flatten) := SV.of_own hown (fun _ _ hk => hk)
          go_wp2_with fail
          refine (sum_any No _ [Wn.hdFrame ls.flatten] _ (SL.one_new hv)).mono ?_
          rintro e w2 ⟨rfl, rfl⟩
          simp only [List.flatten_singleton]
          generalize Wn.crc (Wn.hdFrame ls.flatten) = cs at *
          go_wp2_with fail
          refine (tail_any _ _ hcl).mono ?_
          rintro e w3 ⟨v3, rfl, ht3, hk3⟩
          obtain ⟨a4, n4, c4, rfl, hn4, -, -⟩ := ht3.opened
          rw [Wn.le4_length] at hn4
          subst hn4
          have hown2 := ownsRow_keep (hown.alloc _) hk3 fun _ _ hk => hk
          have hl4 : ((Wn.le4 cs).map bv).length = 4 := by rw [List.length_map, Wn.le4_length]
          have Hl4 := hid hl4
          clear hl4
          have hs3 : w.heap.size ≤ w3.heap.size := by have := hk3.size; simp at this; omega
          go_wp2_with (at_builtin; go_must (refine wpList_app _ rfl (.tmp 46) (.tmp 50) _ rfl w.heap.size 5 i0 _ 1 Try.underlying24 hi hz0 hz1 hz2 rfl _ _ _ rfl hown2 _ _ _ rfl ht3 (one_bv _) (r' + 4) (by rw [Hl4.out]) (by unfold maxLen; omega) (by omega) hs3 ?_); intro a5 c5 w5 hown5 hg5 hat5)
          go_ret2
          refine ⟨_, _, _, rfl, ?_, ((hK.alloc _).then_ hk3).app hown2 (Nat.le_refl _) hg5⟩
          rw [Hmk.out, List.map_append]
          exact hown5

set_option maxRecDepth 20000 in
set_option maxHeartbeats 2000000 in
theorem rmake_any (M : Blocks) (v : Value) (l : List UInt8) (w : World) (h : SB M w v l) (hsm : l.length ≤ 32768) :
    Calls Try.prog 51 #[v] w (PNew ((Wn.mkFrame l).map bv) w) := by
  obtain ⟨i0, hi, hz0, hz1, hz2⟩ := info_parts info5
  obtain ⟨a, n, c, rfl, hn, hnc, hcm⟩ := h.opened
  unfold maxLen at hcm
  have Hn := hid hn
  have hn32 : n ≤ 32768 := by omega
  have hvl := vb_le (n := n) (by omega)
  clear hn
  go_enter Try.func51, Try.ntmps51
  go_wp2_with fail
  refine (rvb_any 7 n _ (Nat.lt_of_le_of_lt hn32 (by decide)) (by omega)).mono ?_
  rintro e w1 ⟨a1, r1, c1, rfl, hown1, hk1⟩
  have h1 : SB M w1 (.slice a n c) l := SV.keep h hk1 fun _ _ hk => hk.elim
  have hr1 : r1 ≤ 8 := by have := hown1.1; rw [List.length_map] at this; omega
  have hlm : (l.map bv).length = n := by rw [List.length_map]; exact Hn.out.symm
  have Hlm := hid hlm
  clear hlm
  go_wp2_with (at_builtin; go_must (refine wpList_app _ rfl (.tmp 7) (.tmp 8) _ rfl w.heap.size 5 i0 _ 1 Try.underlying24 hi hz0 hz1 hz2 rfl _ _ _ rfl hown1 M _ (l.map bv) rfl h1 (one_bv _) (r1 + n) (by rw [Hlm.out]) (by unfold maxLen; omega) (by omega) hk1.size ?_); intro a2 c2 w2 hown2 hg2 hat2)
  have hK2 : Keeps No w w2 := hk1.app hown1 (Nat.le_refl _) hg2
  rw [← List.map_append] at hown2
  have hhd : Wn.vb n ++ l = Wn.hdFrame l := by unfold Wn.hdFrame; rw [← Hn.out]
  rw [hhd] at hown2
  have hmk : Wn.mkFrame l = Wn.hdFrame l ++ Wn.le4 (Wn.crc (Wn.hdFrame l)) := rfl
  have Hmk := hid hmk
  clear hhd hmk
  have hcl := Wn.crc_lt (Wn.hdFrame l)
  have hv : SB No w2 (.slice a2 (r1 + n) c2) (Wn.hdFrame l) := SV.of_own hown2 (fun _ _ hk => hk)
  refine (rsum_any No _ (Wn.hdFrame l) _ hv).mono ?_
  rintro e w3 ⟨rfl, rfl⟩
  generalize Wn.crc (Wn.hdFrame l) = cs at *
  go_wp2_with fail
  refine (rtail_any _ _ hcl).mono ?_
  rintro e w3 ⟨v3, rfl, ht3, hk3⟩
  obtain ⟨a4, n4, c4, rfl, hn4, -, -⟩ := ht3.opened
  rw [Wn.le4_length] at hn4
  subst hn4
  have hown3 := ownsRow_keep hown2 hk3 fun _ _ hk => hk
  have hl4 : ((Wn.le4 cs).map bv).length = 4 := by rw [List.length_map, Wn.le4_length]
  have Hl4 := hid hl4
  clear hl4
  have hs3 : w.heap.size ≤ w3.heap.size := by have := hk3.size; have := hK2.size; omega
  go_wp2_with (at_builtin; go_must (refine wpList_app _ rfl (.tmp 10) (.tmp 13) _ rfl w.heap.size 5 i0 _ 1 Try.underlying24 hi hz0 hz1 hz2 rfl _ _ _ rfl hown3 _ _ _ rfl ht3 (one_bv _) (r1 + n + 4) (by rw [Hl4.out]) (by unfold maxLen; omega) (by omega) hs3 ?_); intro a5 c5 w5 hown5 hg5 hat5)
  go_ret
  refine ⟨_, _, _, rfl, ?_, (hK2.then_ hk3).app hown3 (Nat.le_refl _) hg5⟩
  rw [Hmk.out, List.map_append]
  exact hown5
end Go.Proofs.Ytkblcdjkabiliaa
