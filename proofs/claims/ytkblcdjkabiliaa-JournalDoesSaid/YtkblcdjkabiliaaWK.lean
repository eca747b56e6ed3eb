/- The walks through frame.Next, frame.Open and the reference's. -/
import Derived.Test.YtkblcdjkabiliaaWJ
import Derived.Test.YtkblcdjkabiliaaWH
namespace Go.Proofs.Ytkblcdjkabiliaa
open Go.RowKit Wm

theorem rdNum_bd (b : List UInt8) : (Wn.rdNum b).1 ≤ 281474976710656 ∧ (Wn.rdNum b).2.1 ≤ 8 ∧ (Wn.rdNum b).2.1 ≤ b.length ∧ (Wn.rdNum b).2.2 ≤ 11 ∧ ((Wn.rdNum b).2.2 = 0 → 1 ≤ (Wn.rdNum b).2.1) := by
  have h1 := cl_le 8 b
  unfold Wn.rdNum
  split
  · simp
  · split
    · simp
    · split
      · simp
      · rename_i g1 g2 g3
        refine ⟨?_, by simp; omega, by simp; omega, by simp, by simp⟩
        simp at g3; simp; omega

theorem wholeB_eq (b : List UInt8) : wholeB b = Wn.whole b := rfl

/-- What frame.Next leaves; the load lies in new memory. -/
def PNext (b : List UInt8) (w : World) (e : Ending) (w' : World) : Prop :=
  ∃ r, e = .returned (.tuple #[r, .int .i64 ((Wn.rdFrame b).2.1 : Int), .int .i64 ((Wn.rdFrame b).2.2 : Int)]) ∧ SB (Old w) w' r (Wn.rdFrame b).1 ∧ Keeps No w w'
/-- What the reference's Next leaves; the load lies where b does. -/
def PRNext (M : Blocks) (b : List UInt8) (w : World) (e : Ending) (w' : World) : Prop :=
  ∃ r, e = .returned (.tuple #[r, .int .i64 ((Wn.rdFrame b).2.1 : Int), .int .i64 ((Wn.rdFrame b).2.2 : Int)]) ∧ SB M w' r (Wn.rdFrame b).1 ∧ Keeps No w w'

set_option maxRecDepth 20000 in
set_option maxHeartbeats 2000000 in
theorem next_any (M : Blocks) (v : Value) (b : List UInt8) (w : World) (h : SB M w v b) (hsz : b.length ≤ 16777216) :
    Calls Try.prog 54 #[v] w (PNext b w) := by
  obtain ⟨a, n, c, rfl, hn, hnc, hcm⟩ := h.opened
  unfold maxLen at hcm
  have hn24 : n ≤ 16777216 := by omega
  have Hn := hid hn
  clear hn
  have hbd := rdNum_bd b
  have Hfr := hid (show Wn.rdFrame b = _ by unfold Wn.rdFrame; rfl)
  go_enter Try.func54, Try.ntmps54
  go_wp2_with fail
  refine (rnew_any M _ b _ h hsz).mono ?_
  rintro e w1 ⟨p, rfl, hp, hr1, hkk1⟩
  go_wp2_with fail
  refine (rnumber_any p b _ hr1).mono ?_
  rintro e w2 ⟨rfl, hr2, hk2⟩
  have hK2 : Keeps No w w2 := hkk1.trans hk2 fun k hk hO => by unfold Only at hO; omega
  obtain ⟨q, hq⟩ : ∃ q, Wn.rdNum b = q := ⟨_, rfl⟩
  rw [hq] at hbd hr2 Hfr ⊢
  obtain ⟨m, k, x⟩ := q
  simp only at hbd hr2 Hfr ⊢
  obtain ⟨hm48, hk8, hkl, hx11, hk1⟩ := hbd
  have Hk1 := hid hk1
  have Hq := hid hq
  have hkn : k ≤ n := by have := Hn.out; omega
  clear hq hr1 hk1 hkk1 hk2
  go_wp2_with fail
  refine (rerror_any p _ _ _ hr2).mono ?_
  rintro e w3 ⟨rfl, rfl⟩
  by_cases hx : x = 0
  · subst hx
    rw [if_neg (by simp)] at Hfr
    by_cases hbig : 32768 < m
    · rw [if_pos hbig] at Hfr
      go_wp2_with fail
      go_ret3
      unfold PNext
      rw [Hfr.out]
      exact ⟨_, rfl, SV.nil_ _ _ _ _ (Nat.zero_le _), hK2⟩
    · rw [if_neg hbig] at Hfr
      go_wp2_with fail
      refine (rlefts_any p _ _ _ hr2).mono ?_
      rintro e w3 ⟨rfl, rfl⟩
      have hdl : (b.drop k).length = n - k := by rw [List.length_drop]; have := Hn.out; omega
      rw [hdl]
      obtain ⟨r, hr⟩ : ∃ r, n = k + r := ⟨n - k, by omega⟩
      have hrr : n - k = r := by omega
      have Hr := hid hr
      rw [hrr] at hdl ⊢
      have Hdl := hid hdl
      clear hdl hrr hr
      by_cases hshort : r < m + 4
      · rw [if_pos (by have := Hn.out; have := Hr.out; omega)] at Hfr
        go_wp2_with fail
        go_ret3
        unfold PNext
        rw [Hfr.out]
        exact ⟨_, rfl, SV.nil_ _ _ _ _ (Nat.zero_le _), hK2⟩
      · rw [if_neg (by have := Hn.out; have := Hr.out; omega)] at Hfr
        go_wp2_with fail
        refine (rlefts_any p _ _ _ hr2).mono ?_
        rintro e w3 ⟨rfl, rfl⟩
        rw [Hdl.out]
        have h2 : SB M w2 (.slice a n c) b := SV.keep h hK2 fun _ _ hk => hk.elim
        have hend : k + m + 4 ≤ n := by have := Hr.out; omega
        have hsub : (n : Int) - (r : Int) = (k : Int) := by have := Hr.out; omega
        have htk : SB M w2 (.slice a (k + m + 4) c) (b.take (k + m + 4)) := by
          have := SV.take h2 hend
          rw [← List.map_take] at this; exact this
        have Htk := hid htk
        have hc4 : k + m + 4 ≤ c := by omega
        clear htk
        have hkp : 1 ≤ k := by first | exact Hk1.out trivial | exact Hk1.out rfl
        go_wp2_with fail
        refine (whole_any M _ _ _ Htk.out (by rw [List.length_take]; omega)).mono ?_
        rintro e w3 ⟨r3, rfl, ht3, hk3⟩
        have hl4 : (b.take (k + m + 4)).length - 4 = k + m := by rw [List.length_take]; have := Hn.out; omega
        rw [wholeB_eq] at *
        by_cases hw : Wn.whole (b.take (k + m + 4)) = true
        · rw [if_neg (by rw [hw]; simp)] at Hfr
          rw [if_pos hw, hl4, List.take_take, Nat.min_eq_left (by omega)] at ht3
          rw [hw]
          clear hw hl4 Htk
          obtain ⟨a3, n3, c3, rfl, hn3, hnc3, hcm3⟩ := ht3.opened
          unfold maxLen at hcm3
          have hn3' : n3 = k + m := by rw [List.length_take] at hn3; have := Hn.out; omega
          subst hn3'
          clear hn3
          obtain ⟨b3, off3, rfl, hb3, -⟩ := ht3.at_ (by omega)
          have hload : (b.take (k + m)).drop k = (b.drop k).take m := by rw [List.drop_take]; congr 1; omega
          have hd1 : SB (Old w2) w3 (.slice (some ⟨b3, off3 + k, none⟩) m (c3 - k)) ((b.drop k).take m) := by
            have := SV.drop ht3 (k := k) (by omega) (a' := some ⟨b3, off3 + k, none⟩) (fun _ b off e => by cases e; rfl)
            rw [← List.map_drop, hload, show k + m - k = m by omega] at this; exact this
          have hd2 : c3 = k → SB (Old w2) w3 (.slice (some ⟨b3, off3, none⟩) 0 0) ((b.drop k).take m) := by
            intro hc
            have : m = 0 := by omega
            rw [this, List.take_zero]
            exact SV.nil_ _ _ _ _ (Nat.zero_le _)
          have Hd1 := hid hd1
          have Hd2 := hid hd2
          clear hd1 hd2 hload
          by_cases hcap : c3 = k
          · have hd := Hd2.out hcap
            obtain rfl : m = 0 := by omega
            subst hcap
            go_wp2_with fail
            go_ret3
            unfold PNext
            rw [Hfr.out]
            exact ⟨_, rfl, hd.mono fun k hk hO => by unfold Old at *; have := hK2.size; omega, hK2.then_ hk3⟩
          · go_wp2_with fail
            go_ret3
            unfold PNext
            rw [Hfr.out]
            exact ⟨_, rfl, Hd1.out.mono fun k hk hO => by unfold Old at *; have := hK2.size; omega, hK2.then_ hk3⟩
        · have hwf : Wn.whole (b.take (k + m + 4)) = false := by simpa using hw
          rw [if_pos hwf] at Hfr
          rw [hwf]
          obtain ⟨a3, n3, c3, rfl, hn3, hnc3, hcm3⟩ := ht3.opened
          clear hw hwf ht3 hn3 hl4 Htk
          go_wp2_with fail
          go_ret3
          unfold PNext
          rw [Hfr.out]
          exact ⟨_, rfl, SV.nil_ _ _ _ _ (Nat.zero_le _), hK2.then_ hk3⟩
  · rw [if_pos (by simpa using hx)] at Hfr
    have hxb : (((x : Nat) : Int) != 0) = true := by rw [bne_iff_ne]; omega
    clear hx
    go_wp2_with fail
    refine (rerror_any p _ _ _ hr2).mono ?_
    rintro e w3 ⟨rfl, rfl⟩
    go_wp2_with fail
    go_ret3
    unfold PNext
    rw [Hfr.out]
    exact ⟨_, rfl, SV.nil_ _ _ _ _ (Nat.zero_le _), hK2⟩

set_option maxRecDepth 20000 in
set_option maxHeartbeats 2000000 in
theorem rnext_any (M : Blocks) (v : Value) (b : List UInt8) (w : World) (h : SB M w v b) (hsz : b.length ≤ 16777216) :
    Calls Try.prog 55 #[v] w (PRNext M b w) := by
  obtain ⟨a, n, c, rfl, hn, hnc, hcm⟩ := h.opened
  unfold maxLen at hcm
  have hn24 : n ≤ 16777216 := by omega
  have Hn := hid hn
  clear hn
  have hbd := rdNum_bd b
  have Hfr := hid (show Wn.rdFrame b = _ by unfold Wn.rdFrame; rfl)
  go_enter Try.func55, Try.ntmps55
  go_wp2_with fail
  refine (rrnum_any M _ b _ h).mono ?_
  rintro e w1 ⟨rfl, rfl⟩
  obtain ⟨q, hq⟩ : ∃ q, Wn.rdNum b = q := ⟨_, rfl⟩
  rw [hq] at hbd Hfr ⊢
  obtain ⟨m, k, x⟩ := q
  simp only at hbd Hfr ⊢
  obtain ⟨hm48, hk8, hkl, hx11, hk1⟩ := hbd
  have Hk1 := hid hk1
  have Hq := hid hq
  have hkn : k ≤ n := by have := Hn.out; omega
  clear hq hk1
  by_cases hx : x = 0
  · subst hx
    rw [if_neg (by simp)] at Hfr
    by_cases hbig : 32768 < m
    · rw [if_pos hbig] at Hfr
      go_wp2_with fail
      go_ret3
      unfold PRNext
      rw [Hfr.out]
      exact ⟨_, rfl, SV.nil_ _ _ _ _ (Nat.zero_le _), Keeps.refl _ _⟩
    · rw [if_neg hbig] at Hfr
      by_cases hshort : n < k + m + 4
      · rw [if_pos (by have := Hn.out; omega)] at Hfr
        go_wp2_with fail
        go_ret3
        unfold PRNext
        rw [Hfr.out]
        exact ⟨_, rfl, SV.nil_ _ _ _ _ (Nat.zero_le _), Keeps.refl _ _⟩
      · rw [if_neg (by have := Hn.out; omega)] at Hfr
        have hend : k + m + 4 ≤ n := by omega
        have htk : SB M w (.slice a (k + m + 4) c) (b.take (k + m + 4)) := by
          have := SV.take h hend
          rw [← List.map_take] at this; exact this
        have Htk := hid htk
        have hc4 : k + m + 4 ≤ c := by omega
        have hwn : wholeN (b.take (k + m + 4)) = if Wn.whole (b.take (k + m + 4)) = true then ((k + m : Nat) : Int) else -1 := by
          unfold wholeN
          rw [wholeB_eq, show (b.take (k + m + 4)).length - 4 = k + m by rw [List.length_take]; have := Hn.out; omega]
        have Hwn := hid hwn
        clear htk hwn
        go_wp2_with fail
        refine (rwhole_any M _ _ _ Htk.out).mono ?_
        rintro e w3 ⟨rfl, hk3⟩
        rw [Hwn.out]
        by_cases hw : Wn.whole (b.take (k + m + 4)) = true
        · rw [if_neg (by rw [hw]; simp)] at Hfr
          rw [if_pos hw]
          have h3 : SB M w3 (.slice a n c) b := SV.keep h hk3 fun _ _ hk => hk.elim
          obtain ⟨b3, off3, rfl, hb3, -⟩ := h3.at_ (by omega)
          have hload : (b.take (k + m)).drop k = (b.drop k).take m := by rw [List.drop_take]; congr 1; omega
          have hd1 : SB M w3 (.slice (some ⟨b3, off3 + k, none⟩) (k + m - k) (c - k)) ((b.drop k).take m) := by
            have h4 := SV.take h3 (k := k + m) (by omega)
            have := SV.drop h4 (k := k) (by omega) (a' := some ⟨b3, off3 + k, none⟩) (fun _ b off e => by cases e; rfl)
            rw [← List.map_take, ← List.map_drop, hload] at this; exact this
          have Hd1 := hid hd1
          have hck : ¬ c = k := by omega
          clear hd1 hload hw
          go_wp2_with fail
          go_ret3
          unfold PRNext
          rw [Hfr.out]
          exact ⟨_, rfl, Hd1.out, hk3⟩
        · have hwf : Wn.whole (b.take (k + m + 4)) = false := by simpa using hw
          rw [if_pos hwf] at Hfr
          rw [if_neg hw]
          clear hw hwf Htk
          go_wp2_with fail
          go_ret3
          unfold PRNext
          rw [Hfr.out]
          exact ⟨_, rfl, SV.nil_ _ _ _ _ (Nat.zero_le _), hk3⟩
  · rw [if_pos (by simpa using hx)] at Hfr
    have hxb : (((x : Nat) : Int) != 0) = true := by rw [bne_iff_ne]; omega
    clear hx
    go_wp2_with fail
    go_ret3
    unfold PRNext
    rw [Hfr.out]
    exact ⟨_, rfl, SV.nil_ _ _ _ _ (Nat.zero_le _), Keeps.refl _ _⟩

/-- What frame.Open leaves. -/
def POpen (b : List UInt8) (w : World) (e : Ending) (w' : World) : Prop :=
  ∃ r, e = .returned (.tuple #[r, .int .i64 ((Wn.opFrame b).2 : Int)]) ∧ SB (Old w) w' r (Wn.opFrame b).1 ∧ Keeps No w w'
def PROpen (M : Blocks) (b : List UInt8) (w : World) (e : Ending) (w' : World) : Prop :=
  ∃ r, e = .returned (.tuple #[r, .int .i64 ((Wn.opFrame b).2 : Int)]) ∧ SB M w' r (Wn.opFrame b).1 ∧ Keeps No w w'

set_option maxRecDepth 20000 in
set_option maxHeartbeats 2000000 in
theorem open_any (M : Blocks) (v : Value) (b : List UInt8) (w : World) (h : SB M w v b) (hsz : b.length ≤ 16777216) :
    Calls Try.prog 52 #[v] w (POpen b w) := by
  obtain ⟨a, n, c, rfl, hn, hnc, hcm⟩ := h.opened
  unfold maxLen at hcm
  have Hn := hid hn
  clear hn
  have Hop := hid (show Wn.opFrame b = _ by unfold Wn.opFrame; rfl)
  go_enter Try.func52, Try.ntmps52
  go_wp2_with fail
  refine (next_any M _ b _ h hsz).mono ?_
  rintro e w1 ⟨r, rfl, hr, hk⟩
  obtain ⟨a1, n1, c1, rfl, -, -, -⟩ := hr.opened
  obtain ⟨q, hq⟩ : ∃ q, Wn.rdFrame b = q := ⟨_, rfl⟩
  rw [hq] at hr Hop ⊢
  obtain ⟨ld, m, x⟩ := q
  simp only at hr Hop ⊢
  clear hq
  by_cases hx : x = 0
  · subst hx
    by_cases hm : m < n
    · rw [if_pos ⟨rfl, by rw [← Hn.out]; exact hm⟩] at Hop
      go_wp2_with fail
      go_ret2
      unfold POpen
      rw [Hop.out]
      exact ⟨_, rfl, SV.nil_ _ _ _ _ (Nat.zero_le _), hk⟩
    · rw [if_neg (by rw [← Hn.out]; rintro ⟨_, h⟩; exact hm h)] at Hop
      go_wp2_with fail
      go_ret2
      unfold POpen
      rw [Hop.out]
      exact ⟨_, rfl, hr, hk⟩
  · rw [if_neg (by rintro ⟨h, _⟩; exact hx h)] at Hop
    have hxb : (((x : Nat) : Int) == 0) = false := by rw [beq_eq_false_iff_ne]; omega
    clear hx
    go_wp2_with fail
    go_ret2
    unfold POpen
    rw [Hop.out]
    exact ⟨_, rfl, hr, hk⟩

set_option maxRecDepth 20000 in
set_option maxHeartbeats 2000000 in
theorem ropen_any (M : Blocks) (v : Value) (b : List UInt8) (w : World) (h : SB M w v b) (hsz : b.length ≤ 16777216) :
    Calls Try.prog 53 #[v] w (PROpen M b w) := by
  obtain ⟨a, n, c, rfl, hn, hnc, hcm⟩ := h.opened
  unfold maxLen at hcm
  have Hn := hid hn
  clear hn
  have Hop := hid (show Wn.opFrame b = _ by unfold Wn.opFrame; rfl)
  go_enter Try.func53, Try.ntmps53
  go_wp2_with fail
  refine (rnext_any M _ b _ h hsz).mono ?_
  rintro e w1 ⟨r, rfl, hr, hk⟩
  obtain ⟨a1, n1, c1, rfl, -, -, -⟩ := hr.opened
  obtain ⟨q, hq⟩ : ∃ q, Wn.rdFrame b = q := ⟨_, rfl⟩
  rw [hq] at hr Hop ⊢
  obtain ⟨ld, m, x⟩ := q
  simp only at hr Hop ⊢
  clear hq
  by_cases hx : x = 0
  · subst hx
    by_cases hm : m < n
    · rw [if_pos ⟨rfl, by rw [← Hn.out]; exact hm⟩] at Hop
      go_wp2_with fail
      go_ret2
      unfold PROpen
      rw [Hop.out]
      exact ⟨_, rfl, SV.nil_ _ _ _ _ (Nat.zero_le _), hk⟩
    · rw [if_neg (by rw [← Hn.out]; rintro ⟨_, h⟩; exact hm h)] at Hop
      go_wp2_with fail
      go_ret2
      unfold PROpen
      rw [Hop.out]
      exact ⟨_, rfl, hr, hk⟩
  · rw [if_neg (by rintro ⟨h, _⟩; exact hx h)] at Hop
    have hxb : (((x : Nat) : Int) == 0) = false := by rw [beq_eq_false_iff_ne]; omega
    clear hx
    go_wp2_with fail
    go_ret2
    unfold PROpen
    rw [Hop.out]
    exact ⟨_, rfl, hr, hk⟩
end Go.Proofs.Ytkblcdjkabiliaa
