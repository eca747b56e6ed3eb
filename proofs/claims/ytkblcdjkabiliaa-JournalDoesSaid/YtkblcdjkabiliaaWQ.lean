/- The walks through the disk's Put. -/
import Derived.Test.YtkblcdjkabiliaaWP
namespace Go.Proofs.Ytkblcdjkabiliaa
open Go.RowKit Wm

theorem dput_down (p : Nat) (v : Value) (s : Wn.Dsk) (pv : Value) (ls : List (List UInt8)) (w : World) (h : DiskAt w p v s) (hd : s.down = true) :
    Calls Try.prog 40 #[.pointer (some ⟨p, 0, none⟩), pv] w (PDo p v (.int .i64 ((Wn.dPut s ls.flatten).1 : Int)) (Wn.dPut s ls.flatten).2 w) := by
  have hok := ok_any p v s w h
  have hf : Wn.dPut s ls.flatten = (42, s) := by unfold Wn.dPut; rw [if_pos hd]
  rw [okN_down hd] at hok
  rw [hf]
  have Hok := hid hok
  have H := hid h
  clear hok h hd hf
  go_enter Try.func40, Try.ntmps40
  go_wp2_with fail
  refine Hok.out.mono ?_
  rintro e w1 ⟨rfl, rfl⟩
  go_wp2_with fail
  go_ret
  exact ⟨rfl, DK.refl H.out⟩

set_option maxRecDepth 20000 in
set_option maxHeartbeats 2000000 in
theorem dput_full (p : Nat) (v : Value) (s : Wn.Dsk) (M : Blocks) (pv : Value) (ls : List (List UInt8)) (w : World) (h : DiskAt w p v s) (hl : SL M w pv ls) (hd : s.down = false) (hfull : s.size < s.b.length + ls.flatten.length) :
    Calls Try.prog 40 #[.pointer (some ⟨p, 0, none⟩), pv] w (PDo p v (.int .i64 ((Wn.dPut s ls.flatten).1 : Int)) (Wn.dPut s ls.flatten).2 w) := by
  have hok := ok_any p v s w h
  have hf : Wn.dPut s ls.flatten = (40, s) := by unfold Wn.dPut; rw [if_neg (by rw [hd]; simp), if_pos hfull]
  rw [okN_up hd] at hok
  rw [hf]
  obtain ⟨pa, pn, pc, rfl, hpn, hpnc, hpcm⟩ := hl.opened
  obtain ⟨a, n, c, x, rfl, hn, hnc, hcm, hp, hf, hc0, hc1, hc2, hc3, hc4, hc5, hc6, hc7, hx, hops, hw1, hw2, hw3⟩ := h.facts
  unfold maxLen at hcm hpcm
  have hns : n ≤ s.size := by omega
  rw [← hn] at hfull
  have Hok := hid hok
  have H := hid h
  have Hpn := hid hpn
  have Hfull := hid hfull
  clear hok h hd hf hn hx hc2 hc3 hc4 hc5 hc6 hc7 hw1 hw2 hpn hfull
  generalize hz : s.size = z at *
  have Hz := hid hz
  clear hz
  go_enter Try.func40, Try.ntmps40
  go_wp2_with fail
  refine Hok.out.mono ?_
  rintro e w1 ⟨rfl, rfl⟩
  go_wp2_with fail
  go_loopw [6, 18] (fun t i wr => ∃ k t0 q : Nat, k ≤ pn ∧ i = .int .i64 k ∧ t = .int .i64 t0 ∧ n + t0 ≤ z ∧ (ls.take k).flatten.length = t0 ∧ wr = w.drewN q) (fun _ i _ => pn - (intOf i).toNat)
  case atStart => exact ⟨0, 0, 0, Nat.zero_le _, rfl, rfl, by omega, by simp, (World.drewN_zero w).symm⟩
  case round =>
    obtain ⟨k, t0, q, hk, rfl, rfl, ht, hlen, rfl⟩ := hrel
    have Hlen := hid hlen
    clear hlen
    by_cases hlt : k < pn
    · have hl' : SL M (w.drewN q) (.slice pa pn pc) ls := hl
      obtain ⟨b, off, rfl, _, hat⟩ := hl'.at_ (by omega)
      have hkl : k < ls.length := by have := Hpn.out; omega
      obtain ⟨u, hcell, hub⟩ := hat k ls[k] (List.getElem?_eq_getElem hkl)
      clear hat
      obtain ⟨a2, n2, c2, rfl, hn2, hnc2, hcm2⟩ := hub.opened
      unfold maxLen at hcm2
      have hst := flat_succ hkl
      have hl2 : (ls.take (k + 1)).flatten.length = t0 + n2 := by rw [hst, List.length_append, Hlen.out, hn2]
      have Hl2 := hid hl2
      have hc0' : (w.drewN q).cell? ⟨p, 0, none⟩ = some (.slice a n c) := hc0
      have hc1' : (w.drewN q).cell? ⟨p, 1, none⟩ = some (.int .i64 z) := hc1
      clear hst hl2 hn2
      by_cases hov : n + t0 + n2 ≤ z
      · go_wp2_with fail
        go_quiet (fail)
        go_wp2
        go_roundw
        case rel => exact ⟨k + 1, t0 + n2, _, by omega, by go_num, by go_num, by omega, Hl2.out, rfl⟩
        case measure => simp [intOf]; omega
      · go_wp2_with fail
        go_quiet (fail)
        go_wp2
        go_ret
        exact ⟨rfl, DK.drewN (DK.drewN (DK.refl H.out) _) _⟩
    · exfalso
      have := Hlen.out
      rw [List.take_of_length_le (by have := Hpn.out; omega)] at this
      have := Hfull.out
      omega

theorem DK.trans' {p : Nat} {v v1 : Value} {s : Wn.Dsk} {w w1 w2 : World} (hk : Keeps (Foot p v) w w1) (hf : ∀ k, Foot p v1 k → Foot p v k ∨ w.heap.size ≤ k) (h : DK p v1 s w1 w2) : DK p v s w w2 := by
  obtain ⟨v2, h1, h2, h3⟩ := h
  refine ⟨v2, h1, hk.trans h2 fun k hl hk2 => ?_, fun k hk2 => ?_⟩
  · rcases hf k hk2 with h | h
    · exact h
    · omega
  · rcases h3 k hk2 with h | h
    · exact hf k h
    · exact .inr (Nat.le_trans hk.size h)

theorem DiskAt.grown {w w' : World} {p : Nat} {v : Value} {s : Wn.Dsk} {u : Value} (h : DiskAt w p v s) (hg : w.grownBy w' v.ownBlock) (hc : w.cell? ⟨p, 0, none⟩ = some u) (hf : w.frozen? ⟨p, 0, none⟩ = false) :
    w'.cell? ⟨p, 0, none⟩ = some u ∧ w'.frozen? ⟨p, 0, none⟩ = false := by
  have hp : p < w.heap.size := h.lt p (.inl rfl)
  obtain ⟨a, n, c, x, rfl, hh, ho, _⟩ := h
  have hb : w'.heap[p]? = w.heap[p]? := hg.block p hp fun e => own_ne hh (by decide) ho e.symm rfl
  exact ⟨(World.cell?_of_block (a := ⟨p, 0, none⟩) hb).trans hc, (World.frozen?_of_block (a := ⟨p, 0, none⟩) hb).trans hf⟩

def dIn (s : Wn.Dsk) (x : List UInt8) : Wn.Dsk := { s with b := s.b ++ x }
theorem dIn_b (s : Wn.Dsk) (x : List UInt8) : (dIn s x).b = s.b ++ x := rfl
theorem dIn_len (s : Wn.Dsk) (x : List UInt8) : (dIn s x).b.length = s.b.length + x.length := List.length_append
theorem dIn_dIn (s : Wn.Dsk) (x y : List UInt8) : dIn (dIn s x) y = dIn s (x ++ y) := by unfold dIn; simp
theorem dIn_nil (s : Wn.Dsk) : dIn s [] = s := by unfold dIn; simp
/-- Bytes put behind the disk's own. -/
theorem DiskAt.app {w w' : World} {p : Nat} {a0 : Option Addr} {n0 c0 : Nat} {s : Wn.Dsk} {a : Option Addr} {r c : Nat} {l : List UInt8} (h : DiskAt w p (.slice a0 n0 c0) s)
    (hown : w'.ownsRow 0 5 1 (.slice a r c) r (s.b.map bv ++ l.map bv)) (hg : w.grownBy w' (Value.slice a0 n0 c0).ownBlock)
    (hat : (Value.slice a r c).ownBlock = (Value.slice a0 n0 c0).ownBlock ∨ (Value.slice a r c).ownBlock = some w.heap.size) (hfit : s.b.length + l.length ≤ s.size) :
    DK p (.slice a0 n0 c0) (dIn s l) w (w'.setCell ⟨p, 0, none⟩ (.slice a r c)) := by
  have hp : p < w.heap.size := h.lt p (.inl rfl)
  have hwf := h.wf
  obtain ⟨_, _, _, x0, e, hh, ho, hx0, hops, _⟩ := h
  injection e with e1 e2 e3; subst e1; subst e2; subst e3
  have hne : ∀ g, (Value.slice a0 n0 c0).ownBlock = some g → g ≠ p := fun g hg => own_ne hh (by decide) ho hg
  have hh1 : w'.heap[p]? = _ := (hg.block p hp fun e => hne p e.symm rfl).trans hh
  have hne2 : ∀ g, (Value.slice a r c).ownBlock = some g → ¬ Only p g := by
    intro g hg2 e
    rcases hat with h1 | h1
    · exact hne g (h1 ▸ hg2) e
    · rw [h1] at hg2; injection hg2 with hg2; unfold Only at e; omega
  refine ⟨_, ⟨a, r, c, x0, rfl, ?_, ?_, hx0, hops, ?_⟩, ?_, ?_⟩
  · rw [heap_setCell_same w' p 0 _ 71 _ hh1]; rfl
  · have := ownsRow_keep hown ((Keeps.refl (Only p) w').only 0 (.slice a r c)) hne2
    rw [dIn_b, List.map_append]; exact this
  · unfold Wn.Dsk.wf at *; rw [dIn_len]; show s.sure ≤ _ ∧ _ ≤ s.size ∧ s.size ≤ _; omega
  · exact (Keeps.of_grown hg fun g hg => .inr hg).setCell (p := ⟨p, 0, none⟩) (fun _ => .inl rfl) _
  · rintro k (rfl | hk)
    · exact .inl (.inl rfl)
    · rcases hat with h1 | h1
      · exact .inl (.inr (h1 ▸ hk))
      · rw [h1] at hk; injection hk with hk; exact .inr (by omega)

theorem dput_plain {s : Wn.Dsk} {x : List UInt8} (hd : s.down = false) (hfit : s.b.length + x.length ≤ s.size) (g : Bool) (hg : Wn.dGone (dIn s x) = g) :
    Wn.dPut s x = (if g = true then 42 else 0, Wn.dOp (dIn s x)) := by
  have hg' : Wn.dGone s = g := hg
  unfold Wn.dPut
  rw [if_neg (by rw [hd]; simp), if_neg (by omega), hg']
  rfl

set_option maxRecDepth 20000 in
set_option maxHeartbeats 4000000 in
theorem dput_ok (p : Nat) (v : Value) (s : Wn.Dsk) (pv : Value) (ls : List (List UInt8)) (w : World) (h : DiskAt w p v s) (hl : SL (Foot p v) w pv ls) (hd : s.down = false) (hfit : s.b.length + ls.flatten.length ≤ s.size) :
    Calls Try.prog 40 #[.pointer (some ⟨p, 0, none⟩), pv] w (PDo p v (.int .i64 ((Wn.dPut s ls.flatten).1 : Int)) (Wn.dPut s ls.flatten).2 w) := by
  obtain ⟨i0, hi, hz0, hz1, hz2⟩ := info_parts info5
  have hok := ok_any p v s w h
  rw [okN_up hd] at hok
  obtain ⟨pa, pn, pc, rfl, hpn, hpnc, hpcm⟩ := hl.opened
  obtain ⟨a, n, c, x, rfl, hn, hnc, hcm, hp, hf, hc0, hc1, hc2, hc3, hc4, hc5, hc6, hc7, hx, hops, hw1, hw2, hw3⟩ := h.facts
  unfold maxLen at hcm hpcm
  have hns : n ≤ s.size := by omega
  have hplain := dput_plain (x := ls.flatten) hd hfit
  have hbn : n + ls.flatten.length ≤ s.size := by omega
  have Hok := hid hok
  have H := hid h
  have Hpn := hid hpn
  have Hfit := hid hbn
  have Hplain := hid hplain
  have Hd := hid hd
  have Hn := hid hn
  clear hok h hd hf hn hx hc2 hc3 hc4 hc5 hc6 hc7 hw1 hw2 hpn hfit hplain hbn
  generalize hz : s.size = z at *
  have Hz := hid hz
  clear hz
  go_enter Try.func40, Try.ntmps40
  go_wp2_with fail
  refine Hok.out.mono ?_
  rintro e w1 ⟨rfl, rfl⟩
  go_wp2_with fail
  go_loopw [6, 18] (fun t i wr => ∃ k t0 q : Nat, k ≤ pn ∧ i = .int .i64 k ∧ t = .int .i64 t0 ∧ n + t0 ≤ z ∧ (ls.take k).flatten.length = t0 ∧ wr = w.drewN q) (fun _ i _ => pn - (intOf i).toNat)
  case atStart => exact ⟨0, 0, 0, Nat.zero_le _, rfl, rfl, by omega, by simp, (World.drewN_zero w).symm⟩
  case round =>
    obtain ⟨k, t0, q, hk, rfl, rfl, ht, hlen, rfl⟩ := hrel
    have Hlen := hid hlen
    clear hlen
    by_cases hlt : k < pn
    · have hl' : SL (Foot p (.slice a n c)) (w.drewN q) (.slice pa pn pc) ls := hl
      obtain ⟨b, off, rfl, _, hat⟩ := hl'.at_ (by omega)
      have hkl : k < ls.length := by have := Hpn.out; omega
      obtain ⟨u, hcell, hub⟩ := hat k ls[k] (List.getElem?_eq_getElem hkl)
      clear hat
      obtain ⟨a2, n2, c2, rfl, hn2, hnc2, hcm2⟩ := hub.opened
      unfold maxLen at hcm2
      have hst := flat_succ hkl
      have hl2 : (ls.take (k + 1)).flatten.length = t0 + n2 := by rw [hst, List.length_append, Hlen.out, hn2]
      have hov : n + t0 + n2 ≤ z := by have := flat_le ls (k + 1); have := Hfit.out; omega
      have Hl2 := hid hl2
      have hc0' : (w.drewN q).cell? ⟨p, 0, none⟩ = some (.slice a n c) := hc0
      have hc1' : (w.drewN q).cell? ⟨p, 1, none⟩ = some (.int .i64 z) := hc1
      clear hst hl2 hn2
      go_wp2_with fail
      go_quiet (fail)
      go_wp2
      go_roundw
      case rel => exact ⟨k + 1, t0 + n2, _, by omega, by go_num, by go_num, by omega, Hl2.out, rfl⟩
      case measure => simp [intOf]; omega
    · have hke : k = pn := by omega
      subst hke
      have hW : DK p (.slice a n c) (dIn s (ls.take 0).flatten) w (w.drewN q) := by
        have : (ls.take 0).flatten = [] := rfl
        rw [this, dIn_nil]
        exact (DK.refl H.out).drewN q
      generalize w.drewN q = wq at *
      clear ht Hlen
      go_wp2_with fail
      clear hlt
      go_loopw [44] (fun i wr => ∃ j : Nat, j ≤ k ∧ i = .int .i64 j ∧ DK p (.slice a n c) (dIn s (ls.take j).flatten) w wr) (fun i _ => k - (intOf i).toNat)
      case atStart => exact ⟨0, Nat.zero_le _, rfl, hW⟩
      case round =>
        obtain ⟨j, hj, rfl, v1, h1, hk1, hf1⟩ := hrel
        obtain ⟨a1, n1, c1, x1, rfl, hn1, hnc1, hcm1, hp1, hfz, hd0, hd1, hd2, hd3, hd4, hd5, hd6, hd7, hx1, hops1, hy1, hy2, hy3⟩ := h1.facts
        have hfz0 := hfz 0
        have hown := h1.own
        have hn1z : n1 ≤ 1048576 := by omega
        rw [dIn_b] at hown
        rw [dIn_len] at hn1
        have Hn1 := hid hn1
        have Hx1 := hid hx1
        have H1 := hid h1
        unfold maxLen at hcm1
        clear hfz hd1 hd2 hd3 hd4 hd5 hd6 hd7 hx1 hops1 hy1 hy2 hy3 hn1 h1
        by_cases hlt : j < k
        · have hl' := hl.keep hk1 fun _ _ h => h
          obtain ⟨b, off, rfl, _, hat⟩ := hl'.at_ (by omega)
          have hkl : j < ls.length := by have := Hpn.out; omega
          obtain ⟨u, hcell, hub⟩ := hat j ls[j] (List.getElem?_eq_getElem hkl)
          clear hat
          obtain ⟨a2, n2, c2, rfl, hn2, hnc2, hcm2⟩ := hub.opened
          unfold maxLen at hcm2
          have hst := flat_succ hkl
          have hle := flat_le ls (j + 1)
          rw [hst, List.length_append] at hle
          have hn12 : n1 + n2 ≤ 1048576 := by
            have e1 := Hn1.out
            have := Hfit.out
            have := Hn.out
            omega
          have hfit1 : (dIn s (ls.take j).flatten).b.length + (ls[j]).length ≤ (dIn s (ls.take j).flatten).size := by
            rw [dIn_len]
            show _ ≤ s.size
            have := Hfit.out
            have := Hn.out
            have := Hz.out
            omega
          have Hst := hid hst
          have Hfit1 := hid hfit1
          have Hn2 := hid hn2
          clear hst hle hfit1 hn2
          generalize ls[j] = l at *
          go_wp2_with (at_builtin; go_must (refine wpList_app _ rfl (.tmp 52) (.tmp 53) _ rfl 0 5 i0 _ 1 Try.underlying24 hi hz0 hz1 hz2 rfl _ _ _ rfl hown (Foot p (.slice a n c)) _ (l.map bv) rfl hub (one_bv _) (n1 + n2) (by rw [List.length_map, Hn2.out]) (by unfold maxLen; omega) (by omega) (Nat.zero_le _) ?_); intro a3 c3 w3 hown3 hg3 hat3; obtain ⟨hd3, hz3⟩ := H1.out.grown hg3 hd0 hfz0)
          go_roundw
          case rel =>
            refine ⟨j + 1, by omega, by go_num, ?_⟩
            rw [← dIn_b] at hown3
            have hdk := H1.out.app hown3 hg3 hat3 Hfit1.out
            rw [dIn_dIn] at hdk
            rw [Hst.out]
            exact DK.trans' hk1 hf1 hdk
          case measure => simp [intOf]; omega
        · have hje : j = k := by omega
          subst hje
          have hall : ls.take j = ls := List.take_of_length_le (by have := Hpn.out; omega)
          rw [hall] at H1
          have hfa := fails_any p _ (dIn s ls.flatten) _ H1.out Hd.out
          have Hfa := hid hfa
          clear hall hfa Hn1 Hx1 hown
          cases hg : Wn.dGone (dIn s ls.flatten) with
          | true =>
            have hpl := Hplain.out true hg
            have Hpl := hid hpl
            have Hg := hid hg
            clear hpl hg
            go_wp2_with fail
            refine Hfa.out.mono ?_
            rintro e w2 ⟨rfl, hdk⟩
            rw [Hg.out]
            go_wp2_with fail
            go_ret
            rw [Hpl.out]
            exact ⟨rfl, DK.trans' hk1 hf1 hdk⟩
          | false =>
            have hpl := Hplain.out false hg
            have Hpl := hid hpl
            have Hg := hid hg
            clear hpl hg
            go_wp2_with fail
            refine Hfa.out.mono ?_
            rintro e w2 ⟨rfl, hdk⟩
            rw [Hg.out]
            go_wp2_with fail
            go_ret
            rw [Hpl.out]
            exact ⟨rfl, DK.trans' hk1 hf1 hdk⟩

theorem dput_any (p : Nat) (v : Value) (s : Wn.Dsk) (pv : Value) (ls : List (List UInt8)) (w : World) (h : DiskAt w p v s) (hl : SL (Foot p v) w pv ls) :
    Calls Try.prog 40 #[.pointer (some ⟨p, 0, none⟩), pv] w (PDo p v (.int .i64 ((Wn.dPut s ls.flatten).1 : Int)) (Wn.dPut s ls.flatten).2 w) := by
  cases hd : s.down with
  | true => exact dput_down p v s pv ls w h hd
  | false =>
    by_cases hf : s.size < s.b.length + ls.flatten.length
    · exact dput_full p v s _ pv ls w h hl hd hf
    · exact dput_ok p v s pv ls w h hl hd (by omega)
end Go.Proofs.Ytkblcdjkabiliaa
