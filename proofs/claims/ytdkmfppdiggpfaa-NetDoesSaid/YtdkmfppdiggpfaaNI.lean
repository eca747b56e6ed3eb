/- The walks of the reference's way: Send. -/
import Derived.Test.YtdkmfppdiggpfaaNH
namespace Go.Proofs.Ytdkmfppdiggpfaa
open Go.RowKit Wm

set_option maxRecDepth 20000 in
set_option maxHeartbeats 4000000 in
theorem rsend_any (R : Blocks) (p : Nat) (vs : List Value) (Ls : List (List (List UInt8))) (l al : List (List UInt8)) (xv : Value) (x : List UInt8) (w : World) (h : RowsAt 47 68 [] R w p vs Ls)
    (hl : Ls[0]? = some l) (ha : Ls[1]? = some al) (hx : SB (fun q => RF p vs q ∨ R q) w xv x) (hll : l.length ≤ 1048576) (hal : al.length ≤ 1048576) :
    Calls Try.prog 33 #[.pointer (some ⟨p, 0, none⟩), xv] w
      (PRows 68 [] R p vs (.int .i64 (sendC l)) (putLs 0 Ls l al x) w) := by
  obtain ⟨i0, hi, hz0, hz1, hz2⟩ := info_parts info47
  obtain ⟨xa, xn, xc, rfl, hxn, hxnc, hxcm⟩ := hx.opened
  obtain ⟨a1, n1, c1, us1, hv1, hn1, hu1, hnc1, hcm1, hr1, hs1, hc1, hf1⟩ := h.row ha
  obtain ⟨a0, n0, c0, us0, hv0, hn0, hu0, hnc0, hcm0, hr0, hs0, hc0, hf0⟩ := h.row hl
  have hp := h.lt p (.inl rfl)
  have hne1 := RowsAt.ownp h hv1
  unfold maxLen at hcm1 hcm0 hxcm
  have hka : Keeps No w (w.alloc (.cells #[.slice xa xn xc] 47)) := (Keeps.refl _ _).alloc _
  have hra := hr1.keep hka fun _ _ hk => hk
  have hsa : SLV (fun q => RF p vs q ∨ R q) (w.alloc (.cells #[.slice xa xn xc] 47)) (us1 ++ [.slice xa xn xc]) (al ++ [x]) :=
    (hs1.shift hka (fun _ _ hk => hk.elim) fun _ _ hk => hk).snoc (SV.alloc hx _)
  have hnb1 : n1 ≤ 1048576 := by omega
  have hnb0 : n0 ≤ 1048576 := by omega
  have hul1 : us1.length = n1 := by omega
  have H := hid h
  have Hx := hid hx
  have HR := hid (show _ ∧ _ ∧ _ from ⟨hra, hsa, hne1⟩)
  have HV := hid (show _ ∧ _ ∧ _ ∧ _ from ⟨hv1, hv0, hul1, hn0⟩)
  have HL := hid (show _ ∧ _ from ⟨hl, ha⟩)
  clear h hx hv1 hn1 hu1 hr1 hs1 hv0 hn0 hu0 hr0 hs0 hra hsa hka hne1 hxn hl ha hll hal hul1
  go_enter Try.func33, Try.ntmps33
  go_wp2_with (at_builtin; refine hold ?_)
  unfold Held
  refine wpList_append_rw _ rfl (.tmp 9) (.tmp 11) _ rfl 47 i0 _ 24 Try.underlying66 hi hz0 hz1 hz2 rfl _ us1 rfl HR.out.1 No _ [.slice xa xn xc] rfl (SV.no (SV.newAt w w.heap.size _ _ _ 1 1 _ rfl rfl (by omega) (by unfold maxLen; omega) rfl)) (one_cell rfl) (n1 + 1) (by rw [HV.out.2.2.1]; rfl) (by unfold maxLen; omega) (by omega) ?_
  intro a3 c3 w3 hrw3 hg3 hfr3
  have hput := H.out.put HV.out.1 ((Keeps.refl No w).alloc _) hg3 hrw3 hfr3 HR.out.2.1
  have Hput := hid hput
  have d1 := grown_cell hg3 (by simp; omega) HR.out.2.2 (alloc_cell hc1)
  have d0 := grown_cell hg3 (by simp; omega) HR.out.2.2 (alloc_cell hc0)
  have g1 := grown_frozen hg3 (by simp; omega) HR.out.2.2 (alloc_frozen hp hf1)
  have g0 := grown_frozen hg3 (by simp; omega) HR.out.2.2 (alloc_frozen hp hf0)
  clear hput hc1 hc0 hf1 hf0 hrw3 hg3 hfr3
  rcases Nat.lt_or_ge n0 64 with h64 | h64
  · have h64' : l.length < 64 := by have := HV.out.2.2.2; omega
    have hr4 : sendC l = 0 := by unfold sendC; rw [if_pos h64']
    have hp4 : putLs 0 Ls l al x = (Ls.set (1) (al ++ [x])).set 0 (l ++ [x]) := by unfold putLs; rw [if_pos h64']
    have H64 := hid (show _ ∧ _ from ⟨hr4, hp4⟩)
    clear h64' hr4 hp4
    obtain ⟨q1, q2, q3⟩ := Hput.out
    have hk4 : (Ls.set (1) (al ++ [x]))[0]? = some l := by rw [List.getElem?_set_ne (by omega)]; exact HL.out.1
    obtain ⟨a4, n4, c4, us4, hv4, hn4, hu4, hnc4, hcm4, hr4, hs4, hc4, hf4⟩ := q1.row hk4
    have hv4' := hv4
    rw [List.getElem?_set_ne (by omega), HV.out.2.1] at hv4'
    injection hv4' with e4
    injection e4 with e1 e2 e3
    subst e1; subst e2; subst e3
    have hne4 := RowsAt.ownp q1 hv4
    have hsz3 : w.heap.size ≤ (w3.setCell ⟨p, 1, none⟩ (.slice a3 (n1 + 1) c3)).heap.size := q2.size
    have Hq := hid (show _ ∧ _ ∧ _ from ⟨q1, q2, q3⟩)
    have Hrow := hid (show _ ∧ _ ∧ _ ∧ _ ∧ _ from ⟨hr4, hs4, hv4, hne4, hu4⟩)
    clear q1 q2 q3 hk4 hv4 hn4 hu4 hnc4 hcm4 hr4 hs4 hne4
    have hw4 : (w3.setCell ⟨p, 1, none⟩ (.slice a3 (n1 + 1) c3)).heap.size = w3.heap.size := by simp [World.setCell]
    have hx4 : SB (fun q => RF p (vs.set (1) (.slice a3 (n1 + 1) c3)) q ∨ R q) (w3.setCell ⟨p, 1, none⟩ (.slice a3 (n1 + 1) c3)) (.slice xa xn xc) x :=
      sv_shift Hx.out Hq.out.2.1 (fun q _ hq => .inl hq) fun q hl hq => hq.elim (fun hq => (Hq.out.2.2 q hq).elim .inl fun h => by simp at h; omega) .inr
    have hs5 : SLV (fun q => RF p (vs.set (1) (.slice a3 (n1 + 1) c3)) q ∨ R q) ((w3.setCell ⟨p, 1, none⟩ (.slice a3 (n1 + 1) c3)).alloc (.cells #[.slice xa xn xc] 47)) (us4 ++ [.slice xa xn xc]) (l ++ [x]) :=
      (Hrow.out.2.1.shift ((Keeps.refl No _).alloc _) (fun _ _ hk => hk.elim) fun _ _ hk => hk).snoc (SV.alloc hx4 _)
    have Hs5 := hid hs5
    have hul4 : us4.length = n0 := by have := Hrow.out.2.2.2.2; have := HV.out.2.2.2; omega
    have Hul4 := hid hul4
    have hp3 : p < (w3.setCell ⟨p, 1, none⟩ (.slice a3 (n1 + 1) c3)).heap.size := by omega
    clear hx4 hs5 hul4 hsz3
    go_wp2_with (at_builtin; refine hold ?_)
    unfold Held
    refine wpList_append_rw _ rfl (.tmp 25) (.tmp 27) _ rfl 47 i0 _ 24 Try.underlying66 hi hz0 hz1 hz2 rfl _ us4 rfl (Hrow.out.1.keep ((Keeps.refl No _).alloc _) fun _ _ hk => hk) No _ [.slice xa xn xc] rfl (SV.no (SV.newAt _ w3.heap.size _ _ _ 1 1 _ hw4 rfl (by omega) (by unfold maxLen; omega) rfl)) (one_cell rfl) (n0 + 1) (by rw [Hul4.out]; rfl) (by unfold maxLen; omega) (by omega) ?_
    intro a5 c5 w5 hrw5 hg5 hfr5
    have hput5 := Hq.out.1.put Hrow.out.2.2.1 ((Keeps.refl No _).alloc _) hg5 hrw5 hfr5 Hs5.out
    have Hput5 := hid hput5
    have e0 := grown_cell hg5 (by simp; omega) Hrow.out.2.2.2.1 (alloc_cell hc4)
    have f0 := grown_frozen hg5 (by simp; omega) Hrow.out.2.2.2.1 (alloc_frozen hp3 hf4)
    clear hput5 hrw5 hg5 hfr5 d1 d0 hc4 hf4 g1 g0
    go_wp2_with fail
    go_ret
    obtain ⟨k1, k2, k3⟩ := Hput5.out
    rw [H64.out.1, H64.out.2]
    refine ⟨rfl, _, k1, Hq.out.2.1.trans k2 fun q hl hq => (Hq.out.2.2 q hq).elim id fun h => by simp at h; omega, fun q hq => ?_⟩
    rcases k3 q hq with h | h
    · rcases Hq.out.2.2 q h with h | h
      · exact .inl h
      · simp at h; exact .inr (by omega)
    · have := Hq.out.2.1.size; simp at h this; exact .inr (by omega)
  · have h64' : ¬ l.length < 64 := by have := HV.out.2.2.2; omega
    have hr4 : sendC l = 40 := by unfold sendC; rw [if_neg h64']
    have hp4 : putLs 0 Ls l al x = Ls.set (1) (al ++ [x]) := by unfold putLs; rw [if_neg h64']
    have H64 := hid (show _ ∧ _ from ⟨hr4, hp4⟩)
    clear h64' hr4 hp4
    go_wp2_with fail
    go_ret
    obtain ⟨k1, k2, k3⟩ := Hput.out
    rw [H64.out.1, H64.out.2]
    exact ⟨rfl, _, k1, k2, fun q hq => (k3 q hq).imp id fun h => by simp at h; omega⟩
end Go.Proofs.Ytdkmfppdiggpfaa
