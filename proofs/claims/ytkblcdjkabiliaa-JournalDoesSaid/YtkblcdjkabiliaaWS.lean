/- The walks through the reference's disk: Put, Up. -/
import Derived.Test.YtkblcdjkabiliaaWR
namespace Go.Proofs.Ytkblcdjkabiliaa
open Go.RowKit Wm

set_option maxRecDepth 20000 in
set_option maxHeartbeats 2000000 in
theorem rput_any (q : Nat) (M M2 : Blocks) (s : Wn.Dsk) (xv : Value) (x : List UInt8) (w : World) (h : RDisk w q M s) (hx : SB M2 w xv x) (hxl : x.length ≤ 16777216) (hM : ∀ k, M k → k < w.heap.size) :
    Calls Try.prog 41 #[.pointer (some ⟨q, 0, none⟩), xv] w (PRef q M (.int .i64 ((Wn.dPut s x).1 : Int)) (Wn.dPut s x).2 w) := by
  obtain ⟨i0, hi, hz0, hz1, hz2⟩ := info_parts info5
  obtain ⟨xa, xn, xc, rfl, hxn, hxnc, hxcm⟩ := hx.opened
  obtain ⟨a, n, c, hn, hnc, hcm, hq, hf, hc0, hc1, hc2, hc3, hc4, hc5, hc6, hb, hMq, hops, hw1, hw2, hw3, hh⟩ := h.facts
  unfold maxLen at hcm hxcm
  have hf0 := hf 0
  have Hb := hid hb
  have Hh := hid hh
  have Hxn := hid hxn
  have hxn24 : xn ≤ 16777216 := by omega
  have hn24 : n ≤ 1048576 := by omega
  have hns : n ≤ s.size := by omega
  have H := hid h
  clear hc2 hc3 hc5 hc6 hf hb hh h hxn
  cases hd : s.down with
  | true =>
    rw [hd] at hc4
    have hpu : Wn.dPut s x = (42, s) := by unfold Wn.dPut; rw [if_pos hd]
    have Hpu := hid hpu
    clear hd hpu hn hw1 hw2
    go_enter Try.func41, Try.ntmps41
    go_wp2_with fail
    go_ret
    rw [Hpu.out]
    exact ⟨rfl, H.out, Keeps.refl _ _⟩
  | false =>
    rw [hd] at hc4
    by_cases hfull : s.size < n + xn
    · have hpu : Wn.dPut s x = (40, s) := by unfold Wn.dPut; rw [if_neg (by rw [hd]; simp), if_pos (by have := Hxn.out; omega)]
      have Hpu := hid hpu
      clear hd hpu hn hw1 hw2
      generalize hz : s.size = z at *
      have Hz := hid hz
      clear hz
      go_enter Try.func41, Try.ntmps41
      go_wp2_with fail
      go_quiet (fail)
      go_wp2_with fail
      go_ret
      rw [Hpu.out]
      exact ⟨rfl, H.out, (Keeps.refl _ _).drewN _⟩
    · have hfit : s.b.length + x.length ≤ s.size := by have := Hxn.out; omega
      have hplain := dput_plain (x := x) hd hfit
      have hwf : (dIn s x).wf := by unfold Wn.Dsk.wf at *; rw [dIn_len]; show s.sure ≤ _ ∧ _ ≤ s.size ∧ s.size ≤ _; omega
      have Hplain := hid hplain
      have Hwf := hid hwf
      have Hn := hid hn
      have Hd := hid hd
      have Hfit := hid hfit
      clear hd hn hw1 hw2 hplain hwf hfit
      generalize hz : s.size = z at *
      have Hz := hid hz
      clear hz
      go_enter Try.func41, Try.ntmps41
      go_wp2_with fail
      go_quiet (fail)
      have Hbq : Hid (SB M (w.drewN nq) (.slice a n c) s.b) := Hb
      have hxq : SB M2 (w.drewN nq) (.slice xa xn xc) x := hx
      have Hhq : Hid ((w.drewN nq).heap[q]? = some (.cells #[.slice a n c, .int .i64 (z : Int), .int .i64 (s.sure : Int), .bool s.armed, .bool s.down, .int .i64 (s.ops : Int), .int .i64 s.keep] 50 (0, 0))) := Hh
      have hc0q : (w.drewN nq).cell? ⟨q, 0, none⟩ = some (.slice a n c) := hc0
      have hf0q : (w.drewN nq).frozen? ⟨q, 0, none⟩ = false := hf0
      have hqq : q < (w.drewN nq).heap.size := hq
      have hsq : w.heap.size = (w.drewN nq).heap.size := rfl
      have hKq : Keeps No w (w.drewN nq) := (Keeps.refl _ _).drewN _
      generalize w.drewN nq = wq at *
      have hnil := World.ownsRow_nil wq w.heap.size 5 1
      go_wp2_with (at_builtin; go_must (refine wpList_app _ rfl (.tmp 23) (.tmp 27) _ rfl w.heap.size 5 i0 _ 1 Try.underlying24 hi hz0 hz1 hz2 rfl _ 0 [] rfl hnil M _ (s.b.map bv) rfl Hbq.out (one_bv _) n (by rw [List.length_map, Hn.out]; omega) (by unfold maxLen; omega) (by omega) (by omega) ?_); intro a1 c1 w1 hown1 hg1 hat1; have hK1 := (Keeps.refl No wq).app hnil (by omega) hg1; have hx1 := hxq.keep hK1 (fun _ _ hk => hk.elim); have hs1 := hK1.size; go_wp2_with (at_builtin; go_must (refine wpList_app _ rfl (.tmp 30) (.tmp 31) _ rfl w.heap.size 5 i0 _ 1 Try.underlying24 hi hz0 hz1 hz2 rfl _ n _ rfl hown1 M2 _ (x.map bv) rfl hx1 (one_bv _) (n + xn) (by rw [List.length_map, Hxn.out]) (by unfold maxLen; omega) (by omega) (by omega) ?_); intro a2 c2 w2 hown2 hg2 hat2; have hK2 := hK1.app hown1 (by omega) hg2; have hc2 := (hK2.cell (p := ⟨q, 0, none⟩) hqq (fun hk => hk)).trans hc0q; have hf2 := (hK2.frozen (p := ⟨q, 0, none⟩) hqq (fun hk => hk)).trans hf0q))
      have hh2 := (hK2.block q hqq (fun hk => hk)).trans (show wq.heap[q]? = _ from Hhq.out)
      have hb2 : SB M w2 (.slice a2 (n + xn) c2) (dIn s x).b := by
        refine SV.of_own (base := w.heap.size) (e := 5) (n := n + xn) ?_ fun g hg hk => ?_
        · rw [dIn_b, List.map_append]; simpa using hown2
        · have := (hown2.lt g hg).1
          have := hM g hk
          omega
      have hr2 : RDisk (w2.setCell ⟨q, 0, none⟩ (.slice a2 (n + xn) c2)) q M (dIn s x) := by
        refine RDisk.step hMq ((Keeps.refl _ _).only _ _) hb2 ?_ hops Hwf.out
        rw [heap_setCell_same w2 q 0 _ 50 _ hh2]
        show _ = some (Obj.cells #[_, .int .i64 (s.size : Int), _, _, _, _, _] _ _)
        rw [Hz.out]; rfl
      have hK3 : Keeps (Only q) w (w2.setCell ⟨q, 0, none⟩ (.slice a2 (n + xn) c2)) := ((hKq.then_ hK2).weak).only _ _
      clear hb2 hh2 hown1 hown2 hg1 hg2 hat1 hat2
      have hgo := rgone_any q M (dIn s x) _ hr2 Hd.out
      have Hgo := hid hgo
      clear hgo
      cases hg : Wn.dGone (dIn s x) with
      | true =>
        have hpl := Hplain.out true hg
        have Hpl := hid hpl
        rw [hg] at Hgo
        clear hpl hg
        refine Hgo.out.mono ?_
        rintro e w3 ⟨rfl, hr3, hk3⟩
        go_wp2_with fail
        go_ret
        rw [Hpl.out]
        exact ⟨rfl, hr3, hK3.trans hk3 fun _ _ hk => hk⟩
      | false =>
        have hpl := Hplain.out false hg
        have Hpl := hid hpl
        rw [hg] at Hgo
        clear hpl hg
        refine Hgo.out.mono ?_
        rintro e w3 ⟨rfl, hr3, hk3⟩
        go_wp2_with fail
        go_ret
        rw [Hpl.out]
        exact ⟨rfl, hr3, hK3.trans hk3 fun _ _ hk => hk⟩

set_option maxRecDepth 20000 in
set_option maxHeartbeats 2000000 in
theorem rup_any (q : Nat) (M : Blocks) (s : Wn.Dsk) (w : World) (h : RDisk w q M s) :
    Calls Try.prog 33 #[.pointer (some ⟨q, 0, none⟩)] w (PRef q M (.tuple #[]) (Wn.dUp s) w) := by
  have hwf := Wn.dUp_wf h.wf
  have hle := Wn.dLeft_le h.wf
  obtain ⟨a, n, c, hn, hnc, hcm, hq, hf, hc0, hc1, hc2, hc3, hc4, hc5, hc6, hb, hMq, hops, hw1, hw2, hw3, hh⟩ := h.facts
  unfold maxLen at hcm
  have hf0 := hf 0
  have hf2 := hf 2
  have hf3 := hf 3
  have hf4 := hf 4
  have Hb := hid hb
  have Hh := hid hh
  have H := hid h
  have Hwf := hid hwf
  clear hf hb hh h hc1 hc5 hwf
  cases hd : s.down with
  | false =>
    rw [hd] at hc4
    have hup : Wn.dUp s = s := by unfold Wn.dUp; rw [if_neg (by rw [hd]; simp)]
    have Hup := hid hup
    clear hd hup hn hw1 hw2 hle
    go_enter Try.func33, Try.ntmps33
    go_wp2_with fail
    go_end0
    rw [Hup.out]
    exact ⟨rfl, H.out, Keeps.refl _ _⟩
  | true =>
    rw [hd] at hc4
    have hup : Wn.dUp s = { s with b := s.b.take (Wn.dLeft s), sure := Wn.dLeft s, down := false, armed := false } := by unfold Wn.dUp; rw [if_pos hd]
    have Hup := hid hup
    have hlf : Wn.dLeft s = s.sure + (max 0 (min s.keep ((s.b.length - s.sure : Nat) : Int))).toNat := rfl
    rw [← hn] at hlf
    have hL : Wn.dLeft s ≤ n := by omega
    have hsn : s.sure ≤ n := by omega
    have hn24 : n ≤ 1048576 := by omega
    clear hd hup hn hw1 hw2 hle
    generalize hLL : Wn.dLeft s = L at *
    generalize hss : s.sure = su at *
    generalize hkk : s.keep = kp at *
    have HLL := hid hLL
    have Hss := hid hss
    have Hkk := hid hkk
    clear hLL hss hkk
    have hmax : ∀ ts t wx, (Builtin.max_ ts t #[.int .i64 0, .int .i64 kp]).run Try.prog wx = .ok (.int .i64 (max 0 kp)) wx := by
      intro ts t wx
      rw [run_max_int2]
      congr 2
      split <;> omega
    have fin : ∀ wq, Keeps No w wq → wq.heap[q]? = w.heap[q]? → RDisk ((((wq.setCell ⟨q, 0, none⟩ (.slice a L c)).setCell ⟨q, 2, none⟩ (.int .i64 (L : Int))).setCell ⟨q, 4, none⟩ (.bool false)).setCell ⟨q, 3, none⟩ (.bool false)) q M (Wn.dUp s) ∧
        Keeps (Only q) w ((((wq.setCell ⟨q, 0, none⟩ (.slice a L c)).setCell ⟨q, 2, none⟩ (.int .i64 (L : Int))).setCell ⟨q, 4, none⟩ (.bool false)).setCell ⟨q, 3, none⟩ (.bool false)) := by
      intro wq hkq hhq
      rw [Hup.out]
      have hHwf := Hwf.out
      rw [Hup.out] at hHwf
      refine ⟨RDisk.step (a := a) (n := L) (c := c) hMq (((((Keeps.refl _ wq).only _ _).only _ _).only _ _).only _ _) (s' := { b := s.b.take L, size := s.size, sure := L, down := false, armed := false, ops := s.ops, keep := kp }) ?_ ?_ hops hHwf, ((((hkq.weak).only _ _).only _ _).only _ _).only _ _⟩
      · have := SV.take Hb.out hL
        rw [← List.map_take] at this
        exact SV.keep this hkq fun _ _ hk => hk.elim
      · have hh := hhq.trans Hh.out
        rw [heap_setCell_same _ q 3 _ 50 _ (heap_setCell_same _ q 4 _ 50 _ (heap_setCell_same _ q 2 _ 50 _ (heap_setCell_same wq q 0 _ 50 _ hh)))]
        rfl
    have Fin := hid fin
    clear fin
    by_cases hk : kp < (n : Int) - su
    · have hwr : (su : Int) + max 0 kp = (L : Int) := by omega
      have Hwr := hid hwr
      clear hwr hlf
      go_enter Try.func33, Try.ntmps33
      go_wp2_with fail
      go_quiet (fail)
      go_wp2_with fail
      have hkq : Keeps No w (w.drewN nq) := (Keeps.refl _ _).drewN _
      have hhq : (w.drewN nq).heap[q]? = w.heap[q]? := rfl
      have hc0q : (w.drewN nq).cell? ⟨q, 0, none⟩ = some (.slice a n c) := hc0
      have hc2q : (w.drewN nq).cell? ⟨q, 2, none⟩ = some (.int .i64 (su : Int)) := hc2
      have hc3q : (w.drewN nq).cell? ⟨q, 3, none⟩ = some (.bool s.armed) := hc3
      have hc4q : (w.drewN nq).cell? ⟨q, 4, none⟩ = some (.bool true) := hc4
      have hf0q : (w.drewN nq).frozen? ⟨q, 0, none⟩ = false := hf0
      have hf2q : (w.drewN nq).frozen? ⟨q, 2, none⟩ = false := hf2
      have hf3q : (w.drewN nq).frozen? ⟨q, 3, none⟩ = false := hf3
      have hf4q : (w.drewN nq).frozen? ⟨q, 4, none⟩ = false := hf4
      have hc6q : (w.drewN nq).cell? ⟨q, 6, none⟩ = some (.int .i64 kp) := hc6
      generalize w.drewN nq = wq at *
      have hmax2 : 0 ≤ max 0 kp ∧ max 0 kp ≤ 1048576 := by omega
      go_quiet (fail)
      rw [Hwr.out]
      have hkq2 : Keeps No w (wq.drewN nq) := hkq.drewN _
      have hhq2 : (wq.drewN nq).heap[q]? = w.heap[q]? := hhq
      have hc0r : (wq.drewN nq).cell? ⟨q, 0, none⟩ = some (.slice a n c) := hc0q
      have hc2r : (wq.drewN nq).cell? ⟨q, 2, none⟩ = some (.int .i64 (su : Int)) := hc2q
      have hc3r : (wq.drewN nq).cell? ⟨q, 3, none⟩ = some (.bool s.armed) := hc3q
      have hc4r : (wq.drewN nq).cell? ⟨q, 4, none⟩ = some (.bool true) := hc4q
      have hf0r : (wq.drewN nq).frozen? ⟨q, 0, none⟩ = false := hf0q
      have hf2r : (wq.drewN nq).frozen? ⟨q, 2, none⟩ = false := hf2q
      have hf3r : (wq.drewN nq).frozen? ⟨q, 3, none⟩ = false := hf3q
      have hf4r : (wq.drewN nq).frozen? ⟨q, 4, none⟩ = false := hf4q
      generalize wq.drewN nq = wr at *
      clear hmax hmax2
      go_wp2_with fail
      go_end0
      exact ⟨rfl, Fin.out wr hkq2 hhq2⟩
    · have hwr : n = L := by omega
      subst hwr
      clear hlf
      go_enter Try.func33, Try.ntmps33
      go_wp2_with fail
      go_quiet (fail)
      go_wp2_with fail
      go_end0
      exact ⟨rfl, Fin.out (w.drewN nq) ((Keeps.refl _ _).drewN _) rfl⟩
end Go.Proofs.Ytkblcdjkabiliaa
