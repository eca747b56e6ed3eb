/- The walks through the reference's disk. -/
import Derived.Test.YtkblcdjkabiliaaWQ
namespace Go.Proofs.Ytkblcdjkabiliaa
open Go.RowKit Wm

/-- The reference's disk at block q. -/
def RDisk (w : World) (q : Nat) (M : Blocks) (s : Wn.Dsk) : Prop :=
  ∃ a n c, w.heap[q]? = some (.cells #[.slice a n c, .int .i64 (s.size : Int), .int .i64 (s.sure : Int), .bool s.armed, .bool s.down, .int .i64 (s.ops : Int), .int .i64 s.keep] 50 (0, 0)) ∧
    SB M w (.slice a n c) s.b ∧ M q ∧ s.ops ≤ 9223372036854775807 ∧ s.wf

theorem RDisk.facts {w : World} {q : Nat} {M : Blocks} {s : Wn.Dsk} (h : RDisk w q M s) :
    ∃ a n c, n = s.b.length ∧ n ≤ c ∧ c ≤ maxLen ∧ q < w.heap.size ∧ (∀ i, w.frozen? ⟨q, i, none⟩ = false) ∧
      w.cell? ⟨q, 0, none⟩ = some (.slice a n c) ∧ w.cell? ⟨q, 1, none⟩ = some (.int .i64 (s.size : Int)) ∧ w.cell? ⟨q, 2, none⟩ = some (.int .i64 (s.sure : Int)) ∧ w.cell? ⟨q, 3, none⟩ = some (.bool s.armed) ∧
      w.cell? ⟨q, 4, none⟩ = some (.bool s.down) ∧ w.cell? ⟨q, 5, none⟩ = some (.int .i64 (s.ops : Int)) ∧ w.cell? ⟨q, 6, none⟩ = some (.int .i64 s.keep) ∧
      SB M w (.slice a n c) s.b ∧ M q ∧ s.ops ≤ 9223372036854775807 ∧ s.sure ≤ s.b.length ∧ s.b.length ≤ s.size ∧ s.size ≤ 1048576 ∧
      w.heap[q]? = some (.cells #[.slice a n c, .int .i64 (s.size : Int), .int .i64 (s.sure : Int), .bool s.armed, .bool s.down, .int .i64 (s.ops : Int), .int .i64 s.keep] 50 (0, 0)) := by
  obtain ⟨a, n, c, hh, hb, hq, hops, hw1, hw2, hw3⟩ := h
  have hc : ∀ i, w.cell? ⟨q, i, none⟩ = _ := fun i => cell_of_row _ _ i _ _ _ hh
  have h0 : w.cell? ⟨q, 0, none⟩ = some (.slice a n c) := by rw [hc]; rfl
  exact ⟨a, n, c, hb.len, hb.cap.1, hb.cap.2, cell_lt h0, fun i => frozen_of_row _ _ _ _ _ hh, h0, by rw [hc]; rfl, by rw [hc]; rfl, by rw [hc]; rfl, by rw [hc]; rfl, by rw [hc]; rfl, by rw [hc]; rfl, hb, hq, hops, hw1, hw2, hw3, hh⟩
theorem RDisk.wf {w : World} {q : Nat} {M : Blocks} {s : Wn.Dsk} (h : RDisk w q M s) : s.wf := by obtain ⟨_, _, _, _, _, _, _, hw⟩ := h; exact hw
theorem RDisk.lt {w : World} {q : Nat} {M : Blocks} {s : Wn.Dsk} (h : RDisk w q M s) : q < w.heap.size := h.facts.elim fun _ ⟨_, _, _, _, _, hq, _⟩ => hq
theorem sv_shift {M M' K : Blocks} {w w' : World} {v : Value} {us : List Value} (h : SV M w v us) (hk : Keeps K w w') (hK : ∀ k, k < w.heap.size → K k → M k) (hm : ∀ k, k < w.heap.size → M' k → M k) : SV M' w' v us := by
  have h1 : SV (fun k => M k ∨ M' k) w v us := h.mono fun k hl hk => hk.elim id (hm k hl)
  exact (h1.keep hk fun k hl hk => .inl (hK k hl hk)).mono fun _ _ hk => .inr hk
theorem sl_shift {M M' K : Blocks} {w w' : World} {v : Value} {ls : List (List UInt8)} (h : SL M w v ls) (hk : Keeps K w w') (hK : ∀ k, k < w.heap.size → K k → M k) (hm : ∀ k, k < w.heap.size → M' k → M k) : SL M' w' v ls := by
  have h1 : SL (fun k => M k ∨ M' k) w v ls := h.mono fun k hl hk => hk.elim id (hm k hl)
  exact (h1.keep hk fun k hl hk => .inl (hK k hl hk)).mono fun _ _ hk => .inr hk
/-- All else may turn. -/
theorem RDisk.keep {w w' : World} {q : Nat} {M M' K : Blocks} {s : Wn.Dsk} (h : RDisk w q M s) (hk : Keeps K w w') (hq : ¬ K q) (hM : ∀ k, k < w.heap.size → K k → M k) (hm : ∀ k, k < w.heap.size → M' k → M k) (hq' : M' q) : RDisk w' q M' s := by
  have hlt := h.lt
  obtain ⟨a, n, c, hh, hb, _, r⟩ := h
  exact ⟨a, n, c, (hk.block q hlt hq).trans hh, sv_shift hb hk hM hm, hq', r⟩

def PRef (q : Nat) (M : Blocks) (r : Value) (s' : Wn.Dsk) (w : World) (e : Ending) (w' : World) : Prop := e = .returned r ∧ RDisk w' q M s' ∧ Keeps (Only q) w w'

/-- A step on the cells alone. -/
theorem RDisk.step {w w' : World} {q : Nat} {M : Blocks} {s' : Wn.Dsk} {a : Option Addr} {n c : Nat} (hq : M q) (hk : Keeps (Only q) w w') (hb : SB M w (.slice a n c) s'.b)
    (hh : w'.heap[q]? = some (.cells #[.slice a n c, .int .i64 (s'.size : Int), .int .i64 (s'.sure : Int), .bool s'.armed, .bool s'.down, .int .i64 (s'.ops : Int), .int .i64 s'.keep] 50 (0, 0)))
    (hops : s'.ops ≤ 9223372036854775807) (hwf : s'.wf) : RDisk w' q M s' :=
  ⟨a, n, c, hh, SV.keep hb hk fun k _ e => by unfold Only at e; subst e; exact hq, hq, hops, hwf⟩

theorem rgone_any (q : Nat) (M : Blocks) (s : Wn.Dsk) (w : World) (h : RDisk w q M s) (hd : s.down = false) :
    Calls Try.prog 63 #[.pointer (some ⟨q, 0, none⟩)] w (PRef q M (.bool (Wn.dGone s)) (Wn.dOp s) w) := by
  obtain ⟨a, n, c, hn, hnc, hcm, hq, hf, hc0, hc1, hc2, hc3, hc4, hc5, hc6, hb, hMq, hops, hw1, hw2, hw3, hh⟩ := h.facts
  have hwf := Wn.dOp_wf (s := s) ⟨hw1, hw2, hw3⟩
  have Hwf := hid hwf
  have Hb := hid hb
  have Hh := hid hh
  have Hd := hid hd
  have H := hid h
  have hf4 := hf 4
  have hf5 := hf 5
  clear hn hc0 hc1 hc2 hc6 hwf hf hb hh hd h
  cases ha : s.armed with
  | false =>
    rw [ha] at hc3
    have Ha := hid ha
    clear ha
    have hop : Wn.dOp s = s := by unfold Wn.dOp; rw [if_neg (by rw [Ha.out]; simp)]
    have Hop := hid hop
    clear hop
    go_enter Try.func63, Try.ntmps63
    go_wp2
    go_ret
    refine ⟨by unfold Wn.dGone; rw [Ha.out]; rfl, ?_, Keeps.refl _ _⟩
    rw [Hop.out]; exact H.out
  | true =>
    rw [ha] at hc3
    have Ha := hid ha
    clear ha
    generalize ho : s.ops = o at *
    have Ho := hid ho
    clear ho
    by_cases h0 : o = 0
    · subst h0
      have hop : Wn.dOp s = { s with down := true } := by unfold Wn.dOp; rw [if_pos Ha.out, if_pos Ho.out]
      have Hop := hid hop
      clear hop
      go_enter Try.func63, Try.ntmps63
      go_wp2
      go_ret
      refine ⟨by unfold Wn.dGone; rw [Ha.out, Ho.out]; rfl, ?_, (Keeps.refl _ _).only _ _⟩
      rw [Hop.out]
      refine RDisk.step hMq ((Keeps.refl _ _).only _ _) Hb.out ?_ (by show s.ops ≤ _; rw [Ho.out]; omega) (Hop.out ▸ Hwf.out)
      rw [heap_setCell_same w q 4 _ 50 _ Hh.out]
      show _ = some (Obj.cells #[_, _, _, _, _, .int .i64 (s.ops : Int), _] _ _)
      rw [Ho.out]; rfl
    · have hob : (((o : Nat) : Int) == 0) = false := by rw [beq_eq_false_iff_ne]; omega
      have Ho0 := hid h0
      clear h0
      have hop : Wn.dOp s = { s with ops := s.ops - 1 } := by unfold Wn.dOp; rw [if_pos Ha.out, if_neg (by rw [Ho.out]; exact Ho0.out)]
      have Hop := hid hop
      clear hop
      go_enter Try.func63, Try.ntmps63
      go_wp2
      go_ret
      refine ⟨by unfold Wn.dGone; rw [Ha.out, Ho.out]; simp [Ho0.out], ?_, (Keeps.refl _ _).only _ _⟩
      rw [Hop.out]
      refine RDisk.step hMq ((Keeps.refl _ _).only _ _) Hb.out ?_ (by show s.ops - 1 ≤ _; rw [Ho.out]; omega) (Hop.out ▸ Hwf.out)
      rw [heap_setCell_same w q 5 _ 50 _ Hh.out]
      have e : (o : Int) - 1 = ((s.ops - 1 : Nat) : Int) := by have := Ho0.out; rw [Ho.out]; omega
      show _ = some (Obj.cells #[_, _, _, _, _, .int .i64 ((s.ops - 1 : Nat) : Int), _] _ _)
      rw [e]; rfl

set_option maxRecDepth 20000 in
theorem rflush_any (q : Nat) (M : Blocks) (s : Wn.Dsk) (w : World) (h : RDisk w q M s) :
    Calls Try.prog 43 #[.pointer (some ⟨q, 0, none⟩)] w (PRef q M (.int .i64 ((Wn.dFlush s).1 : Int)) (Wn.dFlush s).2 w) := by
  have hwf := Wn.dFlush_wf h.wf
  obtain ⟨a, n, c, hn, hnc, hcm, hq, hf, hc0, hc1, hc2, hc3, hc4, hc5, hc6, hb, hMq, hops, hw1, hw2, hw3, hh⟩ := h.facts
  have Hwf := hid hwf
  clear hn hc0 hc1 hc2 hc3 hc5 hc6 hwf hf hb hh
  cases hd : s.down with
  | true =>
    rw [hd] at hc4
    have hfl : Wn.dFlush s = (42, s) := by unfold Wn.dFlush; rw [if_pos hd]
    have Hfl := hid hfl
    have H := hid h
    clear hd h hfl
    go_enter Try.func43, Try.ntmps43
    go_wp2_with fail
    go_ret
    rw [Hfl.out]
    exact ⟨rfl, H.out, Keeps.refl _ _⟩
  | false =>
    rw [hd] at hc4
    have hgo := rgone_any q M s w h hd
    cases hg : Wn.dGone s with
    | true =>
      have hfl : Wn.dFlush s = (42, Wn.dOp s) := by unfold Wn.dFlush; rw [if_neg (by rw [hd]; simp), if_pos hg]
      rw [hg] at hgo
      have Hfl := hid hfl
      have Hgo := hid hgo
      clear hd h hfl hg hgo
      go_enter Try.func43, Try.ntmps43
      go_wp2_with fail
      refine Hgo.out.mono ?_
      rintro e w1 ⟨rfl, h1, hk1⟩
      go_wp2_with fail
      go_ret
      rw [Hfl.out]
      exact ⟨rfl, h1, hk1⟩
    | false =>
      have hfl : Wn.dFlush s = (0, { Wn.dOp s with sure := s.b.length }) := by unfold Wn.dFlush; rw [if_neg (by rw [hd]; simp), if_neg (by rw [hg]; simp)]
      rw [hg] at hgo
      have Hfl := hid hfl
      have Hgo := hid hgo
      clear hd h hfl hg hgo
      go_enter Try.func43, Try.ntmps43
      go_wp2_with fail
      refine Hgo.out.mono ?_
      rintro e w1 ⟨rfl, h1, hk1⟩
      obtain ⟨a, n, c, hn, hnc, hcm, hq, hf, hc0, hc1, hc2, hc3, hc4, hc5, hc6, hb, hMq, hops, hw1, hw2, hw3, hh⟩ := h1.facts
      unfold maxLen at hcm
      have hf2 := hf 2
      have hnb : n = s.b.length := by rw [hn, (Wn.dOp_b s).1]
      have Hn := hid hnb
      have Hb := hid hb
      have Hh := hid hh
      clear hn hnb hf hw1 hw2 hw3 hc1 hc3 hc4 hc5 hc6 hb hh
      go_wp2_with fail
      go_ret
      rw [Hfl.out] at Hwf ⊢
      refine ⟨rfl, RDisk.step hMq ((Keeps.refl _ _).only _ _) (s' := { Wn.dOp s with sure := s.b.length }) Hb.out ?_ hops Hwf.out, hk1.only _ _⟩
      rw [heap_setCell_same w1 q 2 _ 50 _ Hh.out]
      show _ = some (Obj.cells #[_, _, .int .i64 ((s.b.length : Nat) : Int), _, _, _, _] _ _)
      rw [← Hn.out]; rfl

theorem rcut_any (q : Nat) (M : Blocks) (s : Wn.Dsk) (k0 : Int) (w : World) (h : RDisk w q M s) :
    Calls Try.prog 45 #[.pointer (some ⟨q, 0, none⟩), .int .i64 k0] w (PRef q M (.int .i64 ((Wn.dCut s k0).1 : Int)) (Wn.dCut s k0).2 w) := by
  have hwf := Wn.dCut_wf h.wf k0
  obtain ⟨a, n, c, hn, hnc, hcm, hq, hf, hc0, hc1, hc2, hc3, hc4, hc5, hc6, hb, hMq, hops, hw1, hw2, hw3, hh⟩ := h.facts
  unfold maxLen at hcm
  have hf0 := hf 0
  have hf2 := hf 2
  have Hwf := hid hwf
  have Hb := hid hb
  have Hh := hid hh
  clear hc1 hc3 hc5 hc6 hwf hf hb hh
  cases hd : s.down with
  | true =>
    rw [hd] at hc4
    have hcu : Wn.dCut s k0 = (42, s) := by unfold Wn.dCut; rw [if_pos hd]
    have Hcu := hid hcu
    have H := hid h
    clear hd h hcu hn
    go_enter Try.func45, Try.ntmps45
    go_wp2_with fail
    go_ret
    rw [Hcu.out]
    exact ⟨rfl, H.out, Keeps.refl _ _⟩
  | false =>
    rw [hd] at hc4
    by_cases hbad : k0 < 0 ∨ (s.b.length : Int) < k0
    · have hcu : Wn.dCut s k0 = (2, s) := by unfold Wn.dCut; rw [if_neg (by rw [hd]; simp), if_pos hbad]
      rw [← hn] at hbad
      have Hcu := hid hcu
      have H := hid h
      clear hd h hcu hn
      rcases hbad with hbad | hbad
      · go_enter Try.func45, Try.ntmps45
        go_wp2_with fail
        go_ret
        rw [Hcu.out]
        exact ⟨rfl, H.out, Keeps.refl _ _⟩
      · go_enter Try.func45, Try.ntmps45
        go_wp2_with fail
        go_ret
        rw [Hcu.out]
        exact ⟨rfl, H.out, Keeps.refl _ _⟩
    · obtain ⟨m, rfl⟩ := Int.eq_ofNat_of_zero_le (a := k0) (by omega)
      have hcu : Wn.dCut s (m : Int) = (0, { s with b := s.b.take m, sure := m }) := by unfold Wn.dCut; rw [if_neg (by rw [hd]; simp), if_neg hbad, Int.toNat_natCast]
      have hmn : m ≤ n := by omega
      have Hcu := hid hcu
      have Hd := hid hd
      clear hd h hcu hn hbad
      go_enter Try.func45, Try.ntmps45
      go_wp2_with fail
      go_ret
      rw [Hcu.out] at Hwf ⊢
      refine ⟨rfl, RDisk.step (a := a) (n := m) (c := c) hMq (((Keeps.refl _ _).only _ _).only _ _) (s' := { s with b := s.b.take m, sure := m }) ?_ ?_ hops Hwf.out, ((Keeps.refl _ _).only _ _).only _ _⟩
      · have := SV.take Hb.out hmn
        rw [← List.map_take] at this; exact this
      · rw [heap_setCell_same _ q 2 _ 50 _ (heap_setCell_same w q 0 _ 50 _ Hh.out)]; rfl

theorem rarm_any (q : Nat) (M : Blocks) (s : Wn.Dsk) (o k : Int) (w : World) (h : RDisk w q M s) (ho : o ≤ 9223372036854775807) :
    Calls Try.prog 31 #[.pointer (some ⟨q, 0, none⟩), .int .i64 o, .int .i64 k] w (PRef q M (.tuple #[]) (Wn.dArm s o k) w) := by
  have hwf := Wn.dArm_wf h.wf o k
  obtain ⟨a, n, c, hn, hnc, hcm, hq, hf, hc0, hc1, hc2, hc3, hc4, hc5, hc6, hb, hMq, hops, hw1, hw2, hw3, hh⟩ := h.facts
  have hf3 := hf 3
  have hf5 := hf 5
  have hf6 := hf 6
  have Hwf := hid hwf
  have Hb := hid hb
  have Hh := hid hh
  clear hc0 hc1 hc2 hwf hf hb hh hn
  cases hd : s.down with
  | true =>
    rw [hd] at hc4
    have hcu : Wn.dArm s o k = s := by unfold Wn.dArm; rw [if_pos hd]
    have Hcu := hid hcu
    have H := hid h
    clear hd h hcu
    go_enter Try.func31, Try.ntmps31
    go_wp2_with fail
    go_end0
    rw [Hcu.out]
    exact ⟨rfl, H.out, Keeps.refl _ _⟩
  | false =>
    rw [hd] at hc4
    obtain ⟨m, hm⟩ : ∃ m : Nat, (max 0 o).toNat = m := ⟨_, rfl⟩
    have hcu : Wn.dArm s o k = { s with armed := true, ops := m, keep := k } := by unfold Wn.dArm; rw [if_neg (by rw [hd]; simp), hm]
    have hmax : ∀ ts t wx, (Builtin.max_ ts t #[.int .i64 0, .int .i64 o]).run Try.prog wx = .ok (.int .i64 (m : Int)) wx := by
      intro ts t wx
      rw [run_max_int2]
      congr 2
      split <;> omega
    have hmb : m ≤ 9223372036854775807 := by omega
    have Hcu := hid hcu
    have Hd := hid hd
    clear hd h hcu hm
    go_enter Try.func31, Try.ntmps31
    go_wp2_with fail
    clear hmax
    go_end0
    rw [Hcu.out] at Hwf ⊢
    refine ⟨rfl, RDisk.step hMq ((((Keeps.refl _ _).only _ _).only _ _).only _ _) (s' := { s with armed := true, ops := m, keep := k }) Hb.out ?_ hmb Hwf.out, (((Keeps.refl _ _).only _ _).only _ _).only _ _⟩
    rw [heap_setCell_same _ q 6 _ 50 _ (heap_setCell_same _ q 5 _ 50 _ (heap_setCell_same w q 3 _ 50 _ Hh.out))]; rfl
end Go.Proofs.Ytkblcdjkabiliaa
