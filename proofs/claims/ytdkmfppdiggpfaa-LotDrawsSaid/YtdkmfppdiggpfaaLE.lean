/- The walks through the events: the lot that isn't there; the reference's. -/
import Derived.Test.YtdkmfppdiggpfaaLD
import Derived.Deep.Cut
namespace Go.Proofs.Ytdkmfppdiggpfaa
open Go.RowKit Wm

def PNilEv (w : World) (e : Ending) (w' : World) : Prop := e = .returned (evV ⟨0, 0, 0, false⟩) ∧ Keeps No w w'
set_option maxRecDepth 20000 in
set_option maxHeartbeats 2000000 in
theorem levent_nil (w : World) : Calls Try.prog 23 #[.pointer none] w (PNilEv w) := by
  obtain ⟨B, hB⟩ : ∃ B, w.heap.size = B := ⟨_, rfl⟩
  have hgb : (w.alloc (.cells #[.int .i64 0, .int .i64 0, .int .i64 0, .bool false, .slice none 0 0] 49)).heap[B]? = some (.cells #[.int .i64 0, .int .i64 0, .int .i64 0, .bool false, .slice none 0 0] 49 (0, 0)) := by
    subst hB; exact heap_alloc_new w _
  have Hgb := hid hgb
  have HB := hid hB
  obtain ⟨⟨c0, c1, c2, c3, c4⟩, f0, f1, f2, f3, f4⟩ := row5 hgb
  clear hgb
  go_enter Try.func23, Try.ntmps23
  go_wp2_with fail
  refine bodyPost_ret (results_cell_row rfl _ _ B 49 _ (0, 0) _ rfl Hgb.out Try.underlying49 rfl (by kernel_rfl)) rfl ?_
  exact ⟨rfl, (Keeps.refl _ _).alloc _⟩



theorem beq04 (x : Nat) : (((x : Int) % 4) == 0) = decide (x % 4 = 0) := beq0 x 4
/-- The reference's event under way: the lot, the result's block B, the event's block C. -/
def EvW (w0 : World) (g B C s : Nat) (x : Wn.Evt) (w : World) : Prop :=
  LotAt 45 w g s ∧ w.heap[B]? = some (.cells #[.int .i64 0, .int .i64 0, .int .i64 0, .bool false, .slice none 0 0] 51 (0, 0)) ∧ w.heap[C]? = some (.cells (evC x) 51 (0, 0)) ∧
    Keeps (Only g) w0 w ∧ B ≠ g ∧ C ≠ g ∧ C ≠ B ∧ w0.heap.size ≤ B ∧ w0.heap.size ≤ C
theorem heap_lt {w : World} {B : Nat} {o : Obj} (h : w.heap[B]? = some o) : B < w.heap.size := by
  rcases Nat.lt_or_ge B w.heap.size with hl | hl
  · exact hl
  · rw [Array.getElem?_eq_none hl] at h; cases h
theorem EvW.call {w0 w w' : World} {g B C s s' : Nat} {x : Wn.Evt} {r : Value} {e : Ending} (h : EvW w0 g B C s x w) (hp : PLot 45 g r s' w e w') : e = .returned r ∧ EvW w0 g B C s' x w' := by
  obtain ⟨h1, h2, h3, h4, h5, h6, h7⟩ := h
  obtain ⟨he, hl, hk⟩ := hp
  exact ⟨he, hl, (hk.block B (heap_lt h2) fun e => h5 e).trans h2, (hk.block C (heap_lt h3) fun e => h6 e).trans h3, h4.trans hk fun _ _ hk => hk, h5, h6, h7⟩
theorem EvW.put {w0 w : World} {g B C s : Nat} {x x' : Wn.Evt} (h : EvW w0 g B C s x w) (i : Nat) (u : Value) (hx : (evC x).setIfInBounds i u = evC x') : EvW w0 g B C s x' (w.setCell ⟨C, i, none⟩ u) := by
  obtain ⟨h1, h2, h3, h4, h5, h6, h7, h8, h9⟩ := h
  have hk : Keeps (Only C) w (w.setCell ⟨C, i, none⟩ u) := (Keeps.refl _ _).only _ _
  refine ⟨h1.keep hk fun e => h6 e.symm, (hk.block B (heap_lt h2) fun e => h7 e.symm).trans h2, ?_, h4.trans hk fun k hl e => by unfold Only at e; omega, h5, h6, h7, h8, h9⟩
  rw [heap_setCell_same _ C i _ 51 _ h3, hx]
theorem EvW.facts {w0 w : World} {g B C s : Nat} {x : Wn.Evt} (h : EvW w0 g B C s x w) :
    (w.cell? ⟨C, 0, none⟩ = some (.int .i64 x.kind) ∧ w.cell? ⟨C, 1, none⟩ = some (.int .i64 x.at_) ∧ w.cell? ⟨C, 2, none⟩ = some (.int .i64 x.n) ∧ w.cell? ⟨C, 3, none⟩ = some (.bool x.keep) ∧ w.cell? ⟨C, 4, none⟩ = some (.slice none 0 0)) ∧
    (w.frozen? ⟨C, 0, none⟩ = false ∧ w.frozen? ⟨C, 1, none⟩ = false ∧ w.frozen? ⟨C, 2, none⟩ = false ∧ w.frozen? ⟨C, 3, none⟩ = false ∧ w.frozen? ⟨C, 4, none⟩ = false) := row5 h.2.2.1
theorem EvW.fin {w0 w : World} {g B C s : Nat} {x : Wn.Evt} (h : EvW w0 g B C s x w) {a b c d e : Value} (hx : #[a, b, c, d, e] = evC x) :
    (((((w.setCell ⟨B, 0, none⟩ a).setCell ⟨B, 1, none⟩ b).setCell ⟨B, 2, none⟩ c).setCell ⟨B, 3, none⟩ d).setCell ⟨B, 4, none⟩ e).heap[B]? = some (.cells (evC x) 51 (0, 0)) ∧
      LotAt 45 (((((w.setCell ⟨B, 0, none⟩ a).setCell ⟨B, 1, none⟩ b).setCell ⟨B, 2, none⟩ c).setCell ⟨B, 3, none⟩ d).setCell ⟨B, 4, none⟩ e) g s ∧
      Keeps (Only g) w0 (((((w.setCell ⟨B, 0, none⟩ a).setCell ⟨B, 1, none⟩ b).setCell ⟨B, 2, none⟩ c).setCell ⟨B, 3, none⟩ d).setCell ⟨B, 4, none⟩ e) := by
  obtain ⟨h1, h2, h3, h4, h5, h6, h7, h8, h9⟩ := h
  exact ⟨by rw [← hx]; exact set5 h2, h1.keep keep5 fun e => h5 e.symm, h4.trans keep5 fun k hl e => by unfold Only at e; omega⟩

set_option maxRecDepth 20000 in
set_option maxHeartbeats 4000000 in
theorem revent_any (g s : Nat) (w : World) (h : LotAt 45 w g s) :
    Calls Try.prog 24 #[.pointer (some ⟨g, 0, none⟩)] w (PLot 45 g (evV (Wn.evOf s).1) (Wn.evOf s).2 w) := by
  have hg := h.facts.1
  obtain ⟨B, hB⟩ : ∃ B, w.heap.size = B := ⟨_, rfl⟩
  have hk0 : Keeps No w (w.alloc (.cells #[.int .i64 0, .int .i64 0, .int .i64 0, .bool false, .slice none 0 0] 51)) := (Keeps.refl _ _).alloc _
  have hd1 := rbelow_any 45 g s 16 _ (h.keep hk0 fun hk => hk) (by omega)
  have hn : Wn.dr s % 16 < 16 := Nat.mod_lt _ (by omega)
  rw [show (16 : Int) = ((16 : Nat) : Int) from rfl, below_big (by omega)] at hd1
  have hb1 := fun (k : Nat) W (hk : 1 ≤ k ∧ k ≤ 100) (hW : LotAt 45 W g (Wn.nx s)) => (below_big (s := Wn.nx s) hk.1) ▸ rbelow_any 45 g (Wn.nx s) (k : Int) W hW (by omega)
  have hb2 := fun (k : Nat) W (hk : 1 ≤ k ∧ k ≤ 100) (hW : LotAt 45 W g (Wn.nx (Wn.nx s))) => (below_big (s := Wn.nx (Wn.nx s)) hk.1) ▸ rbelow_any 45 g (Wn.nx (Wn.nx s)) (k : Int) W hW (by omega)
  have hev : Wn.evOf s = Wn.evN (Wn.dr s % 16) s := rfl
  unfold Wn.evN at hev
  generalize Wn.evOf s = ev at *
  generalize Wn.dr (Wn.nx (Wn.nx s)) = d2 at *
  generalize Wn.dr (Wn.nx s) = d1 at *
  generalize Wn.nx (Wn.nx (Wn.nx s)) = s3 at *
  generalize Wn.nx (Wn.nx s) = s2 at *
  generalize Wn.nx s = s1 at *
  generalize Wn.dr s % 16 = n at *
  have Hd1 := hid hd1
  have Hb1 := hid hb1
  have Hb2 := hid hb2
  have Hev0 := hid hev
  clear hd1 hb1 hb2 hk0 h hev
  go_enter Try.func24, Try.ntmps24
  go_wp2_with fail
  refine Hd1.out.mono ?_
  rintro e w1 ⟨rfl, hl1, hK1⟩
  have hBg : B ≠ g := by omega
  have hB1 : w1.heap[B]? = some (.cells #[.int .i64 0, .int .i64 0, .int .i64 0, .bool false, .slice none 0 0] 51 (0, 0)) :=
    (hK1.block B (by simp; omega) fun e => hBg e).trans (by subst hB; exact heap_alloc_new w _)
  have hs1 : w.heap.size < w1.heap.size := by have := hK1.size; simp at this; omega
  obtain ⟨C, hC⟩ : ∃ C, w1.heap.size = C := ⟨_, rfl⟩
  have hE : EvW w g B C s1 ⟨1, 0, 0, false⟩ (w1.alloc (.cells #[.int .i64 1, .int .i64 0, .int .i64 0, .bool false, .slice none 0 0] 51)) := by
    have hka : Keeps No w1 (w1.alloc (.cells #[.int .i64 1, .int .i64 0, .int .i64 0, .bool false, .slice none 0 0] 51)) := (Keeps.refl _ _).alloc _
    refine ⟨hl1.keep hka fun hk => hk, (hka.block B (heap_lt hB1) fun hk => hk).trans hB1, by subst hC; exact heap_alloc_new w1 _, ?_, hBg, by omega, by omega, by omega, by omega⟩
    exact ((((Keeps.refl No w).alloc _).weak).trans hK1 fun _ _ hk => hk).then_ hka
  go_upto_region 3 with fail
  generalize (w1.alloc _) = w2 at *
  clear hl1 hK1 hB1 hC hs1 hB hg hBg
  by_cases h0 : n < 4
  · have hev := Hev0.out
    rw [if_pos h0] at hev
    push_cast at hev
    try rw [← beq04] at hev
    have Hev := hid hev
    clear hev
    as_aux_lemma =>
      have q12 : ((n : Int) == 12) = false := by rw [beq_eq_false_iff_ne]; omega
      have q13 : ((n : Int) == 13) = false := by rw [beq_eq_false_iff_ne]; omega
      have q14 : ((n : Int) == 14) = false := by rw [beq_eq_false_iff_ne]; omega
      have q15 : ((n : Int) == 15) = false := by rw [beq_eq_false_iff_ne]; omega
      go_upto_region 19 with fail
      obtain ⟨⟨c0, c1, c2, c3, c4⟩, f0, f1, f2, f3, f4⟩ := hE.facts
      have hBrow := row5 hE.2.1
      obtain ⟨⟨b0, b1, b2, b3, b4⟩, e0, e1, e2, e3, e4⟩ := hBrow
      have HE := hid hE
      clear hE
      go_wp2_with fail
      obtain ⟨k1, k2, k3⟩ := HE.out.fin rfl
      refine bodyPost_ret (results_cell_row rfl _ _ B 51 _ (0, 0) _ rfl k1 Try.underlying51 rfl (by kernel_rfl)) rfl ?_
      rw [Hev.out]
      exact ⟨rfl, k2, k3⟩
  by_cases h1 : n < 8
  · have hev := Hev0.out
    rw [if_neg h0, if_pos h1] at hev
    push_cast at hev
    try rw [← beq04] at hev
    have Hev := hid hev
    clear hev
    as_aux_lemma =>
      have q12 : ((n : Int) == 12) = false := by rw [beq_eq_false_iff_ne]; omega
      have q13 : ((n : Int) == 13) = false := by rw [beq_eq_false_iff_ne]; omega
      have q14 : ((n : Int) == 14) = false := by rw [beq_eq_false_iff_ne]; omega
      have q15 : ((n : Int) == 15) = false := by rw [beq_eq_false_iff_ne]; omega
      have q4 : ((n : Int) - 4) / 4 = 0 := by omega
      obtain ⟨⟨c0, c1, c2, c3, c4⟩, f0, f1, f2, f3, f4⟩ := hE.facts
      go_upto_region 5 with fail
      replace hE := hE.put (x' := ⟨2, 0, 0, false⟩) 0 _ rfl
      clear c0 c1 c2 c3 c4 f0 f1 f2 f3 f4
      generalize (w2.setCell _ _) = w3 at *
      go_wp2_with fail
      refine (Hb1.out 2 _ (by omega) hE.1).mono ?_
      intro e w4 hp
      obtain ⟨rfl, hE2⟩ := hE.call hp
      clear hp hE
      have hE := hE2
      clear hE2
      obtain ⟨⟨c0, c1, c2, c3, c4⟩, f0, f1, f2, f3, f4⟩ := hE.facts
      go_upto_region 6 with fail
      replace hE := hE.put (x' := ⟨2, (((d1 : Nat) : Int) % 2), 0, false⟩) 1 _ rfl
      clear c0 c1 c2 c3 c4 f0 f1 f2 f3 f4
      generalize (w4.setCell _ _) = w5 at *
      go_wp2_with fail
      refine (Hb2.out 4 _ (by omega) hE.1).mono ?_
      intro e w6 hp
      obtain ⟨rfl, hE2⟩ := hE.call hp
      clear hp hE
      have hE := hE2
      clear hE2
      obtain ⟨⟨c0, c1, c2, c3, c4⟩, f0, f1, f2, f3, f4⟩ := hE.facts
      go_upto_region 7 with fail
      replace hE := hE.put (x' := ⟨2, (((d1 : Nat) : Int) % 2), 0, (((d2 : Nat) : Int) % 4 == 0)⟩) 3 _ rfl
      clear c0 c1 c2 c3 c4 f0 f1 f2 f3 f4
      generalize (w6.setCell _ _) = w7 at *
      go_upto_region 19 with fail
      obtain ⟨⟨c0, c1, c2, c3, c4⟩, f0, f1, f2, f3, f4⟩ := hE.facts
      have hBrow := row5 hE.2.1
      obtain ⟨⟨b0, b1, b2, b3, b4⟩, e0, e1, e2, e3, e4⟩ := hBrow
      have HE := hid hE
      clear hE
      go_wp2_with fail
      obtain ⟨k1, k2, k3⟩ := HE.out.fin rfl
      refine bodyPost_ret (results_cell_row rfl _ _ B 51 _ (0, 0) _ rfl k1 Try.underlying51 rfl (by kernel_rfl)) rfl ?_
      rw [Hev.out]
      exact ⟨rfl, k2, k3⟩
  by_cases h2 : n < 12
  · have hev := Hev0.out
    rw [if_neg h0, if_neg h1, if_pos h2] at hev
    push_cast at hev
    try rw [← beq04] at hev
    have Hev := hid hev
    clear hev
    as_aux_lemma =>
      have q12 : ((n : Int) == 12) = false := by rw [beq_eq_false_iff_ne]; omega
      have q13 : ((n : Int) == 13) = false := by rw [beq_eq_false_iff_ne]; omega
      have q14 : ((n : Int) == 14) = false := by rw [beq_eq_false_iff_ne]; omega
      have q15 : ((n : Int) == 15) = false := by rw [beq_eq_false_iff_ne]; omega
      have q4 : ((n : Int) - 4) / 4 = 1 := by omega
      obtain ⟨⟨c0, c1, c2, c3, c4⟩, f0, f1, f2, f3, f4⟩ := hE.facts
      go_upto_region 5 with fail
      replace hE := hE.put (x' := ⟨3, 0, 0, false⟩) 0 _ rfl
      clear c0 c1 c2 c3 c4 f0 f1 f2 f3 f4
      generalize (w2.setCell _ _) = w3 at *
      go_wp2_with fail
      refine (Hb1.out 2 _ (by omega) hE.1).mono ?_
      intro e w4 hp
      obtain ⟨rfl, hE2⟩ := hE.call hp
      clear hp hE
      have hE := hE2
      clear hE2
      obtain ⟨⟨c0, c1, c2, c3, c4⟩, f0, f1, f2, f3, f4⟩ := hE.facts
      go_upto_region 6 with fail
      replace hE := hE.put (x' := ⟨3, (((d1 : Nat) : Int) % 2), 0, false⟩) 1 _ rfl
      clear c0 c1 c2 c3 c4 f0 f1 f2 f3 f4
      generalize (w4.setCell _ _) = w5 at *
      go_wp2_with fail
      refine (Hb2.out 4 _ (by omega) hE.1).mono ?_
      intro e w6 hp
      obtain ⟨rfl, hE2⟩ := hE.call hp
      clear hp hE
      have hE := hE2
      clear hE2
      obtain ⟨⟨c0, c1, c2, c3, c4⟩, f0, f1, f2, f3, f4⟩ := hE.facts
      go_upto_region 7 with fail
      replace hE := hE.put (x' := ⟨3, (((d1 : Nat) : Int) % 2), 0, (((d2 : Nat) : Int) % 4 == 0)⟩) 3 _ rfl
      clear c0 c1 c2 c3 c4 f0 f1 f2 f3 f4
      generalize (w6.setCell _ _) = w7 at *
      go_upto_region 19 with fail
      obtain ⟨⟨c0, c1, c2, c3, c4⟩, f0, f1, f2, f3, f4⟩ := hE.facts
      have hBrow := row5 hE.2.1
      obtain ⟨⟨b0, b1, b2, b3, b4⟩, e0, e1, e2, e3, e4⟩ := hBrow
      have HE := hid hE
      clear hE
      go_wp2_with fail
      obtain ⟨k1, k2, k3⟩ := HE.out.fin rfl
      refine bodyPost_ret (results_cell_row rfl _ _ B 51 _ (0, 0) _ rfl k1 Try.underlying51 rfl (by kernel_rfl)) rfl ?_
      rw [Hev.out]
      exact ⟨rfl, k2, k3⟩
  by_cases h3 : n = 12
  · have hev := Hev0.out
    rw [if_neg h0, if_neg h1, if_neg h2, if_pos h3] at hev
    push_cast at hev
    try rw [← beq04] at hev
    have Hev := hid hev
    clear hev
    as_aux_lemma =>
      subst h3
      obtain ⟨⟨c0, c1, c2, c3, c4⟩, f0, f1, f2, f3, f4⟩ := hE.facts
      go_upto_region 9 with fail
      replace hE := hE.put (x' := ⟨4, 0, 0, false⟩) 0 _ rfl
      clear c0 c1 c2 c3 c4 f0 f1 f2 f3 f4
      generalize (w2.setCell _ _) = w3 at *
      go_wp2_with fail
      refine (Hb1.out 2 _ (by omega) hE.1).mono ?_
      intro e w4 hp
      obtain ⟨rfl, hE2⟩ := hE.call hp
      clear hp hE
      have hE := hE2
      clear hE2
      obtain ⟨⟨c0, c1, c2, c3, c4⟩, f0, f1, f2, f3, f4⟩ := hE.facts
      go_upto_region 10 with fail
      replace hE := hE.put (x' := ⟨4, 0, (((d1 : Nat) : Int) % 2), false⟩) 2 _ rfl
      clear c0 c1 c2 c3 c4 f0 f1 f2 f3 f4
      generalize (w4.setCell _ _) = w5 at *
      go_wp2_with fail
      refine (Hb2.out 2 _ (by omega) hE.1).mono ?_
      intro e w6 hp
      obtain ⟨rfl, hE2⟩ := hE.call hp
      clear hp hE
      have hE := hE2
      clear hE2
      obtain ⟨⟨c0, c1, c2, c3, c4⟩, f0, f1, f2, f3, f4⟩ := hE.facts
      go_upto_region 11 with fail
      replace hE := hE.put (x' := ⟨4, (((d2 : Nat) : Int) % 2), (((d1 : Nat) : Int) % 2), false⟩) 1 _ rfl
      clear c0 c1 c2 c3 c4 f0 f1 f2 f3 f4
      generalize (w6.setCell _ _) = w7 at *
      go_upto_region 19 with fail
      obtain ⟨⟨c0, c1, c2, c3, c4⟩, f0, f1, f2, f3, f4⟩ := hE.facts
      have hBrow := row5 hE.2.1
      obtain ⟨⟨b0, b1, b2, b3, b4⟩, e0, e1, e2, e3, e4⟩ := hBrow
      have HE := hid hE
      clear hE
      go_wp2_with fail
      obtain ⟨k1, k2, k3⟩ := HE.out.fin rfl
      refine bodyPost_ret (results_cell_row rfl _ _ B 51 _ (0, 0) _ rfl k1 Try.underlying51 rfl (by kernel_rfl)) rfl ?_
      rw [Hev.out]
      exact ⟨rfl, k2, k3⟩
  by_cases h4 : n = 13
  · have hev := Hev0.out
    rw [if_neg h0, if_neg h1, if_neg h2, if_neg h3, if_pos h4] at hev
    push_cast at hev
    try rw [← beq04] at hev
    have Hev := hid hev
    clear hev
    as_aux_lemma =>
      subst h4
      obtain ⟨⟨c0, c1, c2, c3, c4⟩, f0, f1, f2, f3, f4⟩ := hE.facts
      go_upto_region 13 with fail
      replace hE := hE.put (x' := ⟨5, 0, 0, false⟩) 0 _ rfl
      clear c0 c1 c2 c3 c4 f0 f1 f2 f3 f4
      generalize (w2.setCell _ _) = w3 at *
      go_upto_region 19 with fail
      obtain ⟨⟨c0, c1, c2, c3, c4⟩, f0, f1, f2, f3, f4⟩ := hE.facts
      have hBrow := row5 hE.2.1
      obtain ⟨⟨b0, b1, b2, b3, b4⟩, e0, e1, e2, e3, e4⟩ := hBrow
      have HE := hid hE
      clear hE
      go_wp2_with fail
      obtain ⟨k1, k2, k3⟩ := HE.out.fin rfl
      refine bodyPost_ret (results_cell_row rfl _ _ B 51 _ (0, 0) _ rfl k1 Try.underlying51 rfl (by kernel_rfl)) rfl ?_
      rw [Hev.out]
      exact ⟨rfl, k2, k3⟩
  by_cases h5 : n = 14
  · have hev := Hev0.out
    rw [if_neg h0, if_neg h1, if_neg h2, if_neg h3, if_neg h4, if_pos h5] at hev
    push_cast at hev
    try rw [← beq04] at hev
    have Hev := hid hev
    clear hev
    as_aux_lemma =>
      subst h5
      obtain ⟨⟨c0, c1, c2, c3, c4⟩, f0, f1, f2, f3, f4⟩ := hE.facts
      go_upto_region 15 with fail
      replace hE := hE.put (x' := ⟨6, 0, 0, false⟩) 0 _ rfl
      clear c0 c1 c2 c3 c4 f0 f1 f2 f3 f4
      generalize (w2.setCell _ _) = w3 at *
      go_upto_region 19 with fail
      obtain ⟨⟨c0, c1, c2, c3, c4⟩, f0, f1, f2, f3, f4⟩ := hE.facts
      have hBrow := row5 hE.2.1
      obtain ⟨⟨b0, b1, b2, b3, b4⟩, e0, e1, e2, e3, e4⟩ := hBrow
      have HE := hid hE
      clear hE
      go_wp2_with fail
      obtain ⟨k1, k2, k3⟩ := HE.out.fin rfl
      refine bodyPost_ret (results_cell_row rfl _ _ B 51 _ (0, 0) _ rfl k1 Try.underlying51 rfl (by kernel_rfl)) rfl ?_
      rw [Hev.out]
      exact ⟨rfl, k2, k3⟩
  have hev := Hev0.out
  rw [if_neg h0, if_neg h1, if_neg h2, if_neg h3, if_neg h4, if_neg h5] at hev
  push_cast at hev
  try rw [← beq04] at hev
  have Hev := hid hev
  clear hev
  as_aux_lemma =>
    obtain rfl : n = 15 := by omega
    obtain ⟨⟨c0, c1, c2, c3, c4⟩, f0, f1, f2, f3, f4⟩ := hE.facts
    go_upto_region 17 with fail
    replace hE := hE.put (x' := ⟨7, 0, 0, false⟩) 0 _ rfl
    clear c0 c1 c2 c3 c4 f0 f1 f2 f3 f4
    generalize (w2.setCell _ _) = w3 at *
    go_wp2_with fail
    refine (Hb1.out 6 _ (by omega) hE.1).mono ?_
    intro e w4 hp
    obtain ⟨rfl, hE2⟩ := hE.call hp
    clear hp hE
    have hE := hE2
    clear hE2
    obtain ⟨⟨c0, c1, c2, c3, c4⟩, f0, f1, f2, f3, f4⟩ := hE.facts
    go_upto_region 18 with fail
    replace hE := hE.put (x' := ⟨7, 0, (((d1 : Nat) : Int) % 6), false⟩) 2 _ rfl
    clear c0 c1 c2 c3 c4 f0 f1 f2 f3 f4
    generalize (w4.setCell _ _) = w5 at *
    go_wp2_with fail
    refine (Hb2.out 64 _ (by omega) hE.1).mono ?_
    intro e w6 hp
    obtain ⟨rfl, hE2⟩ := hE.call hp
    clear hp hE
    have hE := hE2
    clear hE2
    obtain ⟨⟨c0, c1, c2, c3, c4⟩, f0, f1, f2, f3, f4⟩ := hE.facts
    go_upto_region 19 with fail
    replace hE := hE.put (x' := ⟨7, (((d2 : Nat) : Int) % 64), (((d1 : Nat) : Int) % 6), false⟩) 1 _ rfl
    clear c0 c1 c2 c3 c4 f0 f1 f2 f3 f4
    generalize (w6.setCell _ _) = w7 at *
    obtain ⟨⟨c0, c1, c2, c3, c4⟩, f0, f1, f2, f3, f4⟩ := hE.facts
    have hBrow := row5 hE.2.1
    obtain ⟨⟨b0, b1, b2, b3, b4⟩, e0, e1, e2, e3, e4⟩ := hBrow
    have HE := hid hE
    clear hE
    go_wp2_with fail
    obtain ⟨k1, k2, k3⟩ := HE.out.fin rfl
    refine bodyPost_ret (results_cell_row rfl _ _ B 51 _ (0, 0) _ rfl k1 Try.underlying51 rfl (by kernel_rfl)) rfl ?_
    rw [Hev.out]
    exact ⟨rfl, k2, k3⟩
end Go.Proofs.Ytdkmfppdiggpfaa
