/- The walks through the events. -/
import Derived.Test.YtdkmfppdiggpfaaLC
namespace Go.Proofs.Ytdkmfppdiggpfaa
open Go.RowKit Wm

def evC (x : Wn.Evt) : Array Value := #[.int .i64 x.kind, .int .i64 x.at_, .int .i64 x.n, .bool x.keep, .slice none 0 0]
def evV (x : Wn.Evt) : Value := .agg (evC x)
/-- Five cells of a block. -/
theorem row5 {w : World} {B : Nat} {a b c d e : Value} {T : TypeId} (h : w.heap[B]? = some (.cells #[a, b, c, d, e] T (0, 0))) :
    (w.cell? ⟨B, 0, none⟩ = some a ∧ w.cell? ⟨B, 1, none⟩ = some b ∧ w.cell? ⟨B, 2, none⟩ = some c ∧ w.cell? ⟨B, 3, none⟩ = some d ∧ w.cell? ⟨B, 4, none⟩ = some e) ∧
    (w.frozen? ⟨B, 0, none⟩ = false ∧ w.frozen? ⟨B, 1, none⟩ = false ∧ w.frozen? ⟨B, 2, none⟩ = false ∧ w.frozen? ⟨B, 3, none⟩ = false ∧ w.frozen? ⟨B, 4, none⟩ = false) := by
  have hc : ∀ i, w.cell? ⟨B, i, none⟩ = _ := fun i => cell_of_row _ _ i _ _ _ h
  exact ⟨⟨by rw [hc]; rfl, by rw [hc]; rfl, by rw [hc]; rfl, by rw [hc]; rfl, by rw [hc]; rfl⟩, frozen_of_row _ _ _ _ _ h, frozen_of_row _ _ _ _ _ h, frozen_of_row _ _ _ _ _ h, frozen_of_row _ _ _ _ _ h, frozen_of_row _ _ _ _ _ h⟩
theorem set5 {w : World} {B : Nat} {a b c d e a' b' c' d' e' : Value} {T : TypeId} (h : w.heap[B]? = some (.cells #[a, b, c, d, e] T (0, 0))) :
    (((((w.setCell ⟨B, 0, none⟩ a').setCell ⟨B, 1, none⟩ b').setCell ⟨B, 2, none⟩ c').setCell ⟨B, 3, none⟩ d').setCell ⟨B, 4, none⟩ e').heap[B]? = some (.cells #[a', b', c', d', e'] T (0, 0)) := by
  rw [heap_setCell_same _ B 4 _ T _ (heap_setCell_same _ B 3 _ T _ (heap_setCell_same _ B 2 _ T _ (heap_setCell_same _ B 1 _ T _ (heap_setCell_same _ B 0 _ T _ h))))]; rfl
theorem keep5 {w : World} {B : Nat} {a' b' c' d' e' : Value} : Keeps (Only B) w (((((w.setCell ⟨B, 0, none⟩ a').setCell ⟨B, 1, none⟩ b').setCell ⟨B, 2, none⟩ c').setCell ⟨B, 3, none⟩ d').setCell ⟨B, 4, none⟩ e') :=
  (((((Keeps.refl _ _).only _ _).only _ _).only _ _).only _ _).only _ _
theorem beq0 (x : Nat) (k : Nat) : (((x : Int) % (k : Int)) == 0) = decide (x % k = 0) := by
  rw [Bool.eq_iff_iff]; simp; omega

/-- An event drawn into a new block B. -/
theorem fresh5 {w w1 : World} {g B s : Nat} {T : TypeId} (hB : w.heap.size = B) (hg : g < w.heap.size) (hK : Keeps (Only g) (w.alloc (.cells #[.int .i64 0, .int .i64 0, .int .i64 0, .bool false, .slice none 0 0] T)) w1) (hl : LotAt 60 w1 g s) :
    w1.heap[B]? = some (.cells #[.int .i64 0, .int .i64 0, .int .i64 0, .bool false, .slice none 0 0] T (0, 0)) ∧ ∀ a b c d e, Keeps (Only g) w (((((w1.setCell ⟨B, 0, none⟩ a).setCell ⟨B, 1, none⟩ b).setCell ⟨B, 2, none⟩ c).setCell ⟨B, 3, none⟩ d).setCell ⟨B, 4, none⟩ e) ∧
      LotAt 60 (((((w1.setCell ⟨B, 0, none⟩ a).setCell ⟨B, 1, none⟩ b).setCell ⟨B, 2, none⟩ c).setCell ⟨B, 3, none⟩ d).setCell ⟨B, 4, none⟩ e) g s := by
  subst hB
  have hne : w.heap.size ≠ g := by omega
  refine ⟨(hK.block _ (by simp) fun e => hne e).trans (heap_alloc_new w _), fun a b c d e => ⟨?_, hl.keep keep5 fun e => hne e.symm⟩⟩
  have h1 : Keeps (Only g) w w1 := (((Keeps.refl No w).alloc _).weak).trans hK fun _ _ hk => hk
  exact h1.trans keep5 fun k hl e => by unfold Only at e; omega

set_option maxRecDepth 20000 in
set_option maxHeartbeats 2000000 in
theorem told_any (g s kind : Nat) (w : World) (h : LotAt 60 w g s) :
    Calls Try.prog 44 #[.pointer (some ⟨g, 0, none⟩), .int .i64 (kind : Int)] w (PLot 60 g (evV ⟨kind, (Wn.dr s % 2 : Nat), 0, decide (Wn.dr (Wn.nx s) % 4 = 0)⟩) (Wn.nx (Wn.nx s)) w) := by
  have hg := h.facts.1
  obtain ⟨B, hB⟩ : ∃ B, w.heap.size = B := ⟨_, rfl⟩
  have hk0 : Keeps No w (w.alloc (.cells #[.int .i64 0, .int .i64 0, .int .i64 0, .bool false, .slice none 0 0] 49)) := (Keeps.refl _ _).alloc _
  have hd1 := ddbelow_any 60 g s 2 _ (h.keep hk0 fun hk => hk) (by omega) (by omega)
  have hd2 := fun W hW => ddbelow_any 60 g (Wn.nx s) 4 W hW (by omega) (by omega)
  have h4 := beq0 (Wn.dr (Wn.nx s)) 4
  generalize Wn.dr (Wn.nx s) = y at *
  generalize Wn.dr s = x at *
  generalize Wn.nx (Wn.nx s) = s2 at *
  have Hd1 := hid hd1
  have Hd2 := hid hd2
  have H4 := hid h4
  have HB := hid hB
  clear hd1 hd2 hk0 h h4
  go_enter Try.func44, Try.ntmps44
  clear hB
  go_wp2_with fail
  rw [HB.out]
  refine Hd1.out.mono ?_
  rintro e w1 ⟨rfl, hl1, hK1⟩
  go_wp2_with fail
  refine (Hd2.out _ hl1).mono ?_
  rintro e w2 ⟨rfl, hl2, hK2⟩
  obtain ⟨hgb, hfin⟩ := fresh5 HB.out hg (hK1.trans hK2 fun _ _ hk => hk) hl2
  have Hgb := hid hgb
  have Hfin := hid hfin
  obtain ⟨⟨c0, c1, c2, c3, c4⟩, f0, f1, f2, f3, f4⟩ := row5 hgb
  clear hgb hfin hK1 hK2 hl1 hl2
  go_wp2_with fail
  refine bodyPost_ret (results_cell_row rfl _ _ B 49 _ (0, 0) _ rfl (set5 Hgb.out) Try.underlying49 rfl (by kernel_rfl)) rfl ?_
  obtain ⟨k1, k2⟩ := Hfin.out _ _ _ _ _
  refine ⟨?_, k2, k1⟩
  rw [← H4.out]
  rfl

set_option maxRecDepth 20000 in
set_option maxHeartbeats 4000000 in
theorem levent_any (g s : Nat) (w : World) (h : LotAt 60 w g s) :
    Calls Try.prog 23 #[.pointer (some ⟨g, 0, none⟩)] w (PLot 60 g (evV (Wn.evOf s).1) (Wn.evOf s).2 w) := by
  have hg := h.facts.1
  obtain ⟨B, hB⟩ : ∃ B, w.heap.size = B := ⟨_, rfl⟩
  have hk0 : Keeps No w (w.alloc (.cells #[.int .i64 0, .int .i64 0, .int .i64 0, .bool false, .slice none 0 0] 49)) := (Keeps.refl _ _).alloc _
  have hd1 := ddbelow_any 60 g s 16 _ (h.keep hk0 fun hk => hk) (by omega) (by omega)
  have hn : Wn.dr s % 16 < 16 := Nat.mod_lt _ (by omega)
  have hb := fun (t k : Nat) W (hk : 1 ≤ k ∧ k ≤ 100) hW => ddbelow_any 60 g t k W hW hk.1 (by omega)
  have ht := fun (kind : Nat) W hW => told_any g (Wn.nx s) kind W hW
  have hev : Wn.evOf s = Wn.evN (Wn.dr s % 16) s := rfl
  have Hd1 := hid hd1
  have Hb := hid hb
  have Ht := hid ht
  have Hev0 := hid hev
  have HB := hid hB
  clear hd1 hb ht hk0 h hev
  generalize Wn.dr s % 16 = n at *
  go_enter Try.func23, Try.ntmps23
  go_wp2_with fail
  refine Hd1.out.mono ?_
  rintro e w1 ⟨rfl, hl1, hK1⟩
  by_cases h0 : n < 4
  · have hev := Hev0.out
    unfold Wn.evN at hev
    rw [if_pos h0] at hev
    have Hev := hid hev
    clear hev
    obtain ⟨hgb, hfin⟩ := fresh5 HB.out hg (hK1) hl1
    have Hgb := hid hgb
    have Hfin := hid hfin
    obtain ⟨⟨c0, c1, c2, c3, c4⟩, f0, f1, f2, f3, f4⟩ := row5 hgb
    clear hgb hfin
    go_wp2_with fail
    refine bodyPost_ret (results_cell_row rfl _ _ B 49 _ (0, 0) _ rfl (set5 Hgb.out) Try.underlying49 rfl (by kernel_rfl)) rfl ?_
    obtain ⟨k1, k2⟩ := Hfin.out _ _ _ _ _
    rw [Hev.out]
    exact ⟨rfl, k2, k1⟩
  by_cases h1 : n < 8
  · have hev := Hev0.out
    unfold Wn.evN at hev
    rw [if_neg h0, if_pos h1] at hev
    have Hev := hid hev
    clear hev
    go_wp2_with fail
    refine (Ht.out 2 _ hl1).mono ?_
    rintro e w2 ⟨rfl, hl2, hK2⟩
    unfold evV evC
    obtain ⟨hgb, hfin⟩ := fresh5 HB.out hg (hK1.trans hK2 fun _ _ hk => hk) hl2
    have Hgb := hid hgb
    have Hfin := hid hfin
    obtain ⟨⟨c0, c1, c2, c3, c4⟩, f0, f1, f2, f3, f4⟩ := row5 hgb
    clear hgb hfin
    go_wp2_with fail
    refine bodyPost_ret (results_cell_row rfl _ _ B 49 _ (0, 0) _ rfl (set5 Hgb.out) Try.underlying49 rfl (by kernel_rfl)) rfl ?_
    obtain ⟨k1, k2⟩ := Hfin.out _ _ _ _ _
    rw [Hev.out]
    exact ⟨rfl, k2, k1⟩
  by_cases h2 : n < 12
  · have hev := Hev0.out
    unfold Wn.evN at hev
    rw [if_neg h0, if_neg h1, if_pos h2] at hev
    have Hev := hid hev
    clear hev
    go_wp2_with fail
    refine (Ht.out 3 _ hl1).mono ?_
    rintro e w2 ⟨rfl, hl2, hK2⟩
    unfold evV evC
    obtain ⟨hgb, hfin⟩ := fresh5 HB.out hg (hK1.trans hK2 fun _ _ hk => hk) hl2
    have Hgb := hid hgb
    have Hfin := hid hfin
    obtain ⟨⟨c0, c1, c2, c3, c4⟩, f0, f1, f2, f3, f4⟩ := row5 hgb
    clear hgb hfin
    go_wp2_with fail
    refine bodyPost_ret (results_cell_row rfl _ _ B 49 _ (0, 0) _ rfl (set5 Hgb.out) Try.underlying49 rfl (by kernel_rfl)) rfl ?_
    obtain ⟨k1, k2⟩ := Hfin.out _ _ _ _ _
    rw [Hev.out]
    exact ⟨rfl, k2, k1⟩
  by_cases h3 : n = 12
  · have hev := Hev0.out
    unfold Wn.evN at hev
    rw [if_neg h0, if_neg h1, if_neg h2, if_pos h3] at hev
    have Hev := hid hev
    subst h3
    clear hev
    go_wp2_with fail
    refine (Hb.out _ 2 _ (by omega) hl1).mono ?_
    rintro e w2 ⟨rfl, hl2, hK2⟩
    go_wp2_with fail
    refine (Hb.out _ 2 _ (by omega) hl2).mono ?_
    rintro e w3 ⟨rfl, hl3, hK3⟩
    obtain ⟨hgb, hfin⟩ := fresh5 HB.out hg ((hK1.trans hK2 fun _ _ hk => hk).trans hK3 fun _ _ hk => hk) hl3
    have Hgb := hid hgb
    have Hfin := hid hfin
    obtain ⟨⟨c0, c1, c2, c3, c4⟩, f0, f1, f2, f3, f4⟩ := row5 hgb
    clear hgb hfin
    go_wp2_with fail
    refine bodyPost_ret (results_cell_row rfl _ _ B 49 _ (0, 0) _ rfl (set5 Hgb.out) Try.underlying49 rfl (by kernel_rfl)) rfl ?_
    obtain ⟨k1, k2⟩ := Hfin.out _ _ _ _ _
    rw [Hev.out]
    exact ⟨rfl, k2, k1⟩
  by_cases h4 : n = 13
  · have hev := Hev0.out
    unfold Wn.evN at hev
    rw [if_neg h0, if_neg h1, if_neg h2, if_neg h3, if_pos h4] at hev
    have Hev := hid hev
    subst h4
    clear hev
    obtain ⟨hgb, hfin⟩ := fresh5 HB.out hg (hK1) hl1
    have Hgb := hid hgb
    have Hfin := hid hfin
    obtain ⟨⟨c0, c1, c2, c3, c4⟩, f0, f1, f2, f3, f4⟩ := row5 hgb
    clear hgb hfin
    go_wp2_with fail
    refine bodyPost_ret (results_cell_row rfl _ _ B 49 _ (0, 0) _ rfl (set5 Hgb.out) Try.underlying49 rfl (by kernel_rfl)) rfl ?_
    obtain ⟨k1, k2⟩ := Hfin.out _ _ _ _ _
    rw [Hev.out]
    exact ⟨rfl, k2, k1⟩
  by_cases h5 : n = 14
  · have hev := Hev0.out
    unfold Wn.evN at hev
    rw [if_neg h0, if_neg h1, if_neg h2, if_neg h3, if_neg h4, if_pos h5] at hev
    have Hev := hid hev
    subst h5
    clear hev
    obtain ⟨hgb, hfin⟩ := fresh5 HB.out hg (hK1) hl1
    have Hgb := hid hgb
    have Hfin := hid hfin
    obtain ⟨⟨c0, c1, c2, c3, c4⟩, f0, f1, f2, f3, f4⟩ := row5 hgb
    clear hgb hfin
    go_wp2_with fail
    refine bodyPost_ret (results_cell_row rfl _ _ B 49 _ (0, 0) _ rfl (set5 Hgb.out) Try.underlying49 rfl (by kernel_rfl)) rfl ?_
    obtain ⟨k1, k2⟩ := Hfin.out _ _ _ _ _
    rw [Hev.out]
    exact ⟨rfl, k2, k1⟩
  have hev := Hev0.out
  unfold Wn.evN at hev
  rw [if_neg h0, if_neg h1, if_neg h2, if_neg h3, if_neg h4, if_neg h5] at hev
  have Hev := hid hev
  clear hev
  go_wp2_with fail
  refine (Hb.out _ 6 _ (by omega) hl1).mono ?_
  rintro e w2 ⟨rfl, hl2, hK2⟩
  go_wp2_with fail
  refine (Hb.out _ 64 _ (by omega) hl2).mono ?_
  rintro e w3 ⟨rfl, hl3, hK3⟩
  obtain ⟨hgb, hfin⟩ := fresh5 HB.out hg ((hK1.trans hK2 fun _ _ hk => hk).trans hK3 fun _ _ hk => hk) hl3
  have Hgb := hid hgb
  have Hfin := hid hfin
  obtain ⟨⟨c0, c1, c2, c3, c4⟩, f0, f1, f2, f3, f4⟩ := row5 hgb
  clear hgb hfin
  go_wp2_with fail
  refine bodyPost_ret (results_cell_row rfl _ _ B 49 _ (0, 0) _ rfl (set5 Hgb.out) Try.underlying49 rfl (by kernel_rfl)) rfl ?_
  obtain ⟨k1, k2⟩ := Hfin.out _ _ _ _ _
  rw [Hev.out]
  exact ⟨rfl, k2, k1⟩
end Go.Proofs.Ytdkmfppdiggpfaa
