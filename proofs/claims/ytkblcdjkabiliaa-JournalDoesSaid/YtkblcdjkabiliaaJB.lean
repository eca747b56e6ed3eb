/- The journal in memory. -/
import Derived.Test.YtkblcdjkabiliaaJA
namespace Go.Proofs.Ytkblcdjkabiliaa
open Go.RowKit Wm

def U (A B : Blocks) : Blocks := fun k => A k ∨ B k
/-- Values that read as slices of bytes. -/
def SLV (M : Blocks) (w : World) (us : List Value) (ls : List (List UInt8)) : Prop :=
  us.length = ls.length ∧ ∀ (i : Nat) (l : List UInt8), ls[i]? = some l → ∃ u, us[i]? = some u ∧ SB M w u l
theorem SLV.shift {M M' K : Blocks} {w w' : World} {us : List Value} {ls : List (List UInt8)} (h : SLV M w us ls) (hk : Keeps K w w') (hK : ∀ k, k < w.heap.size → K k → M k) (hm : ∀ k, k < w.heap.size → M' k → M k) : SLV M' w' us ls := by
  refine ⟨h.1, fun i l hi => ?_⟩
  obtain ⟨u, hu, hb⟩ := h.2 i l hi
  exact ⟨u, hu, sv_shift hb hk hK hm⟩
theorem SLV.snoc {M : Blocks} {w : World} {us : List Value} {ls : List (List UInt8)} {u : Value} {x : List UInt8} (h : SLV M w us ls) (hu : SB M w u x) : SLV M w (us ++ [u]) (ls ++ [x]) := by
  refine ⟨by simp [h.1], fun i l hi => ?_⟩
  by_cases hlt : i < ls.length
  · rw [List.getElem?_append_left hlt] at hi
    obtain ⟨u', hu', hb⟩ := h.2 i l hi
    exact ⟨u', by rw [List.getElem?_append_left (by rw [h.1]; exact hlt)]; exact hu', hb⟩
  · rw [List.getElem?_append_right (by omega)] at hi
    have h0 : i - ls.length = 0 := by
      rcases Nat.eq_zero_or_pos (i - ls.length) with h0 | h0
      · exact h0
      · rw [List.getElem?_eq_none (by simp; omega)] at hi; cases hi
    rw [h0] at hi
    simp at hi
    subst hi
    exact ⟨u, by rw [List.getElem?_append_right (by rw [h.1]; omega), h.1, h0]; rfl, hu⟩
theorem SLV.nil (M : Blocks) (w : World) : SLV M w [] [] := ⟨rfl, fun i l h => by simp at h⟩

theorem row_ne {w : World} {p g : Nat} {v : Value} {n : Nat} {xs : List Value} {C : Array Value} {e e2 : TypeId} {base size : Nat} (hh : w.heap[p]? = some (.cells C e (0, 0))) (he : e ≠ e2) (ho : w.ownsRow base e2 size v n xs) (hg : v.ownBlock = some g) : g ≠ p := by
  rintro rfl
  rcases ho.2 with ⟨rfl, _⟩ | ⟨g', cap, cur, rfl, _, hh', _⟩
  · cases hg
  · simp [Value.ownBlock] at hg
    subst hg
    rw [hh] at hh'
    injection hh' with h1
    injection h1 with _ h2
    exact he h2
theorem row_row {w : World} {g : Nat} {v v2 : Value} {n n2 : Nat} {xs xs2 : List Value} {e e2 : TypeId} {b1 b2 s1 s2 : Nat} (h1 : w.ownsRow b1 e s1 v n xs) (h2 : w.ownsRow b2 e2 s2 v2 n2 xs2) (he : e ≠ e2) (hg : v.ownBlock = some g) : v2.ownBlock ≠ some g := by
  intro hg2
  rcases h1.2 with ⟨rfl, _⟩ | ⟨g', cap, cur, rfl, _, hh', _⟩
  · cases hg
  · simp [Value.ownBlock] at hg
    subst hg
    exact row_ne hh' he h2 hg2 rfl

/-- A journal's three cells at block p (its type's number T), its records in a row of its own; each record's bytes in no block of M. -/
def JnlAt (T : TypeId) (M : Blocks) (w : World) (p d : Nat) (v : Value) (j : Wn.Jrn) : Prop :=
  ∃ a n c us, v = .slice a n c ∧ w.heap[p]? = some (.cells #[.pointer (some ⟨d, 0, none⟩), .slice a n c, .bool j.broken] T (0, 0)) ∧
    w.ownsRow 0 24 1 (.slice a n c) n us ∧ SLV M w us j.l
theorem JnlAt.facts {T : TypeId} {M : Blocks} {w : World} {p d : Nat} {v : Value} {j : Wn.Jrn} (h : JnlAt T M w p d v j) :
    ∃ a n c us, v = .slice a n c ∧ n = j.l.length ∧ n ≤ c ∧ c ≤ maxLen ∧ p < w.heap.size ∧ (∀ i, w.frozen? ⟨p, i, none⟩ = false) ∧
      w.cell? ⟨p, 0, none⟩ = some (.pointer (some ⟨d, 0, none⟩)) ∧ w.cell? ⟨p, 1, none⟩ = some (.slice a n c) ∧ w.cell? ⟨p, 2, none⟩ = some (.bool j.broken) ∧
      w.ownsRow 0 24 1 (.slice a n c) n us ∧ SLV M w us j.l ∧ w.heap[p]? = some (.cells #[.pointer (some ⟨d, 0, none⟩), .slice a n c, .bool j.broken] T (0, 0)) := by
  obtain ⟨a, n, c, us, rfl, hh, ho, hs⟩ := h
  have hc : ∀ i, w.cell? ⟨p, i, none⟩ = _ := fun i => cell_of_row _ _ i _ _ _ hh
  have h0 : w.cell? ⟨p, 0, none⟩ = some (.pointer (some ⟨d, 0, none⟩)) := by rw [hc]; rfl
  have hsv := SV.of_own (M := No) ho (fun _ _ hk => hk)
  have hn : n = j.l.length := by have := hsv.len; have := hs.1; omega
  exact ⟨a, n, c, us, rfl, hn, hsv.cap.1, hsv.cap.2, cell_lt h0, fun i => frozen_of_row _ _ _ _ _ hh, h0, by rw [hc]; rfl, by rw [hc]; rfl, ho, hs, hh⟩
theorem JnlAt.sl {T : TypeId} {M : Blocks} {w : World} {p d : Nat} {v : Value} {j : Wn.Jrn} (h : JnlAt T M w p d v j) : SL No w v j.l := by
  obtain ⟨a, n, c, us, rfl, hh, ho, hs⟩ := h
  refine ⟨us, SV.of_own ho fun _ _ hk => hk, hs.1, fun i l hi => ?_⟩
  obtain ⟨u, hu, hb⟩ := hs.2 i l hi
  exact ⟨u, hu, SV.no hb⟩
theorem JnlAt.lt {T : TypeId} {M : Blocks} {w : World} {p d : Nat} {v : Value} {j : Wn.Jrn} (h : JnlAt T M w p d v j) : ∀ k, Foot p v k → k < w.heap.size := by
  obtain ⟨a, n, c, us, rfl, _, _, _, hp, _, _, _, _, ho, _⟩ := h.facts
  rintro k (rfl | hk)
  · exact hp
  · exact (ho.lt k hk).2
/-- What turns none of its blocks. -/
theorem JnlAt.keep {T : TypeId} {M M' K : Blocks} {w w' : World} {p d : Nat} {v : Value} {j : Wn.Jrn} (h : JnlAt T M w p d v j) (hk : Keeps K w w') (hf : ∀ k, Foot p v k → ¬ K k) (hK : ∀ k, k < w.heap.size → K k → M k) (hm : ∀ k, k < w.heap.size → M' k → M k) : JnlAt T M' w' p d v j := by
  have hp := h.lt p (.inl rfl)
  obtain ⟨a, n, c, us, rfl, hh, ho, hs⟩ := h
  exact ⟨a, n, c, us, rfl, (hk.block p hp (hf p (.inl rfl))).trans hh, ownsRow_keep ho hk fun g hg => hf g (.inr hg), hs.shift hk hK hm⟩
theorem JnlAt.ne {T : TypeId} {M : Blocks} {w : World} {p d : Nat} {v : Value} {j : Wn.Jrn} (h : JnlAt T M w p d v j) (hT : T ≠ 24) : v.ownBlock ≠ some p := by
  obtain ⟨a, n, c, us, rfl, hh, ho, hs⟩ := h
  intro e
  exact row_ne hh hT ho e rfl

/-- The cell 'broken' written. -/
theorem JnlAt.broke {T : TypeId} {M : Blocks} {w : World} {p d : Nat} {v : Value} {j : Wn.Jrn} (h : JnlAt T M w p d v j) (hT : T ≠ 24) (hM : M p) (b : Bool) : JnlAt T M (w.setCell ⟨p, 2, none⟩ (.bool b)) p d v { j with broken := b } := by
  have hne := h.ne hT
  obtain ⟨a, n, c, us, rfl, hh, ho, hs⟩ := h
  have hk : Keeps (Only p) w (w.setCell ⟨p, 2, none⟩ (.bool b)) := (Keeps.refl _ _).only _ _
  refine ⟨a, n, c, us, rfl, ?_, ownsRow_keep ho hk fun g hg e => ?_, hs.shift hk (fun k _ e => by unfold Only at e; exact e ▸ hM) (fun _ _ hk => hk)⟩
  · rw [heap_setCell_same _ p 2 _ T _ hh]; rfl
  · unfold Only at e; subst e; exact hne hg
/-- A record put behind the others: the row has grown by it, and the new slice is written. -/
theorem JnlAt.snoc {T : TypeId} {R : Blocks} {w w1 w2 : World} {p d : Nat} {a a' : Option Addr} {n c r c' : Nat} {us : List Value} {u : Value} {x : List UInt8} {j : Wn.Jrn}
    (hh : w.heap[p]? = some (.cells #[.pointer (some ⟨d, 0, none⟩), .slice a n c, .bool j.broken] T (0, 0))) (hT : T ≠ 24)
    (ho : w.ownsRow 0 24 1 (.slice a n c) n us) (hs : SLV (U (Foot p (.slice a n c)) R) w us j.l)
    (hk1 : Keeps No w w1) (hu : SB (U (Foot p (.slice a n c)) R) w1 u x)
    (ho2 : w2.ownsRow 0 24 1 (.slice a' r c') r (us ++ [u])) (hg : w1.grownBy w2 (Value.slice a n c).ownBlock)
    (hb : (Value.slice a' r c').ownBlock = (Value.slice a n c).ownBlock ∨ (Value.slice a' r c').ownBlock = some w1.heap.size) :
    JnlAt T (U (Foot p (.slice a' r c')) R) (w2.setCell ⟨p, 1, none⟩ (.slice a' r c')) p d (.slice a' r c') { j with l := j.l ++ [x] } ∧
    Keeps (Foot p (.slice a n c)) w (w2.setCell ⟨p, 1, none⟩ (.slice a' r c')) ∧ ∀ k, Foot p (.slice a' r c') k → Foot p (.slice a n c) k ∨ w1.heap.size ≤ k := by
  have hp : p < w.heap.size := by
    rcases Nat.lt_or_ge p w.heap.size with hl | hl
    · exact hl
    · rw [Array.getElem?_eq_none hl] at hh; cases hh
  have hne : (Value.slice a n c).ownBlock ≠ some p := fun e => row_ne hh hT ho e rfl
  have hgK : Keeps (Foot p (.slice a n c)) w w2 := (hk1.weak).grown hg fun g e _ => .inr e
  have hK : Keeps (Foot p (.slice a n c)) w (w2.setCell ⟨p, 1, none⟩ (.slice a' r c')) := hgK.setCell (p := ⟨p, 1, none⟩) (fun _ => .inl rfl) _
  have hh1 : w1.heap[p]? = some (.cells #[.pointer (some ⟨d, 0, none⟩), .slice a n c, .bool j.broken] T (0, 0)) := (hk1.block p hp fun hk => hk).trans hh
  have hp1 : p < w1.heap.size := Nat.lt_of_lt_of_le hp hk1.size
  have hh2 : w2.heap[p]? = some (.cells #[.pointer (some ⟨d, 0, none⟩), .slice a n c, .bool j.broken] T (0, 0)) := (hg.block p hp1 fun e => hne e.symm).trans hh1
  have hfr : ∀ k, Foot p (.slice a' r c') k → Foot p (.slice a n c) k ∨ w1.heap.size ≤ k := by
    rintro k (rfl | hk)
    · exact .inl (.inl rfl)
    · rcases hb with hb | hb
      · exact .inl (.inr (hb ▸ hk))
      · rw [hb] at hk; injection hk with hk; exact .inr (by omega)
  have hne' : (Value.slice a' r c').ownBlock ≠ some p := by
    rcases hb with hb | hb
    · rw [hb]; exact hne
    · rw [hb]; intro e; injection e with e; omega
  have hko : Keeps (Only p) w2 (w2.setCell ⟨p, 1, none⟩ (.slice a' r c')) := (Keeps.refl _ _).only _ _
  refine ⟨⟨a', r, c', us ++ [u], rfl, ?_, ownsRow_keep ho2 hko fun g hg e => ?_, SLV.snoc ?_ ?_⟩, hK, hfr⟩
  · rw [heap_setCell_same _ p 1 _ T _ hh2]; rfl
  · unfold Only at e; subst e; exact hne' hg
  · refine hs.shift hK (fun k _ hk => .inl hk) fun k hl hk => ?_
    rcases hk with hk | hk
    · rcases hfr k hk with h | h
      · exact .inl h
      · have := hk1.size; omega
    · exact .inr hk
  · have hK1 : Keeps (Foot p (.slice a n c)) w1 (w2.setCell ⟨p, 1, none⟩ (.slice a' r c')) := ((Keeps.refl _ _).grown hg fun g e _ => .inr e).setCell (p := ⟨p, 1, none⟩) (fun _ => .inl rfl) _
    refine sv_shift hu hK1 (fun k _ hk => .inl hk) fun k hl hk => ?_
    rcases hk with hk | hk
    · rcases hfr k hk with h | h
      · exact .inl h
      · omega
    · exact .inr hk

/-- The journal's blocks and its disk's. -/
def JB (d : Nat) (v : Value) (p : Nat) (vl : Value) : Blocks := U (Foot d v) (Foot p vl)
/-- A journal on its disk; R: what else may turn. -/
def JS (R : Blocks) (w : World) (d : Nat) (v : Value) (p : Nat) (vl : Value) (s : Wn.Dsk) (j : Wn.Jrn) : Prop :=
  DiskAt w d v s ∧ JnlAt 84 (U (Foot p vl) (U (Foot d v) R)) w p d vl j
/-- No block is both's. -/
theorem JS.apart {R : Blocks} {w : World} {d p : Nat} {v vl : Value} {s : Wn.Dsk} {j : Wn.Jrn} (h : JS R w d v p vl s j) : ∀ k, Foot p vl k → ¬ Foot d v k := by
  obtain ⟨⟨a, n, c, x, rfl, hh, ho, _⟩, ⟨a', n', c', us, rfl, hh', ho', _⟩⟩ := h
  rintro k (rfl | hk) (rfl | hk2)
  · rw [hh] at hh'; injection hh' with e; injection e with _ e; exact absurd e (by decide)
  · exact row_ne hh' (by decide) ho hk2 rfl
  · exact row_ne hh (by decide) ho' hk rfl
  · exact row_row ho ho' (by decide) hk2 hk
theorem JS.lt {R : Blocks} {w : World} {d p : Nat} {v vl : Value} {s : Wn.Dsk} {j : Wn.Jrn} (h : JS R w d v p vl s j) : ∀ k, JB d v p vl k → k < w.heap.size := by
  rintro k (hk | hk)
  · exact h.1.lt k hk
  · exact h.2.lt k hk
/-- The disk turns alone. -/
theorem JS.disk {R : Blocks} {w w' : World} {d p : Nat} {v vl : Value} {s s' : Wn.Dsk} {j : Wn.Jrn} (h : JS R w d v p vl s j) (hd : DK d v s' w w') :
    ∃ v', JS R w' d v' p vl s' j ∧ Keeps (Foot d v) w w' ∧ ∀ k, JB d v' p vl k → JB d v p vl k ∨ w.heap.size ≤ k := by
  have hap := h.apart
  obtain ⟨h1, h2⟩ := h
  obtain ⟨v', g1, g2, g3⟩ := hd
  refine ⟨v', ⟨g1, h2.keep g2 hap (fun k _ hk => .inr (.inl hk)) fun k hl hk => ?_⟩, g2, ?_⟩
  · rcases hk with hk | hk | hk
    · exact .inl hk
    · rcases g3 k hk with h | h
      · exact .inr (.inl h)
      · omega
    · exact .inr (.inr hk)
  · rintro k (hk | hk)
    · exact (g3 k hk).imp .inl id
    · exact .inl (.inr hk)
/-- All else may turn. -/
theorem JS.keep {R R' K : Blocks} {w w' : World} {d p : Nat} {v vl : Value} {s : Wn.Dsk} {j : Wn.Jrn} (h : JS R w d v p vl s j) (hk : Keeps K w w') (hf : ∀ k, JB d v p vl k → ¬ K k) (hK : ∀ k, k < w.heap.size → K k → R k) (hm : ∀ k, k < w.heap.size → R' k → R k) : JS R' w' d v p vl s j := by
  obtain ⟨h1, h2⟩ := h
  refine ⟨h1.keep hk fun k hk => hf k (.inl hk), h2.keep hk (fun k hk => hf k (.inr hk)) (fun k hl hk => .inr (.inr (hK k hl hk))) fun k hl hk => ?_⟩
  rcases hk with hk | hk | hk
  · exact .inl hk
  · exact .inr (.inl hk)
  · exact .inr (.inr (hm k hl hk))
theorem JS.keepNo {R : Blocks} {w w' : World} {d p : Nat} {v vl : Value} {s : Wn.Dsk} {j : Wn.Jrn} (h : JS R w d v p vl s j) (hk : Keeps No w w') : JS R w' d v p vl s j :=
  h.keep hk (fun _ _ hk => hk) (fun _ _ hk => hk.elim) fun _ _ hk => hk
/-- What an operation on a journal leaves. -/
def JP (R : Blocks) (d : Nat) (v : Value) (p : Nat) (vl : Value) (r : Value) (s' : Wn.Dsk) (j' : Wn.Jrn) (w : World) (e : Ending) (w' : World) : Prop :=
  e = .returned r ∧ ∃ v' vl', JS R w' d v' p vl' s' j' ∧ Keeps (JB d v p vl) w w' ∧ ∀ k, JB d v' p vl' k → JB d v p vl k ∨ w.heap.size ≤ k
end Go.Proofs.Ytkblcdjkabiliaa
