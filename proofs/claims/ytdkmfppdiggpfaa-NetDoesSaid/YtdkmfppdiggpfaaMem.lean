/- Words on memory: what a world keeps, slices that read as lists, rows of the call's own. No program in sight. -/
import Derived.WalkKit
import Derived.Maps.AppendAt
import Derived.Deep.Draws
namespace Wm
open Go Go.RowKit

/-- A set of blocks that may be written. -/
abbrev Blocks := Nat → Prop
def No : Blocks := fun _ => False
/-- The blocks that a world has. -/
def Old (w : World) : Blocks := fun k => k < w.heap.size

/-- What holds M may write: all else is as it was. -/
structure Keeps (M : Blocks) (w w' : World) : Prop where
  os : w'.os = w.os
  tape : w'.tape = w.tape
  output : w'.output = w.output
  size : w.heap.size ≤ w'.heap.size
  block : ∀ k, k < w.heap.size → ¬ M k → w'.heap[k]? = w.heap[k]?

theorem Keeps.refl (M : Blocks) (w : World) : Keeps M w w := ⟨rfl, rfl, rfl, Nat.le_refl _, fun _ _ _ => rfl⟩
theorem Keeps.mono {M M' : Blocks} {w w' : World} (h : Keeps M w w') (hm : ∀ k, k < w.heap.size → M k → M' k) : Keeps M' w w' :=
  ⟨h.os, h.tape, h.output, h.size, fun k hk hn => h.block k hk fun hM => hn (hm k hk hM)⟩
theorem Keeps.weak {M : Blocks} {w w' : World} (h : Keeps No w w') : Keeps M w w' := h.mono fun _ _ hk => hk.elim
theorem Keeps.trans {M M' : Blocks} {a b c : World} (h : Keeps M a b) (h' : Keeps M' b c) (hm : ∀ k, k < a.heap.size → M' k → M k) : Keeps M a c :=
  ⟨h'.os.trans h.os, h'.tape.trans h.tape, h'.output.trans h.output, Nat.le_trans h.size h'.size, fun k hk hn =>
    (h'.block k (Nat.lt_of_lt_of_le hk h.size) fun hM => hn (hm k hk hM)).trans (h.block k hk hn)⟩
theorem Keeps.then_ {M : Blocks} {a b c : World} (h : Keeps M a b) (h' : Keeps No b c) : Keeps M a c := h.trans h' fun _ _ hk => hk.elim
theorem Keeps.drew {M : Blocks} {a w : World} (h : Keeps M a w) : Keeps M a w.drew := ⟨h.os, h.tape, h.output, h.size, h.block⟩
theorem Keeps.drewN {M : Blocks} {a w : World} (h : Keeps M a w) (n : Nat) : Keeps M a (w.drewN n) := ⟨h.os, h.tape, h.output, h.size, h.block⟩
theorem Keeps.alloc {M : Blocks} {a w : World} (h : Keeps M a w) (o : Obj) : Keeps M a (w.alloc o) :=
  ⟨h.os, h.tape, h.output, Nat.le_trans h.size (by simp), fun k hk hn => (Below.heap_alloc _ _ _ (Nat.lt_of_lt_of_le hk h.size)).trans (h.block k hk hn)⟩
theorem Keeps.setCell {M : Blocks} {a w : World} (h : Keeps M a w) {p : Addr} (hp : p.block < a.heap.size → M p.block) (u : Value) : Keeps M a (w.setCell p u) :=
  ⟨h.os, h.tape, h.output, by simpa [World.setCell] using h.size, fun k hk hn => (Below.heap_setCell _ _ _ _ (by
    rintro rfl; exact hn (hp hk))).trans (h.block k hk hn)⟩
theorem Keeps.grown {M : Blocks} {a w w' : World} {row : Option Nat} (h : Keeps M a w) (hg : w.grownBy w' row) (hr : ∀ g, row = some g → g < a.heap.size → M g) : Keeps M a w' :=
  ⟨hg.os.trans h.os, hg.tape.trans h.tape, hg.output.trans h.output, Nat.le_trans h.size hg.size, fun k hk hn =>
    (hg.block k (Nat.lt_of_lt_of_le hk h.size) (by intro e; exact hn (hr k e.symm hk))).trans (h.block k hk hn)⟩
theorem Keeps.of_grown {M : Blocks} {w w' : World} {row : Option Nat} (hg : w.grownBy w' row) (hr : ∀ g, row = some g → M g) : Keeps M w w' :=
  (Keeps.refl M w).grown hg fun g e _ => hr g e
theorem Keeps.grownBy {M : Blocks} {w w' : World} {row : Option Nat} (h : Keeps M w w') (hr : ∀ k, k < w.heap.size → M k → row = some k) : w.grownBy w' row :=
  ⟨h.os, h.tape, h.output, h.size, fun k hk hne => h.block k hk fun hM => hne (hr k hk hM).symm⟩
theorem Keeps.below {B : Nat} {M : Blocks} {w w' : World} (h : Keeps M w w') (hB : B ≤ w.heap.size) (hM : ∀ k, M k → B ≤ k) : Below B w w' :=
  ⟨h.os, h.tape, h.output, h.size, fun k hk => h.block k (by omega) fun hm => by have := hM k hm; omega⟩
theorem Keeps.below' {w w' : World} (h : Keeps No w w') : Below w.heap.size w w' := h.below (Nat.le_refl _) fun _ hk => hk.elim
theorem Keeps.of_below {M : Blocks} {w w' : World} (h : Below w.heap.size w w') : Keeps M w w' := ⟨h.os, h.tape, h.output, h.size, fun k hk _ => h.block k hk⟩
theorem Keeps.cell {M : Blocks} {w w' : World} (h : Keeps M w w') {p : Addr} (hp : p.block < w.heap.size) (hn : ¬ M p.block) : w'.cell? p = w.cell? p :=
  World.cell?_of_block (w := w) (h.block _ hp hn)
theorem Keeps.frozen {M : Blocks} {w w' : World} (h : Keeps M w w') {p : Addr} (hp : p.block < w.heap.size) (hn : ¬ M p.block) : w'.frozen? p = w.frozen? p :=
  World.frozen?_of_block (w := w) (h.block _ hp hn)

theorem cell_lt {w : World} {p : Addr} {u : Value} (h : w.cell? p = some u) : p.block < w.heap.size := by
  rcases Nat.lt_or_ge p.block w.heap.size with hl | hl
  · exact hl
  · simp [World.cell?, Array.getElem?_eq_none hl] at h

/-- Blocks from a number on. -/
def From (b : Nat) : Blocks := fun k => b ≤ k
theorem Keeps.from_ {M : Blocks} {a w w' : World} {base : Nat} (h : Keeps M a w) (h' : Keeps (From base) w w') (hb : a.heap.size ≤ base) : Keeps M a w' :=
  h.trans h' fun k hk hf => by unfold From at hf; omega

/-- One block. -/
def Only (p : Nat) : Blocks := fun k => k = p
theorem Keeps.only {p : Nat} {a w : World} (h : Keeps (Only p) a w) (i : Nat) (u : Value) : Keeps (Only p) a (w.setCell ⟨p, i, none⟩ u) := h.setCell (p := ⟨p, i, none⟩) (fun _ => rfl) u

/-- A slice of one-cell elements that reads as the values us; where it holds any, its block is none of M. -/
def SV (M : Blocks) (w : World) (v : Value) (us : List Value) : Prop :=
  ∃ (a : Option Addr) (n c : Nat), v = .slice a n c ∧ n = us.length ∧ n ≤ c ∧ c ≤ maxLen ∧
    (0 < n → ∃ b off, a = some ⟨b, off, none⟩ ∧ ¬ M b ∧ ∀ i u, us[i]? = some u → w.cell? ⟨b, off + i, none⟩ = some u)

def bv (c : UInt8) : Value := .int .u8 (c.toNat : Int)
/-- A slice of bytes. -/
def SB (M : Blocks) (w : World) (v : Value) (l : List UInt8) : Prop := SV M w v (l.map bv)

theorem SV.mono {M M' : Blocks} {w : World} {v : Value} {us : List Value} (h : SV M w v us) (hm : ∀ k, k < w.heap.size → M' k → M k) : SV M' w v us := by
  obtain ⟨a, n, c, rfl, hn, hc, hm', hat⟩ := h
  refine ⟨a, n, c, rfl, hn, hc, hm', fun h0 => ?_⟩
  obtain ⟨b, off, rfl, hb, hcell⟩ := hat h0
  refine ⟨b, off, rfl, fun hM => hb (hm b ?_ hM), hcell⟩
  have hlen : 0 < us.length := by omega
  exact cell_lt (p := ⟨b, off + 0, none⟩) (hcell 0 us[0] (List.getElem?_eq_getElem hlen))
theorem SV.keep {M M' : Blocks} {w w' : World} {v : Value} {us : List Value} (h : SV M w v us) (hk : Keeps M' w w') (hm : ∀ k, k < w.heap.size → M' k → M k) : SV M w' v us := by
  obtain ⟨a, n, c, rfl, hn, hc, hm', hat⟩ := h
  refine ⟨a, n, c, rfl, hn, hc, hm', fun h0 => ?_⟩
  obtain ⟨b, off, rfl, hb, hcell⟩ := hat h0
  have hlt : b < w.heap.size := by
    have hlen : 0 < us.length := by omega
    exact cell_lt (p := ⟨b, off + 0, none⟩) (hcell 0 us[0] (List.getElem?_eq_getElem hlen))
  refine ⟨b, off, rfl, hb, fun i u hu => ?_⟩
  rw [hk.cell (p := ⟨b, off + i, none⟩) hlt fun hM => hb (hm b hlt hM)]
  exact hcell i u hu
theorem SV.alloc {M : Blocks} {w : World} {v : Value} {us : List Value} (h : SV M w v us) (o : Obj) : SV M (w.alloc o) v us :=
  h.keep ((Keeps.refl No w).alloc o) fun _ _ hk => hk.elim
theorem SV.drew {M : Blocks} {w : World} {v : Value} {us : List Value} (h : SV M w v us) : SV M w.drew v us := h
theorem SV.drewN {M : Blocks} {w : World} {v : Value} {us : List Value} (h : SV M w v us) (n : Nat) : SV M (w.drewN n) v us := h
theorem SV.setCell {M : Blocks} {w : World} {v : Value} {us : List Value} (h : SV M w v us) {p : Addr} (hp : M p.block ∨ w.heap.size ≤ p.block) (u : Value) : SV M (w.setCell p u) v us :=
  h.keep (M' := fun k => k = p.block) ((Keeps.refl (fun k => k = p.block) w).setCell (p := p) (fun _ => rfl) u) fun k hk e => by
    subst e
    rcases hp with hp | hp
    · exact hp
    · omega
/-- Nothing. -/
theorem SV.nil_ (M : Blocks) (w : World) (a : Option Addr) (c : Nat) (hc : c ≤ maxLen) : SV M w (.slice a 0 c) [] :=
  ⟨a, 0, c, rfl, rfl, Nat.zero_le _, hc, fun h => absurd h (by omega)⟩
theorem SV.empty {M : Blocks} {w : World} {v : Value} : SV M w v [] ↔ ∃ a c, v = .slice a 0 c ∧ c ≤ maxLen := by
  constructor
  · rintro ⟨a, n, c, rfl, hn, _, hc, _⟩
    simp at hn; subst hn
    exact ⟨a, c, rfl, hc⟩
  · rintro ⟨a, c, rfl, hc⟩; exact SV.nil_ M w a c hc
theorem SV.any {M M' : Blocks} {w w' : World} {v : Value} (h : SV M w v []) : SV M' w' v [] := SV.empty.2 (SV.empty.1 h)

/-- The value, and each cell of it. -/
theorem SV.opened {M : Blocks} {w : World} {v : Value} {us : List Value} (h : SV M w v us) :
    ∃ (a : Option Addr) (n c : Nat), v = .slice a n c ∧ n = us.length ∧ n ≤ c ∧ c ≤ maxLen := by
  obtain ⟨a, n, c, rfl, hn, hc, hm, _⟩ := h; exact ⟨a, n, c, rfl, hn, hc, hm⟩
theorem SV.len {M : Blocks} {w : World} {a : Option Addr} {n c : Nat} {us : List Value} (h : SV M w (.slice a n c) us) : n = us.length := by
  obtain ⟨_, _, _, e, hn, _, _, _⟩ := h; injection e with e1 e2 e3; subst e2; exact hn
theorem SV.cap {M : Blocks} {w : World} {a : Option Addr} {n c : Nat} {us : List Value} (h : SV M w (.slice a n c) us) : n ≤ c ∧ c ≤ maxLen := by
  obtain ⟨_, _, _, e, _, hc, hm, _⟩ := h; injection e with e1 e2 e3; subst e2; subst e3; exact ⟨hc, hm⟩
theorem SV.at_ {M : Blocks} {w : World} {a : Option Addr} {n c : Nat} {us : List Value} (h : SV M w (.slice a n c) us) (h0 : 0 < n) :
    ∃ b off, a = some ⟨b, off, none⟩ ∧ ¬ M b ∧ ∀ i u, us[i]? = some u → w.cell? ⟨b, off + i, none⟩ = some u := by
  obtain ⟨_, _, _, e, _, _, _, hat⟩ := h; injection e with e1 e2 e3; subst e1; subst e2; exact hat h0
theorem SV.mk {M : Blocks} {w : World} {a : Option Addr} {n c : Nat} {us : List Value} (hn : n = us.length) (hc : n ≤ c) (hm : c ≤ maxLen)
    (hat : 0 < n → ∃ b off, a = some ⟨b, off, none⟩ ∧ ¬ M b ∧ ∀ i u, us[i]? = some u → w.cell? ⟨b, off + i, none⟩ = some u) : SV M w (.slice a n c) us :=
  ⟨a, n, c, rfl, hn, hc, hm, hat⟩

theorem SB.len {M : Blocks} {w : World} {a : Option Addr} {n c : Nat} {l : List UInt8} (h : SB M w (.slice a n c) l) : n = l.length := by
  have := SV.len h; simpa using this
theorem SB.cap {M : Blocks} {w : World} {a : Option Addr} {n c : Nat} {l : List UInt8} (h : SB M w (.slice a n c) l) : n ≤ c ∧ c ≤ maxLen := SV.cap h
theorem SB.at_ {M : Blocks} {w : World} {a : Option Addr} {n c : Nat} {l : List UInt8} (h : SB M w (.slice a n c) l) (h0 : 0 < n) :
    ∃ b off, a = some ⟨b, off, none⟩ ∧ ¬ M b ∧ ∀ i x, l[i]? = some x → w.cell? ⟨b, off + i, none⟩ = some (.int .u8 (x.toNat : Int)) := by
  obtain ⟨b, off, e, hb, hat⟩ := SV.at_ h h0
  exact ⟨b, off, e, hb, fun i x hx => hat i (bv x) (by simp [hx])⟩
theorem SB.opened {M : Blocks} {w : World} {v : Value} {l : List UInt8} (h : SB M w v l) :
    ∃ (a : Option Addr) (n c : Nat), v = .slice a n c ∧ n = l.length ∧ n ≤ c ∧ c ≤ maxLen := by
  obtain ⟨a, n, c, e, hn, r⟩ := SV.opened h; exact ⟨a, n, c, e, by simpa using hn, r⟩

/-- The first k, the rest behind k: a cut's value as the walk spells it. -/
theorem SV.take {M : Blocks} {w : World} {a : Option Addr} {n c : Nat} {us : List Value} (h : SV M w (.slice a n c) us) {k : Nat} (hk : k ≤ n) : SV M w (.slice a k c) (us.take k) := by
  have hl := h.len
  refine SV.mk (by rw [List.length_take]; omega) (by have := h.cap; omega) h.cap.2 fun h0 => ?_
  obtain ⟨b, off, e, hb, hat⟩ := h.at_ (by omega)
  refine ⟨b, off, e, hb, fun i u hu => hat i u ?_⟩
  rw [List.getElem?_take] at hu
  split at hu
  · exact hu
  · cases hu
theorem SV.drop {M : Blocks} {w : World} {a : Option Addr} {n c : Nat} {us : List Value} (h : SV M w (.slice a n c) us) {k : Nat} (hk : k ≤ n) {a' : Option Addr}
    (ha : k < n → ∀ b off, a = some ⟨b, off, none⟩ → a' = some ⟨b, off + k, none⟩) : SV M w (.slice a' (n - k) (c - k)) (us.drop k) := by
  have hl := h.len
  refine SV.mk (by rw [List.length_drop]; omega) (by have := h.cap; omega) (by have := h.cap; omega) fun h0 => ?_
  obtain ⟨b, off, rfl, hb, hat⟩ := h.at_ (by omega)
  refine ⟨b, off + k, ha (by omega) b off rfl, hb, fun i u hu => ?_⟩
  rw [List.getElem?_drop] at hu
  rw [Nat.add_assoc]
  exact hat (k + i) u hu

theorem cell_new (w : World) (cs : Array Value) (e : TypeId) (fz : Nat × Nat) (i : Nat) : (w.alloc (.cells cs e fz)).cell? ⟨w.heap.size, i, none⟩ = cs[i]? :=
  cell_of_row _ _ _ _ _ _ (heap_alloc_new w _)
/-- A new block reads as a slice. -/
theorem SV.new (w : World) (cs : Array Value) (e : TypeId) (fz : Nat × Nat) (n c : Nat) (us : List Value) (hn : n = us.length) (hc : n ≤ c) (hm : c ≤ maxLen) (hcs : ∀ (i : Nat) (u : Value), us[i]? = some u → cs[i]? = some u) :
    SV (Old w) (w.alloc (.cells cs e fz)) (.slice (some ⟨w.heap.size, 0, none⟩) n c) us := by
  refine SV.mk hn hc hm fun _ => ⟨w.heap.size, 0, rfl, Nat.lt_irrefl _, fun i u hu => ?_⟩
  rw [Nat.zero_add, cell_new]
  exact hcs i u hu

theorem one_at {u u' : Value} (h : u = u') : ∀ (i : Nat) (x : Value), [u][i]? = some x → (#[u'] : Array Value)[i]? = some x := by
  subst h
  intro i x hx
  match i, hx with
  | 0, hx => simpa using hx
  | i + 1, hx => simp at hx
theorem one_cell {u : Value} (h : u.oneCell' = true) : ∀ x ∈ [u], x.oneCell' = true := by
  intro x hx
  simp at hx; subst hx; exact h
theorem bv_of {y : Nat} {z : Int} (h : z = ((y % 256 : Nat) : Int)) : bv (UInt8.ofNat y) = .int .u8 z := by
  rw [h]; simp [bv]

/-- A slice of slices of bytes. -/
def SL (M : Blocks) (w : World) (v : Value) (ls : List (List UInt8)) : Prop :=
  ∃ us, SV M w v us ∧ us.length = ls.length ∧ ∀ (i : Nat) (l : List UInt8), ls[i]? = some l → ∃ u, us[i]? = some u ∧ SB M w u l
theorem SL.mono {M M' : Blocks} {w : World} {v : Value} {ls : List (List UInt8)} (h : SL M w v ls) (hm : ∀ k, k < w.heap.size → M' k → M k) : SL M' w v ls := by
  obtain ⟨us, hv, hl, hat⟩ := h
  refine ⟨us, hv.mono hm, hl, fun i l hi => ?_⟩
  obtain ⟨u, hu, hb⟩ := hat i l hi
  exact ⟨u, hu, SV.mono hb hm⟩
theorem SL.keep {M M' : Blocks} {w w' : World} {v : Value} {ls : List (List UInt8)} (h : SL M w v ls) (hk : Keeps M' w w') (hm : ∀ k, k < w.heap.size → M' k → M k) : SL M w' v ls := by
  obtain ⟨us, hv, hl, hat⟩ := h
  refine ⟨us, hv.keep hk hm, hl, fun i l hi => ?_⟩
  obtain ⟨u, hu, hb⟩ := hat i l hi
  exact ⟨u, hu, SV.keep hb hk hm⟩
theorem SL.opened {M : Blocks} {w : World} {v : Value} {ls : List (List UInt8)} (h : SL M w v ls) :
    ∃ (a : Option Addr) (n c : Nat), v = .slice a n c ∧ n = ls.length ∧ n ≤ c ∧ c ≤ maxLen := by
  obtain ⟨us, hv, hl, _⟩ := h
  obtain ⟨a, n, c, e, hn, r⟩ := hv.opened
  exact ⟨a, n, c, e, by omega, r⟩
theorem SL.at_ {M : Blocks} {w : World} {a : Option Addr} {n c : Nat} {ls : List (List UInt8)} (h : SL M w (.slice a n c) ls) (h0 : 0 < n) :
    ∃ b off, a = some ⟨b, off, none⟩ ∧ ¬ M b ∧ ∀ i l, ls[i]? = some l → ∃ u, w.cell? ⟨b, off + i, none⟩ = some u ∧ SB M w u l := by
  obtain ⟨us, hv, hl, hat⟩ := h
  obtain ⟨b, off, e, hb, hc⟩ := hv.at_ h0
  refine ⟨b, off, e, hb, fun i l hi => ?_⟩
  obtain ⟨u, hu, hs⟩ := hat i l hi
  exact ⟨u, hc i u hu, hs⟩
/-- Two ways to make one: of a list of values that read so. -/
theorem SL.of_vals {M : Blocks} {w : World} {v : Value} {us : List Value} {ls : List (List UInt8)} (hv : SV M w v us) (hl : us.length = ls.length) (hat : ∀ (i : Nat) (l : List UInt8), ls[i]? = some l → ∃ u, us[i]? = some u ∧ SB M w u l) : SL M w v ls :=
  ⟨us, hv, hl, hat⟩
theorem SL.nil_ (M : Blocks) (w : World) (a : Option Addr) (c : Nat) (hc : c ≤ maxLen) : SL M w (.slice a 0 c) [] := ⟨[], SV.nil_ M w a c hc, rfl, fun i l h => by simp at h⟩
theorem SL.len {M : Blocks} {w : World} {a : Option Addr} {n c : Nat} {ls : List (List UInt8)} (h : SL M w (.slice a n c) ls) : n = ls.length := by
  obtain ⟨us, hv, hl, _⟩ := h
  have := hv.len; omega

theorem SV.newAt (w : World) (g : Nat) (cs : Array Value) (e : TypeId) (fz : Nat × Nat) (n c : Nat) (us : List Value) (hg : w.heap.size = g) (hn : n = us.length) (hc : n ≤ c) (hm : c ≤ maxLen) (hcs : us = cs.toList.take n) :
    SV (Old w) (w.alloc (.cells cs e fz)) (.slice (some ⟨g, 0, none⟩) n c) us := by
  subst hg
  refine SV.new w cs e fz n c us hn hc hm fun i u hu => ?_
  rw [hcs, List.getElem?_take] at hu
  split at hu
  · simpa using hu
  · cases hu
/-- A literal of bytes. -/
theorem SB.lit (w : World) (g : Nat) (cs : Array Value) (e : TypeId) (fz : Nat × Nat) (l : List UInt8) (hg : w.heap.size = g) (hm : l.length ≤ maxLen) (hcs : l.map bv = cs.toList) :
    SB (Old w) (w.alloc (.cells cs e fz)) (.slice (some ⟨g, 0, none⟩) l.length l.length) l :=
  SV.newAt w g cs e fz _ _ _ hg (by simp) (Nat.le_refl _) hm (by rw [← hcs, List.take_of_length_le (by simp)])
def AllSB (M : Blocks) (w : World) : List Value → List (List UInt8) → Prop
  | [], [] => True
  | u :: us, l :: ls => SB M w u l ∧ AllSB M w us ls
  | _, _ => False
theorem SL.of_all {M : Blocks} {w : World} {v : Value} {us : List Value} {ls : List (List UInt8)} (hv : SV M w v us) (h : AllSB M w us ls) : SL M w v ls := by
  have key : ∀ (us : List Value) (ls : List (List UInt8)), AllSB M w us ls → us.length = ls.length ∧ ∀ (i : Nat) (l : List UInt8), ls[i]? = some l → ∃ u, us[i]? = some u ∧ SB M w u l := by
    intro us
    induction us with
    | nil => intro ls h; cases ls with
      | nil => exact ⟨rfl, fun i l h => by simp at h⟩
      | cons l ls => exact h.elim
    | cons u us ih => intro ls h; cases ls with
      | nil => exact h.elim
      | cons l ls =>
        obtain ⟨h1, h2⟩ := h
        obtain ⟨hl, hat⟩ := ih ls h2
        refine ⟨by simp [hl], fun i l' hi => ?_⟩
        match i, hi with
        | 0, hi => simp at hi; subst hi; exact ⟨u, rfl, h1⟩
        | i + 1, hi => exact hat i l' (by simpa using hi)
  obtain ⟨hl, hat⟩ := key us ls h
  exact SL.of_vals hv hl hat
theorem SV.no {M : Blocks} {w : World} {v : Value} {us : List Value} (h : SV M w v us) : SV No w v us := h.mono fun _ _ hk => hk.elim

/-- A new slice of one slice of bytes. -/
theorem SL.one_new {M : Blocks} {w : World} {u : Value} {l : List UInt8} {e : TypeId} (h : SB M w u l) : SL No (w.alloc (.cells #[u] e)) (.slice (some ⟨w.heap.size, 0, none⟩) 1 1) [l] := by
  refine SL.of_vals (us := [u]) ((SV.new w _ _ _ 1 1 _ rfl (by omega) (by unfold maxLen; omega) (one_at rfl)).mono fun _ _ hk => hk.elim) rfl fun i l' hi => ?_
  match i, hi with
  | 0, hi => simp at hi; subst hi; exact ⟨u, rfl, (SV.alloc h _).mono fun _ _ hk => hk.elim⟩
  | i + 1, hi => simp at hi

theorem SL.oneAt {M : Blocks} {w : World} {u : Value} {l : List UInt8} {e : TypeId} {g : Nat} (hg : w.heap.size = g) (h : SB M w u l) : SL No (w.alloc (.cells #[u] e)) (.slice (some ⟨g, 0, none⟩) 1 1) [l] := by
  subst hg; exact SL.one_new h

/-- A row of the call's own reads as a slice. -/
theorem SV.of_own {M : Blocks} {w : World} {base : Nat} {e : TypeId} {v : Value} {n : Nat} {us : List Value} (h : w.ownsRow base e 1 v n us) (hM : ∀ g, v.ownBlock = some g → ¬ M g) : SV M w v us := by
  have hl : us.length = n := by simpa using h.1
  rcases h.2 with ⟨rfl, hn⟩ | ⟨g, cap, cur, rfl, _, hh, hnc, hcm, _, _⟩
  · subst hn
    have : us = [] := List.eq_nil_of_length_eq_zero hl
    subst this
    exact SV.nil_ M w none 0 (Nat.zero_le _)
  · refine SV.mk hl.symm hnc hcm fun h0 => ⟨g, 0, rfl, hM g rfl, fun i u hu => ?_⟩
    have := h.cells (g := g) rfl i u hu
    have e : ((⟨g, 0, none⟩ : Addr).add i) = ⟨g, 0 + i, none⟩ := by
      unfold Addr.add
      by_cases hi : i = 0 <;> simp [hi]
    rwa [e] at this

/-- What is appended to a row of the call's own turns nothing old. -/
theorem Keeps.app {M : Blocks} {a w w' : World} {base : Nat} {e : TypeId} {size : Nat} {v : Value} {n : Nat} {xs : List Value} (h : Keeps M a w) (ho : w.ownsRow base e size v n xs) (hb : a.heap.size ≤ base) (hg : w.grownBy w' v.ownBlock) : Keeps M a w' :=
  h.grown hg fun g hv hl => absurd (ho.lt g hv).1 (by omega)
theorem SV.fresh {w0 w : World} {base : Nat} {e : TypeId} {v : Value} {n : Nat} {us : List Value} (h : w.ownsRow base e 1 v n us) (hb : w0.heap.size ≤ base) : SV (Old w0) w v us :=
  SV.of_own h fun g hg => by have := (h.lt g hg).1; unfold Old; omega

theorem one_bv (l : List UInt8) : ∀ u ∈ l.map bv, u.oneCell' = true := by
  intro u hu
  simp only [List.mem_map] at hu
  obtain ⟨c, _, rfl⟩ := hu
  rfl

theorem ownsRow_base {w : World} {base base' : Nat} {e : TypeId} {size : Nat} {v : Value} {n : Nat} {xs : List Value} (h : w.ownsRow base e size v n xs) (hb : ∀ g, v.ownBlock = some g → base' ≤ g) : w.ownsRow base' e size v n xs := by
  obtain ⟨h1, h2⟩ := h
  refine ⟨h1, ?_⟩
  rcases h2 with h2 | ⟨g, cap, cur, hv, hg, r⟩
  · exact .inl h2
  · exact .inr ⟨g, cap, cur, hv, hb g (by rw [hv]; rfl), r⟩

theorem ownsRow_keep {M : Blocks} {w w' : World} {base : Nat} {e : TypeId} {size : Nat} {v : Value} {n : Nat} {xs : List Value} (h : w.ownsRow base e size v n xs) (hk : Keeps M w w') (hM : ∀ g, v.ownBlock = some g → ¬ M g) : w'.ownsRow base e size v n xs := by
  obtain ⟨h1, h2⟩ := h
  refine ⟨h1, ?_⟩
  rcases h2 with h2 | ⟨g, cap, cur, hv, hg, hh, r⟩
  · exact .inl h2
  · have hlt : g < w.heap.size := by
      rcases Nat.lt_or_ge g w.heap.size with hl | hl
      · exact hl
      · rw [Array.getElem?_eq_none hl] at hh; cases hh
    exact .inr ⟨g, cap, cur, hv, hg, (hk.block g hlt (hM g (by rw [hv]; rfl))).trans hh, r⟩

section
variable {P : Program} (w : World)

/-- append onto a row of the call's own, whatever is appended (nothing, too). -/
theorem run_append_any (base : Nat) (t ty e : TypeId) (i : TypeInfo) (z : Value) (bytes : Nat) (ht : P.underlying t = some (.slice e)) (hi : P.info? e = some i) (hz : i.zero = some z)
    (hsize : i.size = 1) (hby : i.bytes = bytes) (hzs : z.cells.size = 1)
    (v : Value) (n : Nat) (xs : List Value) (hown : w.ownsRow base e 1 v n xs)
    (M : Blocks) (x : Value) (news : List Value) (hx : SV M w x news) (h1 : ∀ u ∈ news, u.oneCell' = true)
    (h63 : n + news.length ≤ maxLen) (hbytes : (n + news.length) * bytes ≤ 140737488355328) (hbase : base ≤ w.heap.size) :
    ∃ v' w', (Builtin.append_ #[t, t] ty #[v, x]).run P w = .ok v' w' ∧ w'.ownsRow base e 1 v' (n + news.length) (xs ++ news) ∧ w.grownBy w' v.ownBlock ∧
      (v'.ownBlock = v.ownBlock ∨ v'.ownBlock = some w.heap.size) := by
  obtain ⟨a, m, c, rfl, hm, _, _, hat⟩ := hx
  rcases a with _ | ad
  · have h0 : m = 0 := by
      rcases Nat.eq_zero_or_pos m with h0 | h0
      · exact h0
      · obtain ⟨b, off, he, _⟩ := hat h0; cases he
    have hnil : news = [] := List.eq_nil_of_length_eq_zero (by omega)
    subst hnil
    subst h0
    refine ⟨v, w, ?_, by simpa using hown, World.grownBy.refl w _, .inl rfl⟩
    rcases hown.2 with ⟨rfl, rfl⟩ | ⟨g, cap, cur, rfl, _, _, hnc, _⟩
    · simp [Builtin.append_, run_underlying ht, Go.sizeOf, typeInfo, hi, Builtin.lenOf, Builtin.firstCells]
    · simp [Builtin.append_, run_underlying ht, Go.sizeOf, typeInfo, hi, Builtin.lenOf, Builtin.firstCells, hnc, storeCells]
  · have hcells : ∀ j u, news[j]? = some u → w.cell? (ad.add j) = some u := by
      intro j u hu
      have hlt : j < news.length := (List.getElem?_eq_some_iff.1 hu).1
      obtain ⟨b, off, he, _, hc⟩ := hat (by omega)
      injection he with he
      subst he
      have e : ((⟨b, off, none⟩ : Addr).add j) = ⟨b, off + j, none⟩ := by
        unfold Addr.add
        by_cases hj : j = 0 <;> simp [hj]
      rw [e]
      exact hc j u hu
    subst hm
    obtain ⟨v', w', hrun, h2, h3, _, h5⟩ := run_append_own_at (P := P) w base t ty e i z 1 bytes ht hi hz hsize hby hzs (by omega) v n xs hown ad news.length c news (by omega) hcells h1 h63 hbytes hbase
    exact ⟨v', w', hrun, h2, h3, h5⟩

theorem wp_append_any {o : Oper} {a : Act} {K : Act → World → Prop} {Q : Exit → Act → World → Prop} (s x : Operand) (t : TypeId)
    (ho : o.op = .call { callee := .builtin .append, args := #[s, x], argTypes := #[t, t] })
    (base : Nat) (e : TypeId) (i : TypeInfo) (z : Value) (bytes : Nat) (ht : P.underlying t = some (.slice e)) (hi : P.info? e = some i) (hz : i.zero = some z)
    (hsize : i.size = 1) (hby : i.bytes = bytes) (hzs : z.cells.size = 1)
    (v : Value) (n : Nat) (xs : List Value) (hs : a.eval s = v) (hown : w.ownsRow base e 1 v n xs)
    (M : Blocks) (vx : Value) (news : List Value) (hvx : a.eval x = vx) (hx : SV M w vx news) (h1 : ∀ u ∈ news, u.oneCell' = true)
    (h63 : n + news.length ≤ maxLen) (hbytes : (n + news.length) * bytes ≤ 140737488355328) (hbase : base ≤ w.heap.size)
    (h : ∀ v' w', w'.ownsRow base e 1 v' (n + news.length) (xs ++ news) → w.grownBy w' v.ownBlock → (v'.ownBlock = v.ownBlock ∨ v'.ownBlock = some w.heap.size) → K (a.put o.dst v') w') : o.wp P a w K Q := by
  obtain ⟨v', w', hrun, h2, h3, h4⟩ := run_append_any (P := P) w base t o.type e i z bytes ht hi hz hsize hby hzs v n xs hown M vx news hx h1 h63 hbytes hbase
  unfold Oper.wp execOp
  simp only [ho, resolve, invoke, builtin, Sem.run_bind, Sem.run_pure, Result.andThen_ok, List.map_toArray, List.map_cons, List.map_nil, hs, hvx, hrun]
  exact h v' w' h2 h3 h4

theorem wpList_append_any {ops : Array Oper} {rest : List Oper} {o : Oper} {a : Act} {Q : Exit → Act → World → Prop} (hgd : o.guard = none) (s x : Operand) (t : TypeId)
    (ho : o.op = .call { callee := .builtin .append, args := #[s, x], argTypes := #[t, t] })
    (base : Nat) (e : TypeId) (i : TypeInfo) (z : Value) (bytes : Nat) (ht : P.underlying t = some (.slice e)) (hi : P.info? e = some i) (hz : i.zero = some z)
    (hsize : i.size = 1) (hby : i.bytes = bytes) (hzs : z.cells.size = 1)
    (v : Value) (n : Nat) (xs : List Value) (hs : a.eval s = v) (hown : w.ownsRow base e 1 v n xs)
    (M : Blocks) (vx : Value) (news : List Value) (hvx : a.eval x = vx) (hx : SV M w vx news) (h1 : ∀ u ∈ news, u.oneCell' = true)
    (h63 : n + news.length ≤ maxLen) (hbytes : (n + news.length) * bytes ≤ 140737488355328) (hbase : base ≤ w.heap.size)
    (h : ∀ v' w', w'.ownsRow base e 1 v' (n + news.length) (xs ++ news) → w.grownBy w' v.ownBlock → (v'.ownBlock = v.ownBlock ∨ v'.ownBlock = some w.heap.size) → wpList P ops Q rest (a.put o.dst v') w') : wpList P ops Q (o :: rest) a w :=
  wpList_plain hgd fun _ hK => wp_append_any w s x t ho base e i z bytes ht hi hz hsize hby hzs v n xs hs hown M vx news hvx hx h1 h63 hbytes hbase fun v' w' h2 h3 h4 => hK _ _ (h v' w' h2 h3 h4)

/-- The copy's idiom, append([]T{}, x...): a row of the call's own that reads as x. -/
theorem wpList_append_copy {ops : Array Oper} {rest : List Oper} {o : Oper} {a : Act} {Q : Exit → Act → World → Prop} (hgd : o.guard = none) (s x : Operand) (t : TypeId)
    (ho : o.op = .call { callee := .builtin .append, args := #[s, x], argTypes := #[t, t] })
    (e : TypeId) (i : TypeInfo) (z : Value) (bytes : Nat) (ht : P.underlying t = some (.slice e)) (hi : P.info? e = some i) (hz : i.zero = some z)
    (hsize : i.size = 1) (hby : i.bytes = bytes) (hzs : z.cells.size = 1)
    (hs : a.eval s = .slice (some ⟨w.heap.size, 0, none⟩) 0 0)
    (M : Blocks) (vx : Value) (news : List Value) (hvx : a.eval x = vx) (hx : SV M w vx news) (h1 : ∀ u ∈ news, u.oneCell' = true)
    (h63 : news.length ≤ maxLen) (hbytes : news.length * bytes ≤ 140737488355328)
    (h : ∀ v' w', w'.ownsRow w.heap.size e 1 v' news.length news → Keeps No w w' → wpList P ops Q rest (a.put o.dst v') w') : wpList P ops Q (o :: rest) a (w.alloc (.cells #[] e)) := by
  have hown := World.ownsRow_lit (base := w.heap.size) (e := e) (size := 1) w #[] 0 (Nat.le_refl _) (Nat.zero_le _) rfl
  refine wpList_append_any (w.alloc (.cells #[] e)) hgd s x t ho w.heap.size e i z bytes ht hi hz hsize hby hzs _ 0 [] hs (by simpa using hown) M vx news hvx (hx.alloc _) h1 (by simpa using h63) (by simpa using hbytes) (by simp) fun v' w' h2 h3 h4 => ?_
  refine h v' w' (by simpa using h2) ?_
  exact ((Keeps.refl No w).alloc _).app hown (Nat.le_refl _) h3

theorem own_shape {w : World} {base : Nat} {e : TypeId} {size : Nat} {v : Value} {n : Nat} {xs : List Value} (h : w.ownsRow base e size v n xs) : ∃ a c, v = .slice a n c := by
  rcases h.2 with ⟨hv, hn⟩ | ⟨g, cap, cur, hv, _⟩
  · subst hn; exact ⟨none, 0, hv⟩
  · exact ⟨_, _, hv⟩

/-- append onto a row of the call's own; the new value is written out. -/
theorem wpList_app {ops : Array Oper} {rest : List Oper} {o : Oper} {a : Act} {Q : Exit → Act → World → Prop} (hgd : o.guard = none) (s x : Operand) (t : TypeId)
    (ho : o.op = .call { callee := .builtin .append, args := #[s, x], argTypes := #[t, t] })
    (base : Nat) (e : TypeId) (i : TypeInfo) (z : Value) (bytes : Nat) (ht : P.underlying t = some (.slice e)) (hi : P.info? e = some i) (hz : i.zero = some z)
    (hsize : i.size = 1) (hby : i.bytes = bytes) (hzs : z.cells.size = 1)
    (v : Value) (n : Nat) (xs : List Value) (hs : a.eval s = v) (hown : w.ownsRow base e 1 v n xs)
    (M : Blocks) (vx : Value) (news : List Value) (hvx : a.eval x = vx) (hx : SV M w vx news) (h1 : ∀ u ∈ news, u.oneCell' = true)
    (r : Nat) (hr : n + news.length = r) (h63 : r ≤ maxLen) (hbytes : r * bytes ≤ 140737488355328) (hbase : base ≤ w.heap.size)
    (h : ∀ a' c' w', w'.ownsRow base e 1 (.slice a' r c') r (xs ++ news) → w.grownBy w' v.ownBlock → ((Value.slice a' r c').ownBlock = v.ownBlock ∨ (Value.slice a' r c').ownBlock = some w.heap.size) → wpList P ops Q rest (a.put o.dst (.slice a' r c')) w') : wpList P ops Q (o :: rest) a w := by
  subst hr
  refine wpList_append_any w hgd s x t ho base e i z bytes ht hi hz hsize hby hzs v n xs hs hown M vx news hvx hx h1 h63 hbytes hbase fun v' w' h2 h3 h4 => ?_
  obtain ⟨a', c', rfl⟩ := own_shape h2
  exact h a' c' w' h2 h3 h4

theorem wpList_copy {ops : Array Oper} {rest : List Oper} {o : Oper} {a : Act} {Q : Exit → Act → World → Prop} (hgd : o.guard = none) (s x : Operand) (t : TypeId)
    (ho : o.op = .call { callee := .builtin .append, args := #[s, x], argTypes := #[t, t] })
    (e : TypeId) (i : TypeInfo) (z : Value) (bytes : Nat) (ht : P.underlying t = some (.slice e)) (hi : P.info? e = some i) (hz : i.zero = some z)
    (hsize : i.size = 1) (hby : i.bytes = bytes) (hzs : z.cells.size = 1)
    (hs : a.eval s = .slice (some ⟨w.heap.size, 0, none⟩) 0 0)
    (M : Blocks) (vx : Value) (news : List Value) (hvx : a.eval x = vx) (hx : SV M w vx news) (h1 : ∀ u ∈ news, u.oneCell' = true)
    (r : Nat) (hr : news.length = r) (h63 : r ≤ maxLen) (hbytes : r * bytes ≤ 140737488355328)
    (h : ∀ a' c' w', w'.ownsRow w.heap.size e 1 (.slice a' r c') r news → Keeps No w w' → wpList P ops Q rest (a.put o.dst (.slice a' r c')) w') : wpList P ops Q (o :: rest) a (w.alloc (.cells #[] e)) := by
  subst hr
  refine wpList_append_copy w hgd s x t ho e i z bytes ht hi hz hsize hby hzs hs M vx news hvx hx h1 h63 hbytes fun v' w' h2 h3 => ?_
  obtain ⟨a', c', rfl⟩ := own_shape h2
  exact h a' c' w' h2 h3
end

end Wm
