/- DiskKeeps: the disk, what was put, what is sure, and the doing at hand. -/
import Derived.Test.YtkblcdjkabiliaaWV
import Derived.Deep.RegionHeld3
namespace Go.Proofs.Ytkblcdjkabiliaa
open Go.RowKit Wm

/-- The disk, made since w0; what was put, and what is sure. -/
def KX (w0 : World) (p : Nat) (v : Value) (s : Wn.Dsk) (va vs : Value) (all sure : List UInt8) (w : World) : Prop :=
  DiskAt w p v s ∧ (∀ k, Foot p v k → w0.heap.size ≤ k) ∧ Keeps No w0 w ∧ SB (Foot p v) w va all ∧ SB (Foot p v) w vs sure
/-- The doing at hand, in a block of its own. -/
def DX1 (M : Blocks) (g : Nat) (y : DoS) (u : Value) (w : World) : Prop :=
  w.heap[g]? = some (.cells #[.int .i64 y.kind, .int .i64 y.n, .int .i64 y.keep, u] 63 (0, 0)) ∧ SB M w u y.b ∧ ¬ M g
def KD (w0 : World) (p g : Nat) (y : DoS) (u : Value) (s : Wn.Dsk) (va vs : Value) (all sure : List UInt8) (w : World) : Prop :=
  ∃ v, KX w0 p v s va vs all sure w ∧ DX1 (Foot p v) g y u w
theorem KX.keepNo {w0 w w' : World} {p : Nat} {v : Value} {s : Wn.Dsk} {va vs : Value} {all sure : List UInt8} (h : KX w0 p v s va vs all sure w) (hk : Keeps No w w') : KX w0 p v s va vs all sure w' := by
  obtain ⟨h1, h2, h3, h4, h5⟩ := h
  exact ⟨h1.keep hk fun _ _ hk => hk, h2, h3.then_ hk, (St.no hk).sb h4, (St.no hk).sb h5⟩
theorem DX1.step {M M' : Blocks} {w w' : World} {g : Nat} {y : DoS} {u : Value} (h : DX1 M g y u w) (hs : St M M' w w') : DX1 M' g y u w' := hs.doing h
theorem DX1.cells {M : Blocks} {w : World} {g : Nat} {y : DoS} {u : Value} (h : DX1 M g y u w) :
    w.cell? ⟨g, 0, none⟩ = some (.int .i64 y.kind) ∧ w.cell? ⟨g, 1, none⟩ = some (.int .i64 y.n) ∧ w.cell? ⟨g, 2, none⟩ = some (.int .i64 y.keep) ∧ w.cell? ⟨g, 3, none⟩ = some u := by
  obtain ⟨h1, _⟩ := h
  have hc : ∀ i, w.cell? ⟨g, i, none⟩ = _ := fun i => cell_of_row _ _ i _ _ _ h1
  exact ⟨by rw [hc]; rfl, by rw [hc]; rfl, by rw [hc]; rfl, by rw [hc]; rfl⟩
theorem KD.keepNo {w0 w w' : World} {p g : Nat} {y : DoS} {u : Value} {s : Wn.Dsk} {va vs : Value} {all sure : List UInt8} (h : KD w0 p g y u s va vs all sure w) (hk : Keeps No w w') : KD w0 p g y u s va vs all sure w' := by
  obtain ⟨v, h1, h2⟩ := h
  exact ⟨v, h1.keepNo hk, h2.step (St.no hk)⟩
theorem KD.cells {w0 w : World} {p g : Nat} {y : DoS} {u : Value} {s : Wn.Dsk} {va vs : Value} {all sure : List UInt8} (h : KD w0 p g y u s va vs all sure w) :
    w.cell? ⟨g, 0, none⟩ = some (.int .i64 y.kind) ∧ w.cell? ⟨g, 1, none⟩ = some (.int .i64 y.n) ∧ w.cell? ⟨g, 2, none⟩ = some (.int .i64 y.keep) ∧ w.cell? ⟨g, 3, none⟩ = some u := by
  obtain ⟨v, _, h⟩ := h; exact h.cells
theorem KD.new {w0 w : World} {p : Nat} {v : Value} {y : DoS} {u : Value} {s : Wn.Dsk} {va vs : Value} {all sure : List UInt8} (h : KX w0 p v s va vs all sure w) (hu : SB (Foot p v) w u y.b) :
    KD w0 p w.heap.size y u s va vs all sure (w.alloc (.cells #[.int .i64 y.kind, .int .i64 y.n, .int .i64 y.keep, u] 63)) := by
  refine ⟨v, h.keepNo ((Keeps.refl _ _).alloc _), heap_alloc_new w _, SV.alloc hu _, fun hk => ?_⟩
  have := h.1.lt _ hk
  omega
def QKD (w0 : World) (p g : Nat) (y : DoS) (u : Value) (r : Value) (s : Wn.Dsk) (va vs : Value) (all sure : List UInt8) (e : Ending) (w' : World) : Prop := e = .returned r ∧ KD w0 p g y u s va vs all sure w'
theorem KD.fin {w0 w w' : World} {p g : Nat} {v : Value} {y : DoS} {u : Value} {s s' : Wn.Dsk} {va vs : Value} {all sure : List UInt8} (h : KX w0 p v s va vs all sure w) (h6 : DX1 (Foot p v) g y u w) (hd : DK p v s' w w') : KD w0 p g y u s' va vs all sure w' := by
  obtain ⟨h1, h2, h3, h4, h5⟩ := h
  obtain ⟨v', g1, g2⟩ := hd.st
  refine ⟨v', ⟨g1, fun k hk => ?_, h3.trans g2.keeps fun k hl hk => ?_, g2.sb h4, g2.sb h5⟩, h6.step g2⟩
  · rcases g2.fresh k hk with h | h
    · exact h2 k h
    · exact Nat.le_trans h3.size h
  · have := h2 k hk; omega
theorem kd_disk {w0 w : World} {p g : Nat} {y : DoS} {u : Value} {s s' : Wn.Dsk} {va vs : Value} {all sure : List UInt8} {f : FuncId} {args : Array Value} {r : Value} (h : KD w0 p g y u s va vs all sure w)
    (hc : ∀ v, DiskAt w p v s → Calls Try.prog f args w (PDo p v r s' w)) : Calls Try.prog f args w (QKD w0 p g y u r s' va vs all sure) := by
  obtain ⟨v, h, h6⟩ := h
  exact (hc v h.1).mono fun e w' ⟨he, hd⟩ => ⟨he, KD.fin h h6 hd⟩
/-- The doing's bytes are put. -/
theorem kd_put {w0 w : World} {p g : Nat} {y : DoS} {u : Value} {s : Wn.Dsk} {va vs : Value} {all sure : List UInt8} (h : KD w0 p g y u s va vs all sure w) (gl : Nat) (hgl : w.heap.size = gl) :
    Calls Try.prog 40 #[.pointer (some ⟨p, 0, none⟩), .slice (some ⟨gl, 0, none⟩) 1 1] (w.alloc (.cells #[u] 24)) (QKD w0 p g y u (.int .i64 ((Wn.dPut s y.b).1 : Int)) (Wn.dPut s y.b).2 va vs all sure) := by
  obtain ⟨v, h1, h2⟩ := h
  have hk : Keeps No w (w.alloc (.cells #[u] 24)) := (Keeps.refl _ _).alloc _
  have hl : ([y.b] : List (List UInt8)).flatten = y.b := by simp
  have := dput_any p v s (.slice (some ⟨gl, 0, none⟩) 1 1) [y.b] (w.alloc (.cells #[u] 24)) (h1.keepNo hk).1 ?_
  · rw [hl] at this
    exact this.mono fun e w' ⟨he, hd⟩ => ⟨he, KD.fin (h1.keepNo hk) (h2.step (St.no hk)) hd⟩
  · exact SL.of_all ((SV.newAt w gl _ _ _ 1 1 _ hgl rfl (by omega) (by unfold maxLen; omega) rfl).mono fun k' _ hk' => h1.1.lt k' hk') ⟨SV.alloc h2.2.1 _, trivial⟩
theorem KX.of {w0 w : World} {p g : Nat} {y : DoS} {u : Value} {s : Wn.Dsk} {va vs : Value} {all sure : List UInt8} (h : KD w0 p g y u s va vs all sure w) : ∃ v, KX w0 p v s va vs all sure w := by
  obtain ⟨v, h1, _⟩ := h; exact ⟨v, h1⟩
theorem KX.lens {w0 w : World} {p : Nat} {v : Value} {s : Wn.Dsk} {a a' : Option Addr} {n c n' c' : Nat} {all sure : List UInt8} (h : KX w0 p v s (.slice a n c) (.slice a' n' c') all sure w) : n = all.length ∧ n ≤ c ∧ c ≤ maxLen ∧ n' = sure.length ∧ n' ≤ c' ∧ c' ≤ maxLen := by
  obtain ⟨_, _, _, h4, h5⟩ := h
  exact ⟨h4.len, h4.cap.1, h4.cap.2, h5.len, h5.cap.1, h5.cap.2⟩
theorem KX.opened {w0 w : World} {p : Nat} {v : Value} {s : Wn.Dsk} {va vs : Value} {all sure : List UInt8} (h : KX w0 p v s va vs all sure w) : ∃ a n c a' n' c', va = .slice a n c ∧ vs = .slice a' n' c' := by
  obtain ⟨_, _, _, h4, h5⟩ := h
  obtain ⟨a, n, c, e, _⟩ := h4.opened
  obtain ⟨a', n', c', e', _⟩ := h5.opened
  exact ⟨a, n, c, a', n', c', e, e'⟩
end Go.Proofs.Ytkblcdjkabiliaa
