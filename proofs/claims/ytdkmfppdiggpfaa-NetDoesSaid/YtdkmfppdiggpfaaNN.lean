/- Words on memory: a slice of the net's doings (three numbers, a yes or no, and bytes each). -/
import Derived.Test.YtdkmfppdiggpfaaNM
namespace Go.Proofs.Ytdkmfppdiggpfaa
open Go.RowKit Wm

def I64n (z : Int) : Prop := -9223372036854775808 ≤ z ∧ z ≤ 9223372036854775807
def DoN.ok (x : DoN) : Prop := I64n x.kind ∧ I64n x.way ∧ I64n x.at_
/-- The five cells of a doing. -/
def DnAt (M : Blocks) (w : World) (b off : Nat) (x : DoN) : Prop :=
  w.cell? ⟨b, off, none⟩ = some (.int .i64 x.kind) ∧ w.cell? ⟨b, off + 1, none⟩ = some (.int .i64 x.way) ∧ w.cell? ⟨b, off + 2, none⟩ = some (.int .i64 x.at_) ∧ w.cell? ⟨b, off + 3, none⟩ = some (.bool x.keep) ∧
  ∃ u, w.cell? ⟨b, off + 4, none⟩ = some u ∧ SB M w u x.b
/-- A slice of doings. -/
def SN (M : Blocks) (w : World) (v : Value) (l : List DoN) : Prop :=
  ∃ (a : Option Addr) (n c : Nat), v = .slice a n c ∧ n = l.length ∧ n ≤ c ∧ c ≤ maxLen ∧ (∀ x ∈ l, x.ok) ∧
    (0 < n → ∃ b off, a = some ⟨b, off, none⟩ ∧ ¬ M b ∧ ∀ i x, l[i]? = some x → DnAt M w b (off + i * 5) x)
theorem DnAt.lt {M : Blocks} {w : World} {b off : Nat} {x : DoN} (h : DnAt M w b off x) : b < w.heap.size := cell_lt h.1
theorem DnAt.shift {M M' K : Blocks} {w w' : World} {b off : Nat} {x : DoN} (h : DnAt M w b off x) (hb : ¬ M b) (hk : Keeps K w w') (hK : ∀ k, k < w.heap.size → K k → M k) (hm : ∀ k, k < w.heap.size → M' k → M k) : DnAt M' w' b off x := by
  have hl := h.lt
  obtain ⟨h0, h1, h2, h3, u, h4, hu⟩ := h
  have hn : ¬ K b := fun hk' => hb (hK b hl hk')
  exact ⟨(hk.cell (p := ⟨b, off, none⟩) hl hn).trans h0, (hk.cell (p := ⟨b, off + 1, none⟩) hl hn).trans h1, (hk.cell (p := ⟨b, off + 2, none⟩) hl hn).trans h2, (hk.cell (p := ⟨b, off + 3, none⟩) hl hn).trans h3, u, (hk.cell (p := ⟨b, off + 4, none⟩) hl hn).trans h4, sv_shift hu hk hK hm⟩
theorem SN.shift {M M' K : Blocks} {w w' : World} {v : Value} {l : List DoN} (h : SN M w v l) (hk : Keeps K w w') (hK : ∀ k, k < w.heap.size → K k → M k) (hm : ∀ k, k < w.heap.size → M' k → M k) : SN M' w' v l := by
  obtain ⟨a, n, c, rfl, hn, hc, hcm, hok, hat⟩ := h
  refine ⟨a, n, c, rfl, hn, hc, hcm, hok, fun h0 => ?_⟩
  obtain ⟨b, off, rfl, hb, hall⟩ := hat h0
  have hlen : 0 < l.length := by omega
  have hl : b < w.heap.size := (hall 0 l[0] (List.getElem?_eq_getElem hlen)).lt
  exact ⟨b, off, rfl, fun hM => hb (hm b hl hM), fun i x hx => (hall i x hx).shift hb hk hK hm⟩
theorem SN.opened {M : Blocks} {w : World} {v : Value} {l : List DoN} (h : SN M w v l) : ∃ (a : Option Addr) (n c : Nat), v = .slice a n c ∧ n = l.length ∧ n ≤ c ∧ c ≤ maxLen := by
  obtain ⟨a, n, c, e, hn, hc, hm, _⟩ := h; exact ⟨a, n, c, e, hn, hc, hm⟩
theorem SN.ok {M : Blocks} {w : World} {v : Value} {l : List DoN} (h : SN M w v l) : ∀ x ∈ l, x.ok := by
  obtain ⟨_, _, _, _, _, _, _, ho, _⟩ := h; exact ho
theorem SN.at_ {M : Blocks} {w : World} {a : Option Addr} {n c : Nat} {l : List DoN} (h : SN M w (.slice a n c) l) (h0 : 0 < n) :
    ∃ b off, a = some ⟨b, off, none⟩ ∧ ¬ M b ∧ ∀ i x, l[i]? = some x → DnAt M w b (off + i * 5) x := by
  obtain ⟨_, _, _, e, _, _, _, _, hat⟩ := h; injection e with e1 e2 e3; subst e1; subst e2; exact hat h0

/-- The rows behind a frame that is sent, as a list. -/
def sL (l : List (List UInt8)) (x : List UInt8) : List (List UInt8) := if l.length < 64 then l ++ [x] else l
theorem putLs_n0 (L0 A0 L1 A1 : List (List UInt8)) (x : List UInt8) : putLs 0 [L0, A0, L1, A1] L0 A0 x = [sL L0 x, A0 ++ [x], L1, A1] := by
  unfold putLs sL; split <;> rfl
theorem putLs_n2 (L0 A0 L1 A1 : List (List UInt8)) (x : List UInt8) : putLs 2 [L0, A0, L1, A1] L1 A1 x = [L0, A0, sL L1 x, A1 ++ [x]] := by
  unfold putLs sL; split <;> rfl
theorem putLs_r (L A : List (List UInt8)) (x : List UInt8) : putLs 0 [L, A] L A x = [sL L x, A ++ [x]] := by
  unfold putLs sL; split <;> rfl
/-- What is held of the rows, so that they can be read. -/
def Bn (k : Nat) (l : List (List UInt8)) : Prop := l.length ≤ k ∧ ∀ x ∈ l, x.length ≤ 100
theorem Bn.more {k : Nat} {l : List (List UInt8)} (h : Bn k l) : Bn (k + 1) l := ⟨by have := h.1; omega, h.2⟩
theorem Bn.snoc {k : Nat} {l : List (List UInt8)} {x : List UInt8} (h : Bn k l) (hx : x.length ≤ 100) : Bn (k + 1) (l ++ [x]) := by
  refine ⟨by have := h.1; simp; omega, fun y hy => ?_⟩
  rcases List.mem_append.1 hy with hy | hy
  · exact h.2 y hy
  · simp at hy; subst hy; exact hx
theorem Bn.sL {k : Nat} {l : List (List UInt8)} {x : List UInt8} (h : Bn k l) (hx : x.length ≤ 100) : Bn (k + 1) (sL l x) := by
  unfold Ytdkmfppdiggpfaa.sL
  split
  · exact h.snoc hx
  · exact h.more
theorem Bn.takeL {k : Nat} {l : List (List UInt8)} (h : Bn k l) (z : Int) (keep : Bool) : Bn (k + 1) (takeL l z keep) := by
  unfold Ytdkmfppdiggpfaa.takeL
  split
  · refine ⟨by have := h.1; simp; omega, fun y hy => ?_⟩
    rcases List.mem_append.1 hy with hy | hy
    · exact h.2 y (List.mem_of_mem_take hy)
    · exact h.2 y (List.mem_of_mem_drop hy)
  · exact h.more
end Go.Proofs.Ytdkmfppdiggpfaa
