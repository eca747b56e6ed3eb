/- Words on memory: a slice of doings (three numbers and bytes each). No program in sight. -/
import Derived.Test.YtkblcdjkabiliaaMem
namespace Wm
open Go Go.RowKit

/-- A doing: its kind, two numbers, bytes. -/
structure DoS where
  kind : Int
  n : Int
  keep : Int
  b : List UInt8

def I64b (z : Int) : Prop := -9223372036854775808 ≤ z ∧ z ≤ 9223372036854775807
def DoS.ok (x : DoS) : Prop := I64b x.kind ∧ I64b x.n ∧ I64b x.keep

/-- The four cells of a doing. -/
def DoAt (M : Blocks) (w : World) (b off : Nat) (x : DoS) : Prop :=
  w.cell? ⟨b, off, none⟩ = some (.int .i64 x.kind) ∧ w.cell? ⟨b, off + 1, none⟩ = some (.int .i64 x.n) ∧ w.cell? ⟨b, off + 2, none⟩ = some (.int .i64 x.keep) ∧
  ∃ u, w.cell? ⟨b, off + 3, none⟩ = some u ∧ SB M w u x.b

/-- A slice of doings. -/
def SD (M : Blocks) (w : World) (v : Value) (l : List DoS) : Prop :=
  ∃ (a : Option Addr) (n c : Nat), v = .slice a n c ∧ n = l.length ∧ n ≤ c ∧ c ≤ maxLen ∧ (∀ x ∈ l, x.ok) ∧
    (0 < n → ∃ b off, a = some ⟨b, off, none⟩ ∧ ¬ M b ∧ ∀ i x, l[i]? = some x → DoAt M w b (off + i * 4) x)

theorem DoAt.lt {M : Blocks} {w : World} {b off : Nat} {x : DoS} (h : DoAt M w b off x) : b < w.heap.size := cell_lt h.1
theorem DoAt.shift {M M' K : Blocks} {w w' : World} {b off : Nat} {x : DoS} (h : DoAt M w b off x) (hb : ¬ M b) (hk : Keeps K w w') (hK : ∀ k, k < w.heap.size → K k → M k) (hm : ∀ k, k < w.heap.size → M' k → M k) : DoAt M' w' b off x := by
  have hl := h.lt
  obtain ⟨h0, h1, h2, u, h3, hu⟩ := h
  have hn : ¬ K b := fun hk' => hb (hK b hl hk')
  refine ⟨(hk.cell (p := ⟨b, off, none⟩) hl hn).trans h0, (hk.cell (p := ⟨b, off + 1, none⟩) hl hn).trans h1, (hk.cell (p := ⟨b, off + 2, none⟩) hl hn).trans h2, u, (hk.cell (p := ⟨b, off + 3, none⟩) hl hn).trans h3, ?_⟩
  have hu1 : SB (fun k => M k ∨ M' k) w u x.b := SV.mono hu fun k hl hk => hk.elim id (hm k hl)
  exact (SV.keep hu1 hk fun k hl hk => .inl (hK k hl hk)).mono fun _ _ hk => .inr hk
theorem SD.shift {M M' K : Blocks} {w w' : World} {v : Value} {l : List DoS} (h : SD M w v l) (hk : Keeps K w w') (hK : ∀ k, k < w.heap.size → K k → M k) (hm : ∀ k, k < w.heap.size → M' k → M k) : SD M' w' v l := by
  obtain ⟨a, n, c, rfl, hn, hc, hcm, hok, hat⟩ := h
  refine ⟨a, n, c, rfl, hn, hc, hcm, hok, fun h0 => ?_⟩
  obtain ⟨b, off, rfl, hb, hall⟩ := hat h0
  have hlen : 0 < l.length := by omega
  have hl : b < w.heap.size := (hall 0 l[0] (List.getElem?_eq_getElem hlen)).lt
  exact ⟨b, off, rfl, fun hM => hb (hm b hl hM), fun i x hx => (hall i x hx).shift hb hk hK hm⟩
theorem SD.opened {M : Blocks} {w : World} {v : Value} {l : List DoS} (h : SD M w v l) : ∃ (a : Option Addr) (n c : Nat), v = .slice a n c ∧ n = l.length ∧ n ≤ c ∧ c ≤ maxLen := by
  obtain ⟨a, n, c, e, hn, hc, hm, _⟩ := h; exact ⟨a, n, c, e, hn, hc, hm⟩
theorem SD.ok {M : Blocks} {w : World} {v : Value} {l : List DoS} (h : SD M w v l) : ∀ x ∈ l, x.ok := by
  obtain ⟨_, _, _, _, _, _, _, ho, _⟩ := h; exact ho
theorem SD.at_ {M : Blocks} {w : World} {a : Option Addr} {n c : Nat} {l : List DoS} (h : SD M w (.slice a n c) l) (h0 : 0 < n) :
    ∃ b off, a = some ⟨b, off, none⟩ ∧ ¬ M b ∧ ∀ i x, l[i]? = some x → DoAt M w b (off + i * 4) x := by
  obtain ⟨_, _, _, e, _, _, _, _, hat⟩ := h; injection e with e1 e2 e3; subst e1; subst e2; exact hat h0
end Wm
