/- The net and the reference's two ways, side by side. -/
import Derived.Test.YtdkmfppdiggpfaaNK
namespace Go.Proofs.Ytdkmfppdiggpfaa
open Go.RowKit Wm

/-- What a step leaves: F may be written; the new set holds old ones of F and new blocks alone. -/
def St (F F' : Blocks) (w w' : World) : Prop := Keeps F w w' ∧ ∀ k, F' k → F k ∨ w.heap.size ≤ k
theorem St.no {F : Blocks} {w w' : World} (h : Keeps No w w') : St F F w w' := ⟨h.weak, fun _ h => .inl h⟩
theorem St.sb {F F' : Blocks} {w w' : World} {v : Value} {l : List UInt8} (h : St F F' w w') (hs : SB F w v l) : SB F' w' v l :=
  sv_shift hs h.1 (fun _ _ h => h) fun k hl hk => (h.2 k hk).elim id fun h => by omega
theorem St.free {F F' : Blocks} {w w' : World} {g : Nat} (h : St F F' w w') (hg : g < w.heap.size) (hn : ¬ F g) : ¬ F' g := fun hk => (h.2 g hk).elim hn fun h => by omega

def U2 (a b : Blocks) : Blocks := fun k => a k ∨ b k
/-- All blocks of the three. -/
def NF (p a b : Nat) (vs va vb : List Value) : Blocks := fun k => RF p vs k ∨ RF a va k ∨ RF b vb k
theorem nf_a {p a b k : Nat} {vs va vb : List Value} (h : RF a va k ∨ U2 (RF p vs) (RF b vb) k) : NF p a b vs va vb k := by
  rcases h with h | h | h
  · exact .inr (.inl h)
  · exact .inl h
  · exact .inr (.inr h)
theorem nf_b {p a b k : Nat} {vs va vb : List Value} (h : RF b vb k ∨ U2 (RF p vs) (RF a va) k) : NF p a b vs va vb k := by
  rcases h with h | h | h
  · exact .inr (.inr h)
  · exact .inl h
  · exact .inr (.inl h)
theorem nf_c {p a b k : Nat} {vs va vb : List Value} (h : NF p a b vs va vb k) : RF b vb k ∨ U2 (RF p vs) (RF a va) k := by
  rcases h with h | h | h
  · exact .inr (.inl h)
  · exact .inr (.inr h)
  · exact .inl h
/-- A net at p and two ways at a, b, that a row of two pointers at t holds; all made since w0. -/
def NS (w0 : World) (p a b t : Nat) (vs va vb : List Value) (Ns La Lb : List (List (List UInt8))) (w : World) : Prop :=
  RowsAt 47 86 [.bool true] (U2 (RF a va) (RF b vb)) w p vs Ns ∧
  RowsAt 47 68 [] (U2 (RF p vs) (RF b vb)) w a va La ∧
  RowsAt 47 68 [] (U2 (RF p vs) (RF a va)) w b vb Lb ∧
  w.heap[t]? = some (.cells #[.pointer (some ⟨a, 0, none⟩), .pointer (some ⟨b, 0, none⟩)] 69 (0, 0)) ∧
  (∀ k, RF p vs k → ¬ RF a va k ∧ ¬ RF b vb k) ∧ (∀ k, RF a va k → ¬ RF b vb k) ∧
  (∀ k, NF p a b vs va vb k → k ≠ t ∧ w0.heap.size ≤ k) ∧ Keeps No w0 w ∧ w0.heap.size ≤ t
section
variable {w0 w w' : World} {p a b t : Nat} {vs va vb vs' : List Value} {Ns La Lb Ls' : List (List (List UInt8))}
theorem NS.lt (h : NS w0 p a b t vs va vb Ns La Lb w) : ∀ k, NF p a b vs va vb k → k < w.heap.size := by
  obtain ⟨h1, h2, h3, _⟩ := h
  rintro k (hk | hk | hk)
  · exact h1.lt k hk
  · exact h2.lt k hk
  · exact h3.lt k hk
theorem NS.tlt (h : NS w0 p a b t vs va vb Ns La Lb w) : t < w.heap.size := by
  obtain ⟨_, _, _, ht, _⟩ := h
  rcases Nat.lt_or_ge t w.heap.size with hl | hl
  · exact hl
  · rw [Array.getElem?_eq_none hl] at ht; cases ht
/-- The net turns. -/
theorem NS.net (h : NS w0 p a b t vs va vb Ns La Lb w) (h1 : RowsAt 47 86 [.bool true] (U2 (RF a va) (RF b vb)) w' p vs' Ls') (h2 : Keeps (RF p vs) w w') (h3 : ∀ k, RF p vs' k → RF p vs k ∨ w.heap.size ≤ k) :
    NS w0 p a b t vs' va vb Ls' La Lb w' ∧ St (NF p a b vs va vb) (NF p a b vs' va vb) w w' := by
  have hlt := h.lt
  have htl := h.tlt
  obtain ⟨g1, g2, g3, g4, g5, g6, g7, g8, g9⟩ := h
  refine ⟨⟨h1, g2.keep h2 (fun k hk hp => (g5 k hp).1 hk) (fun _ _ h => .inl h) (fun k hl hk => hk.elim (fun hk => (h3 k hk).elim .inl fun h => by omega) .inr),
    g3.keep h2 (fun k hk hp => (g5 k hp).2 hk) (fun _ _ h => .inl h) (fun k hl hk => hk.elim (fun hk => (h3 k hk).elim .inl fun h => by omega) .inr),
    (h2.block t htl fun hk => (g7 t (.inl hk)).1 rfl).trans g4, fun k hk => ?_, g6, fun k hk => ?_, g8.trans h2 fun k hl hk => by have := (g7 k (.inl hk)).2; omega, g9⟩, h2.mono fun _ _ hk => .inl hk, fun k hk => ?_⟩
  · rcases h3 k hk with hk | hk
    · exact g5 k hk
    · exact ⟨fun hq => by have := hlt k (.inr (.inl hq)); omega, fun hq => by have := hlt k (.inr (.inr hq)); omega⟩
  · rcases hk with hk | hk
    · rcases h3 k hk with hk | hk
      · exact g7 k (.inl hk)
      · have := g8.size; exact ⟨by omega, by omega⟩
    · exact g7 k (.inr hk)
  · rcases hk with hk | hk
    · exact (h3 k hk).imp .inl id
    · exact .inl (.inr hk)
/-- The first way turns. -/
theorem NS.wa (h : NS w0 p a b t vs va vb Ns La Lb w) (h1 : RowsAt 47 68 [] (U2 (RF p vs) (RF b vb)) w' a vs' Ls') (h2 : Keeps (RF a va) w w') (h3 : ∀ k, RF a vs' k → RF a va k ∨ w.heap.size ≤ k) :
    NS w0 p a b t vs vs' vb Ns Ls' Lb w' ∧ St (NF p a b vs va vb) (NF p a b vs vs' vb) w w' := by
  have hlt := h.lt
  have htl := h.tlt
  obtain ⟨g1, g2, g3, g4, g5, g6, g7, g8, g9⟩ := h
  refine ⟨⟨g1.keep h2 (fun k hk hp => (g5 k hk).1 hp) (fun _ _ h => .inl h) (fun k hl hk => hk.elim (fun hk => (h3 k hk).elim .inl fun h => by omega) .inr), h1,
    g3.keep h2 (fun k hk hp => (g6 k hp) hk) (fun _ _ h => .inr h) (fun k hl hk => hk.elim .inl fun hk => (h3 k hk).elim .inr fun h => by omega),
    (h2.block t htl fun hk => (g7 t (.inr (.inl hk))).1 rfl).trans g4, fun k hk => ⟨fun hq => ?_, (g5 k hk).2⟩, fun k hk => ?_, fun k hk => ?_, g8.trans h2 fun k hl hk => by have := (g7 k (.inr (.inl hk))).2; omega, g9⟩, h2.mono fun _ _ hk => .inr (.inl hk), fun k hk => ?_⟩
  · rcases h3 k hq with hq | hq
    · exact (g5 k hk).1 hq
    · have := hlt k (.inl hk); omega
  · rcases h3 k hk with hk | hk
    · exact g6 k hk
    · intro hq; have := hlt k (.inr (.inr hq)); omega
  · rcases hk with hk | hk | hk
    · exact g7 k (.inl hk)
    · rcases h3 k hk with hk | hk
      · exact g7 k (.inr (.inl hk))
      · have := g8.size; exact ⟨by omega, by omega⟩
    · exact g7 k (.inr (.inr hk))
  · rcases hk with hk | hk | hk
    · exact .inl (.inl hk)
    · exact (h3 k hk).imp (fun h => .inr (.inl h)) id
    · exact .inl (.inr (.inr hk))
/-- The second way turns. -/
theorem NS.wb (h : NS w0 p a b t vs va vb Ns La Lb w) (h1 : RowsAt 47 68 [] (U2 (RF p vs) (RF a va)) w' b vs' Ls') (h2 : Keeps (RF b vb) w w') (h3 : ∀ k, RF b vs' k → RF b vb k ∨ w.heap.size ≤ k) :
    NS w0 p a b t vs va vs' Ns La Ls' w' ∧ St (NF p a b vs va vb) (NF p a b vs va vs') w w' := by
  have hlt := h.lt
  have htl := h.tlt
  obtain ⟨g1, g2, g3, g4, g5, g6, g7, g8, g9⟩ := h
  refine ⟨⟨g1.keep h2 (fun k hk hp => (g5 k hk).2 hp) (fun _ _ h => .inr h) (fun k hl hk => hk.elim .inl fun hk => (h3 k hk).elim .inr fun h => by omega),
    g2.keep h2 (fun k hk hp => (g6 k hk) hp) (fun _ _ h => .inr h) (fun k hl hk => hk.elim .inl fun hk => (h3 k hk).elim .inr fun h => by omega), h1,
    (h2.block t htl fun hk => (g7 t (.inr (.inr hk))).1 rfl).trans g4, fun k hk => ⟨(g5 k hk).1, fun hq => ?_⟩, fun k hk hq => ?_, fun k hk => ?_, g8.trans h2 fun k hl hk => by have := (g7 k (.inr (.inr hk))).2; omega, g9⟩, h2.mono fun _ _ hk => .inr (.inr hk), fun k hk => ?_⟩
  · rcases h3 k hq with hq | hq
    · exact (g5 k hk).2 hq
    · have := hlt k (.inl hk); omega
  · rcases h3 k hq with hq | hq
    · exact g6 k hk hq
    · have := hlt k (.inr (.inl hk)); omega
  · rcases hk with hk | hk | hk
    · exact g7 k (.inl hk)
    · exact g7 k (.inr (.inl hk))
    · rcases h3 k hk with hk | hk
      · exact g7 k (.inr (.inr hk))
      · have := g8.size; exact ⟨by omega, by omega⟩
  · rcases hk with hk | hk | hk
    · exact .inl (.inl hk)
    · exact .inl (.inr (.inl hk))
    · exact (h3 k hk).imp (fun h => .inr (.inr h)) id
theorem NS.keepNo (h : NS w0 p a b t vs va vb Ns La Lb w) (hk : Keeps No w w') : NS w0 p a b t vs va vb Ns La Lb w' :=
  (h.net (h.1.keep hk (fun _ _ hk => hk) (fun _ _ hk => hk.elim) fun _ _ hk => hk) hk.weak fun _ hk => .inl hk).1
end

/-- A doing: its kind, way, place, whether the frame is kept, bytes. -/
structure DoN where
  kind : Int
  way : Int
  at_ : Int
  keep : Bool
  b : List UInt8
/-- The doing at hand, in a block of its own. -/
def DX (F : Blocks) (g : Nat) (y : DoN) (u : Value) (w : World) : Prop :=
  w.heap[g]? = some (.cells #[.int .i64 y.kind, .int .i64 y.way, .int .i64 y.at_, .bool y.keep, u] 71 (0, 0)) ∧ ¬ F g
theorem DX.lt {F : Blocks} {g : Nat} {y : DoN} {u : Value} {w : World} (h : DX F g y u w) : g < w.heap.size := by
  rcases Nat.lt_or_ge g w.heap.size with hl | hl
  · exact hl
  · have := h.1; rw [Array.getElem?_eq_none hl] at this; cases this
theorem DX.step {F F' : Blocks} {g : Nat} {y : DoN} {u : Value} {w w' : World} (h : DX F g y u w) (hs : St F F' w w') : DX F' g y u w' :=
  ⟨(hs.1.block g h.lt h.2).trans h.1, hs.free h.lt h.2⟩
/-- Both, the doing at hand, and bytes that are held. -/
def NX (w0 : World) (p a b t g : Nat) (y : DoN) (u : Value) (hs : List (Value × List UInt8)) (Ns La Lb : List (List (List UInt8))) (w : World) : Prop :=
  ∃ vs va vb, NS w0 p a b t vs va vb Ns La Lb w ∧ DX (NF p a b vs va vb) g y u w ∧ ∀ x ∈ hs, SB (NF p a b vs va vb) w x.1 x.2
section
variable {w0 w w' : World} {p a b t g : Nat} {y : DoN} {u : Value} {hs : List (Value × List UInt8)} {Ns La Lb : List (List (List UInt8))}
theorem NX.keepNo (h : NX w0 p a b t g y u hs Ns La Lb w) (hk : Keeps No w w') : NX w0 p a b t g y u hs Ns La Lb w' := by
  obtain ⟨vs, va, vb, h1, h2, h3⟩ := h
  exact ⟨vs, va, vb, h1.keepNo hk, h2.step (St.no hk), fun x hx => (St.no hk).sb (h3 x hx)⟩
theorem NX.kept (h : NX w0 p a b t g y u hs Ns La Lb w) : Keeps No w0 w := by
  obtain ⟨vs, va, vb, h1, _⟩ := h; exact h1.2.2.2.2.2.2.2.1
theorem NX.cells (h : NX w0 p a b t g y u hs Ns La Lb w) :
    w.cell? ⟨g, 0, none⟩ = some (.int .i64 y.kind) ∧ w.cell? ⟨g, 1, none⟩ = some (.int .i64 y.way) ∧ w.cell? ⟨g, 2, none⟩ = some (.int .i64 y.at_) ∧ w.cell? ⟨g, 3, none⟩ = some (.bool y.keep) ∧ w.cell? ⟨g, 4, none⟩ = some u := by
  obtain ⟨vs, va, vb, _, ⟨hh, _⟩, _⟩ := h
  exact ⟨(cell_of_row _ _ 0 _ _ _ hh).trans rfl, (cell_of_row _ _ 1 _ _ _ hh).trans rfl, (cell_of_row _ _ 2 _ _ _ hh).trans rfl, (cell_of_row _ _ 3 _ _ _ hh).trans rfl, (cell_of_row _ _ 4 _ _ _ hh).trans rfl⟩
theorem NX.ptrs (h : NX w0 p a b t g y u hs Ns La Lb w) :
    w.cell? ⟨t, 0, none⟩ = some (.pointer (some ⟨a, 0, none⟩)) ∧ w.cell? ⟨t, 1, none⟩ = some (.pointer (some ⟨b, 0, none⟩)) := by
  obtain ⟨vs, va, vb, ⟨_, _, _, hh, _⟩, _⟩ := h
  exact ⟨(cell_of_row _ _ 0 _ _ _ hh).trans rfl, (cell_of_row _ _ 1 _ _ _ hh).trans rfl⟩
theorem NX.fewer {hs' : List (Value × List UInt8)} (h : NX w0 p a b t g y u hs Ns La Lb w) (hm : ∀ x ∈ hs', x ∈ hs) : NX w0 p a b t g y u hs' Ns La Lb w := by
  obtain ⟨vs, va, vb, h1, h2, h3⟩ := h
  exact ⟨vs, va, vb, h1, h2, fun x hx => h3 x (hm x hx)⟩
theorem NX.sb (h : NX w0 p a b t g y u hs Ns La Lb w) {v : Value} {l : List UInt8} (hm : (v, l) ∈ hs) : SB No w v l := by
  obtain ⟨vs, va, vb, h1, h2, h3⟩ := h
  exact SV.no (h3 _ hm)
theorem NX.made (h : NX w0 p a b t g y u hs Ns La Lb w) (h4 : Ns.length = 4) : w.cell? ⟨p, 4, none⟩ = some (.bool true) := by
  obtain ⟨vs, va, vb, h1, h2, h3⟩ := h
  exact RowsAt.made h1.1 h4
end
/-- An answer, and the state behind it. -/
def QX (w0 : World) (p a b t g : Nat) (y : DoN) (u : Value) (hs : List (Value × List UInt8)) (Ns La Lb : List (List (List UInt8))) (r : Value) (e : Ending) (w' : World) : Prop :=
  e = .returned r ∧ NX w0 p a b t g y u hs Ns La Lb w'
/-- Bytes and a code are answered. -/
def QT (w0 : World) (p a b t g : Nat) (y : DoN) (u : Value) (hs : List (Value × List UInt8)) (Ns La Lb : List (List (List UInt8))) (x : List UInt8) (c : Int) (e : Ending) (w' : World) : Prop :=
  ∃ v, e = .returned (.tuple #[v, .int .i64 c]) ∧ NX w0 p a b t g y u ((v, x) :: hs) Ns La Lb w'
section
variable {w0 w : World} {p a b t g : Nat} {y : DoN} {u : Value} {hs : List (Value × List UInt8)} {Ns La Lb : List (List (List UInt8))}
theorem nx_send {k : Nat} {wy : Int} {l al : List (List UInt8)} {pv : Value} {ls : List (List UInt8)} (h : NX w0 p a b t g y u hs Ns La Lb w) (h4 : Ns.length = 4) (hw0 : 0 ≤ wy) (hw2 : wy < 2) (hk : k = 2 * wy.toNat)
    (hl : Ns[k]? = some l) (ha : Ns[k + 1]? = some al) (hx : SL No w pv ls) (hll : l.length ≤ 1048576) (hal : al.length ≤ 1048576) (hsm : ls.flatten.length ≤ 16777216) :
    Calls Try.prog 32 #[.pointer (some ⟨p, 0, none⟩), .int .i64 wy, pv] w (QX w0 p a b t g y u hs (putLs k Ns l al ls.flatten) La Lb (.int .i64 (sendC l))) := by
  obtain ⟨vs, va, vb, h1, h2, h3⟩ := h
  refine (send_any No _ p k wy vs Ns l al pv ls w h1.1 h4 hw0 hw2 hk hl ha hx (fun q hq => h1.lt q (.inr hq)) hll hal hsm).mono fun e w' ⟨he, vs', g1, g2, g3⟩ => ?_
  obtain ⟨k1, k2⟩ := h1.net g1 g2 g3
  exact ⟨he, vs', va, vb, k1, h2.step k2, fun x hx => k2.sb (h3 x hx)⟩
theorem nx_take {k : Nat} {wy z : Int} {keep : Bool} {l : List (List UInt8)} (h : NX w0 p a b t g y u hs Ns La Lb w) (h4 : Ns.length = 4) (hw0 : 0 ≤ wy) (hw2 : wy < 2) (hk : k = 2 * wy.toNat)
    (hl : Ns[k]? = some l) (hll : l.length ≤ 1048576) (hsm : ∀ x ∈ l, x.length ≤ 16777216) :
    Calls Try.prog 34 #[.pointer (some ⟨p, 0, none⟩), .int .i64 wy, .int .i64 z, .bool keep] w (QT w0 p a b t g y u hs (Ns.set k (takeL l z keep)) La Lb (takeB l z) (takeC l z)) := by
  obtain ⟨vs, va, vb, h1, h2, h3⟩ := h
  refine (take_any _ p k wy z keep vs Ns l w h1.1 h4 hw0 hw2 hk hl (fun q hq => h1.lt q (.inr hq)) hll hsm).mono fun e w' ⟨v, vs', he, gb, g1, g2, g3⟩ => ?_
  obtain ⟨k1, k2⟩ := h1.net g1 g2 g3
  refine ⟨v, he, vs', va, vb, k1, h2.step k2, fun x hx => ?_⟩
  rcases List.mem_cons.1 hx with rfl | hx
  · exact gb
  · exact k2.sb (h3 x hx)
theorem nx_lose {k : Nat} {wy z : Int} {l : List (List UInt8)} (h : NX w0 p a b t g y u hs Ns La Lb w) (h4 : Ns.length = 4) (hw0 : 0 ≤ wy) (hw2 : wy < 2) (hk : k = 2 * wy.toNat)
    (hl : Ns[k]? = some l) (hll : l.length ≤ 1048576) (hsm : ∀ x ∈ l, x.length ≤ 16777216) :
    Calls Try.prog 36 #[.pointer (some ⟨p, 0, none⟩), .int .i64 wy, .int .i64 z] w (QX w0 p a b t g y u hs (Ns.set k (takeL l z false)) La Lb (.int .i64 (takeC l z))) := by
  obtain ⟨vs, va, vb, h1, h2, h3⟩ := h
  refine (lose_any _ p k wy z vs Ns l w h1.1 h4 hw0 hw2 hk hl (fun q hq => h1.lt q (.inr hq)) hll hsm).mono fun e w' ⟨he, vs', g1, g2, g3⟩ => ?_
  obtain ⟨k1, k2⟩ := h1.net g1 g2 g3
  exact ⟨he, vs', va, vb, k1, h2.step k2, fun x hx => k2.sb (h3 x hx)⟩
theorem nx_len {k : Nat} {wy : Int} {l : List (List UInt8)} (h : NX w0 p a b t g y u hs Ns La Lb w) (h4 : Ns.length = 4) (hw0 : 0 ≤ wy) (hw2 : wy < 2) (hk : k = 2 * wy.toNat) (hl : Ns[k]? = some l) :
    Calls Try.prog 38 #[.pointer (some ⟨p, 0, none⟩), .int .i64 wy] w (PInt (l.length : Int) w) := by
  obtain ⟨vs, va, vb, h1, h2, h3⟩ := h
  exact len_any _ p k wy vs Ns l w h1.1 h4 hw0 hw2 hk hl
theorem nx_sent {M : Blocks} {k : Nat} {wy : Int} {l : List (List UInt8)} {v : Value} {x : List UInt8} (h : NX w0 p a b t g y u hs Ns La Lb w) (h4 : Ns.length = 4) (hw0 : 0 ≤ wy) (hw2 : wy < 2) (hk : k = 2 * wy.toNat) (hl : Ns[k + 1]? = some l) (hx : SB M w v x) :
    Calls Try.prog 39 #[.pointer (some ⟨p, 0, none⟩), .int .i64 wy, v] w (PB (hasB l x) w) := by
  obtain ⟨vs, va, vb, h1, h2, h3⟩ := h
  exact sent_any M _ p k wy v x vs Ns l w h1.1 h4 hw0 hw2 hk hl hx
/-- The reference's, of the first way. -/
theorem nx_rsend_a {l al : List (List UInt8)} {v : Value} {x : List UInt8} (h : NX w0 p a b t g y u hs Ns La Lb w) (hl : La[0]? = some l) (ha : La[1]? = some al) (hm : (v, x) ∈ hs) (hll : l.length ≤ 1048576) (hal : al.length ≤ 1048576) :
    Calls Try.prog 33 #[.pointer (some ⟨a, 0, none⟩), v] w (QX w0 p a b t g y u hs Ns (putLs 0 La l al x) Lb (.int .i64 (sendC l))) := by
  obtain ⟨vs, va, vb, h1, h2, h3⟩ := h
  refine (rsend_any _ a va La l al v x w h1.2.1 hl ha (SV.mono (h3 _ hm) fun k _ hk => nf_a hk) hll hal).mono fun e w' ⟨he, vs', g1, g2, g3⟩ => ?_
  obtain ⟨k1, k2⟩ := h1.wa g1 g2 g3
  exact ⟨he, vs, vs', vb, k1, h2.step k2, fun x hx => k2.sb (h3 x hx)⟩
theorem nx_rsend_b {l al : List (List UInt8)} {v : Value} {x : List UInt8} (h : NX w0 p a b t g y u hs Ns La Lb w) (hl : Lb[0]? = some l) (ha : Lb[1]? = some al) (hm : (v, x) ∈ hs) (hll : l.length ≤ 1048576) (hal : al.length ≤ 1048576) :
    Calls Try.prog 33 #[.pointer (some ⟨b, 0, none⟩), v] w (QX w0 p a b t g y u hs Ns La (putLs 0 Lb l al x) (.int .i64 (sendC l))) := by
  obtain ⟨vs, va, vb, h1, h2, h3⟩ := h
  refine (rsend_any _ b vb Lb l al v x w h1.2.2.1 hl ha (SV.mono (h3 _ hm) fun k _ hk => nf_b hk) hll hal).mono fun e w' ⟨he, vs', g1, g2, g3⟩ => ?_
  obtain ⟨k1, k2⟩ := h1.wb g1 g2 g3
  exact ⟨he, vs, va, vs', k1, h2.step k2, fun x hx => k2.sb (h3 x hx)⟩
theorem nx_rtake_a {z : Int} {keep : Bool} {l : List (List UInt8)} (h : NX w0 p a b t g y u hs Ns La Lb w) (hl : La[0]? = some l) (hll : l.length ≤ 1048576) :
    Calls Try.prog 35 #[.pointer (some ⟨a, 0, none⟩), .int .i64 z, .bool keep] w (QT w0 p a b t g y u hs Ns (La.set 0 (takeL l z keep)) Lb (takeB l z) (takeC l z)) := by
  obtain ⟨vs, va, vb, h1, h2, h3⟩ := h
  refine (rtake_any _ a z keep va La l w h1.2.1 hl hll).mono fun e w' ⟨v, vs', he, gb, g1, g2, g3⟩ => ?_
  obtain ⟨k1, k2⟩ := h1.wa g1 g2 g3
  refine ⟨v, he, vs, vs', vb, k1, h2.step k2, fun x hx => ?_⟩
  rcases List.mem_cons.1 hx with rfl | hx
  · exact SV.mono gb fun k _ hk => nf_a hk
  · exact k2.sb (h3 x hx)
theorem nx_rtake_b {z : Int} {keep : Bool} {l : List (List UInt8)} (h : NX w0 p a b t g y u hs Ns La Lb w) (hl : Lb[0]? = some l) (hll : l.length ≤ 1048576) :
    Calls Try.prog 35 #[.pointer (some ⟨b, 0, none⟩), .int .i64 z, .bool keep] w (QT w0 p a b t g y u hs Ns La (Lb.set 0 (takeL l z keep)) (takeB l z) (takeC l z)) := by
  obtain ⟨vs, va, vb, h1, h2, h3⟩ := h
  refine (rtake_any _ b z keep vb Lb l w h1.2.2.1 hl hll).mono fun e w' ⟨v, vs', he, gb, g1, g2, g3⟩ => ?_
  obtain ⟨k1, k2⟩ := h1.wb g1 g2 g3
  refine ⟨v, he, vs, va, vs', k1, h2.step k2, fun x hx => ?_⟩
  rcases List.mem_cons.1 hx with rfl | hx
  · exact SV.mono gb fun k _ hk => nf_c hk
  · exact k2.sb (h3 x hx)
/-- How many there are, as the reference's cells say it; was it sent. -/
theorem nx_la {l : List (List UInt8)} (h : NX w0 p a b t g y u hs Ns La Lb w) (hl : La[0]? = some l) : ∃ c ad, w.cell? ⟨a, 0, none⟩ = some (.slice ad l.length c) := by
  obtain ⟨vs, va, vb, h1, h2, h3⟩ := h
  obtain ⟨ad, n, c, us, _, hn, _, _, _, _, _, hc, _⟩ := h1.2.1.row hl
  subst hn
  exact ⟨c, ad, hc⟩
theorem nx_lb {l : List (List UInt8)} (h : NX w0 p a b t g y u hs Ns La Lb w) (hl : Lb[0]? = some l) : ∃ c ad, w.cell? ⟨b, 0, none⟩ = some (.slice ad l.length c) := by
  obtain ⟨vs, va, vb, h1, h2, h3⟩ := h
  obtain ⟨ad, n, c, us, _, hn, _, _, _, _, _, hc, _⟩ := h1.2.2.1.row hl
  subst hn
  exact ⟨c, ad, hc⟩
theorem nx_rsent_a {M : Blocks} {l : List (List UInt8)} {v : Value} {x : List UInt8} (h : NX w0 p a b t g y u hs Ns La Lb w) (hl : La[1]? = some l) (hx : SB M w v x) :
    Calls Try.prog 40 #[.pointer (some ⟨a, 0, none⟩), v] w (fun e w' => e = .returned (.bool (hasB l x)) ∧ ∃ k, w' = w.drewN k) := by
  obtain ⟨vs, va, vb, h1, h2, h3⟩ := h
  exact rsent_any M _ a va La l v x w h1.2.1 hl hx
theorem nx_rsent_b {M : Blocks} {l : List (List UInt8)} {v : Value} {x : List UInt8} (h : NX w0 p a b t g y u hs Ns La Lb w) (hl : Lb[1]? = some l) (hx : SB M w v x) :
    Calls Try.prog 40 #[.pointer (some ⟨b, 0, none⟩), v] w (fun e w' => e = .returned (.bool (hasB l x)) ∧ ∃ k, w' = w.drewN k) := by
  obtain ⟨vs, va, vb, h1, h2, h3⟩ := h
  exact rsent_any M _ b vb Lb l v x w h1.2.2.1 hl hx
end
end Go.Proofs.Ytdkmfppdiggpfaa
