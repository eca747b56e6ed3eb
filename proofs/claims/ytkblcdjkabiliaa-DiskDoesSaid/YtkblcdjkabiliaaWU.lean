/- The two disks side by side, and the doing at hand. -/
import Derived.Test.YtkblcdjkabiliaaWT
import Derived.Deep.RegionHeld3
namespace Go.Proofs.Ytkblcdjkabiliaa
open Go.RowKit Wm

/-- The blocks of both disks. -/
def Both (p q : Nat) (v : Value) : Blocks := fun k => k = q ∨ Foot p v k

/-- Both disks, made since w0; nothing of w0 has turned. -/
def DB (w0 : World) (p q : Nat) (v : Value) (s sr : Wn.Dsk) (w : World) : Prop :=
  DiskAt w p v s ∧ RDisk w q (Both p q v) sr ∧ (∀ k, Foot p v k → w0.heap.size ≤ k) ∧ w0.heap.size ≤ q ∧ ¬ Foot p v q ∧ Keeps No w0 w

theorem DB.both {w0 w : World} {p q : Nat} {v : Value} {s sr : Wn.Dsk} (h : DB w0 p q v s sr w) : ∀ k, Both p q v k → w0.heap.size ≤ k ∧ k < w.heap.size := by
  obtain ⟨h1, h2, h3, h4, _⟩ := h
  rintro k (rfl | hk)
  · exact ⟨h4, h2.lt⟩
  · exact ⟨h3 k hk, h1.lt k hk⟩
/-- What both disks do to the rest. -/
structure Step (w0 : World) (p q : Nat) (v v' : Value) (w w' : World) : Prop where
  keeps : Keeps (Both p q v) w w'
  fresh : ∀ k, Both p q v' k → Both p q v k ∨ w.heap.size ≤ k
theorem DB.disk {w0 w w' : World} {p q : Nat} {v : Value} {s sr s' : Wn.Dsk} (h : DB w0 p q v s sr w) (hd : DK p v s' w w') : ∃ v', DB w0 p q v' s' sr w' ∧ Step w0 p q v v' w w' := by
  obtain ⟨h1, h2, h3, h4, h5, h6⟩ := h
  obtain ⟨v', g1, g2, g3⟩ := hd
  have hq := h2.lt
  have hfr : ∀ k, Both p q v' k → Both p q v k ∨ w.heap.size ≤ k := by
    rintro k (rfl | hk)
    · exact .inl (.inl rfl)
    · exact (g3 k hk).imp .inr id
  refine ⟨v', ⟨g1, h2.keep g2 h5 (fun k _ hk => .inr hk) (fun k hl hk => (hfr k hk).elim id fun h => by omega) (.inl rfl), fun k hk => ?_, h4, fun hk => ?_, h6.trans g2 fun k hl hk => ?_⟩, g2.mono fun k _ hk => .inr hk, hfr⟩
  · rcases g3 k hk with h | h
    · exact h3 k h
    · exact Nat.le_trans h6.size h
  · rcases g3 q hk with h | h
    · exact h5 h
    · omega
  · have := h3 k hk; omega
theorem DB.ref {w0 w w' : World} {p q : Nat} {v : Value} {s sr sr' : Wn.Dsk} (h : DB w0 p q v s sr w) (hr : RDisk w' q (Both p q v) sr') (hk : Keeps (Only q) w w') : DB w0 p q v s sr' w' ∧ Step w0 p q v v w w' := by
  obtain ⟨h1, h2, h3, h4, h5, h6⟩ := h
  refine ⟨⟨h1.keep hk fun k hf e => h5 (by unfold Only at e; exact e ▸ hf), hr, h3, h4, h5, h6.trans hk fun k hl e => by unfold Only at e; omega⟩, hk.mono fun k _ e => .inl e, fun k hk => .inl hk⟩
theorem DB.keep {w0 w w' : World} {p q : Nat} {v : Value} {s sr : Wn.Dsk} (h : DB w0 p q v s sr w) (hk : Keeps No w w') : DB w0 p q v s sr w' := by
  obtain ⟨h1, h2, h3, h4, h5, h6⟩ := h
  exact ⟨h1.keep hk fun _ _ hk => hk, h2.keep hk (fun hk => hk) (fun _ _ hk => hk.elim) (fun _ _ hk => hk) (.inl rfl), h3, h4, h5, h6.then_ hk⟩

/-- The doing at hand, in a block g of its own. -/
def DX (M : Blocks) (g : Nat) (y : DoS) (u : Value) (w : World) : Prop :=
  w.heap[g]? = some (.cells #[.int .i64 y.kind, .int .i64 y.n, .int .i64 y.keep, u] 63 (0, 0)) ∧ SB M w u y.b ∧ ¬ M g
theorem DX.step {w0 w w' : World} {p q g : Nat} {v v' u : Value} {y : DoS} (h : DX (Both p q v) g y u w) (hs : Step w0 p q v v' w w') : DX (Both p q v') g y u w' := by
  obtain ⟨h1, h2, h3⟩ := h
  have hl : g < w.heap.size := by
    rcases Nat.lt_or_ge g w.heap.size with hl | hl
    · exact hl
    · rw [Array.getElem?_eq_none hl] at h1; cases h1
  refine ⟨(hs.keeps.block g hl h3).trans h1, sv_shift h2 hs.keeps (fun _ _ hk => hk) (fun k hl hk => (hs.fresh k hk).elim id fun h => by omega), fun hk => ?_⟩
  rcases hs.fresh g hk with h | h
  · exact h3 h
  · omega
theorem DX.cells {M : Blocks} {w : World} {g : Nat} {y : DoS} {u : Value} (h : DX M g y u w) :
    w.cell? ⟨g, 0, none⟩ = some (.int .i64 y.kind) ∧ w.cell? ⟨g, 1, none⟩ = some (.int .i64 y.n) ∧ w.cell? ⟨g, 2, none⟩ = some (.int .i64 y.keep) ∧ w.cell? ⟨g, 3, none⟩ = some u := by
  obtain ⟨h1, _⟩ := h
  have hc : ∀ i, w.cell? ⟨g, i, none⟩ = _ := fun i => cell_of_row _ _ i _ _ _ h1
  exact ⟨by rw [hc]; rfl, by rw [hc]; rfl, by rw [hc]; rfl, by rw [hc]; rfl⟩

/-- Both disks and the doing. -/
def LX (w0 : World) (p q g : Nat) (y : DoS) (u : Value) (s sr : Wn.Dsk) (w : World) : Prop := ∃ v, DB w0 p q v s sr w ∧ DX (Both p q v) g y u w
/-- .. and the parts that are put. -/
def LXL (w0 : World) (p q g : Nat) (y : DoS) (u : Value) (s sr : Wn.Dsk) (pv : Value) (ls : List (List UInt8)) (w : World) : Prop := ∃ v, DB w0 p q v s sr w ∧ DX (Both p q v) g y u w ∧ SL (Both p q v) w pv ls
theorem LX.cells {w0 w : World} {p q g : Nat} {y : DoS} {u : Value} {s sr : Wn.Dsk} (h : LX w0 p q g y u s sr w) :
    w.cell? ⟨g, 0, none⟩ = some (.int .i64 y.kind) ∧ w.cell? ⟨g, 1, none⟩ = some (.int .i64 y.n) ∧ w.cell? ⟨g, 2, none⟩ = some (.int .i64 y.keep) ∧ w.cell? ⟨g, 3, none⟩ = some u := by
  obtain ⟨v, _, h⟩ := h; exact h.cells
theorem LXL.lx {w0 w : World} {p q g : Nat} {y : DoS} {u : Value} {s sr : Wn.Dsk} {pv : Value} {ls : List (List UInt8)} (h : LXL w0 p q g y u s sr pv ls w) : LX w0 p q g y u s sr w := by
  obtain ⟨v, h1, h2, _⟩ := h; exact ⟨v, h1, h2⟩
theorem LX.drew {w0 w : World} {p q g : Nat} {y : DoS} {u : Value} {s sr : Wn.Dsk} (h : LX w0 p q g y u s sr w) : LX w0 p q g y u s sr w.drew := by
  obtain ⟨v, h1, h2⟩ := h
  exact ⟨v, h1.keep (Keeps.refl No w).drew, h2⟩
theorem LX.keepNo {w0 w w' : World} {p q g : Nat} {y : DoS} {u : Value} {s sr : Wn.Dsk} (h : LX w0 p q g y u s sr w) (hk : Keeps No w w') : LX w0 p q g y u s sr w' := by
  obtain ⟨v, h1, h2⟩ := h
  exact ⟨v, h1.keep hk, h2.step (w0 := w0) ⟨hk.weak, fun _ hk => .inl hk⟩⟩

theorem LX.new {w0 w : World} {p q : Nat} {v : Value} {y : DoS} {u : Value} {s sr : Wn.Dsk} (h : DB w0 p q v s sr w) (hu : SB (Both p q v) w u y.b) :
    LX w0 p q w.heap.size y u s sr (w.alloc (.cells #[.int .i64 y.kind, .int .i64 y.n, .int .i64 y.keep, u] 63)) := by
  refine ⟨v, h.keep ((Keeps.refl _ _).alloc _), heap_alloc_new w _, SV.alloc hu _, fun hk => ?_⟩
  have := (h.both _ hk).2
  omega
theorem elem24 : Try.prog.underlying 24 = some (.slice (Try.prog.elem 24)) := by
  have he : Try.prog.elem 24 = 5 := by kernel_rfl
  rw [he]; exact Try.underlying24
theorem size24 (w : World) : (sizeOf (Try.prog.elem 24)).run Try.prog w = .ok 1 w := by
  obtain ⟨i0, hi, hz0, hz1, hz2⟩ := info_parts info5
  have he : Try.prog.elem 24 = 5 := by kernel_rfl
  rw [he]
  simp [Go.sizeOf, typeInfo, hi, hz1]
theorem slice_front {a : Option Addr} {n c m : Nat} (hm : m ≤ n) (hnc : n ≤ c) (w : World) :
    (Instr.sliceAt 24 (.slice a n c) none (some (.int .i64 (m : Int))) none).run Try.prog w = .ok (.slice a m c) w := by
  rw [run_sliceAt_slice _ _ _ _ _ _ elem24, run_slice_h w 24 a n c elem24 .i64 (m : Int) (by omega) (by omega)]
  rw [size24]
  simp only [Result.andThen, sliced, Int.toNat_natCast, Nat.sub_zero, Nat.zero_mul]
  congr 2
  split
  · rfl
  · cases a with
    | none => rfl
    | some ad => simp [Addr.add]
def backAddr (a : Option Addr) (c m : Nat) : Option Addr := if c = m then a else a.map (·.add m)
theorem slice_back {a : Option Addr} {n c m : Nat} (hm : m ≤ n) (w : World) :
    (Instr.sliceAt 24 (.slice a n c) (some (.int .i64 (m : Int))) none none).run Try.prog w = .ok (.slice (backAddr a c m) (n - m) (c - m)) w := by
  rw [run_sliceAt_slice _ _ _ _ _ _ elem24, run_slice_l w 24 a n c elem24 .i64 (m : Int) (by omega) (by omega)]
  rw [size24]
  simp only [Result.andThen, sliced, Int.toNat_natCast, Nat.mul_one, backAddr]
theorem backAddr_at {a : Option Addr} {n c m : Nat} (hnc : n ≤ c) : m < n → ∀ b off, a = some ⟨b, off, none⟩ → backAddr a c m = some ⟨b, off + m, none⟩ := by
  intro hm b off ha
  subst ha
  unfold backAddr
  rw [if_neg (by omega)]
  simp only [Option.map_some, add_off']
/-- The two halves of the doing's bytes, as the law spells them. -/
theorem LX.parts {w0 w : World} {p q g : Nat} {y : DoS} {a : Option Addr} {n c : Nat} {s sr : Wn.Dsk} {k gl : Nat} {a' : Option Addr} (h : LX w0 p q g y (.slice a n c) s sr w) (hk : k ≤ n) (hgl : w.heap.size = gl)
    (ha : k < n → ∀ b off, a = some ⟨b, off, none⟩ → a' = some ⟨b, off + k, none⟩) :
    LXL w0 p q g y (.slice a n c) s sr (.slice (some ⟨gl, 0, none⟩) 2 2) [y.b.take k, y.b.drop k] (w.alloc (.cells #[.slice a k c, .slice a' (n - k) (c - k)] 24)) := by
  obtain ⟨v, h1, h2⟩ := h
  have hb := h2.2.1
  have hbo := h1.both
  have hkN : Keeps No w (w.alloc (.cells #[.slice a k c, .slice a' (n - k) (c - k)] 24)) := (Keeps.refl _ _).alloc _
  refine ⟨v, h1.keep hkN, h2.step (w0 := w0) ⟨hkN.weak, fun _ hk => .inl hk⟩, ?_⟩
  have ht := SV.take hb hk
  have hd := SV.drop hb hk ha
  rw [← List.map_take] at ht
  rw [← List.map_drop] at hd
  exact SL.of_all ((SV.newAt w gl _ _ _ 2 2 _ hgl rfl (by omega) (by unfold maxLen; omega) rfl).mono fun k' _ hk' => (hbo k' hk').2) ⟨SV.alloc ht _, SV.alloc hd _, trivial⟩

theorem LXL.drew {w0 w : World} {p q g : Nat} {y : DoS} {u : Value} {s sr : Wn.Dsk} {pv : Value} {ls : List (List UInt8)} (h : LXL w0 p q g y u s sr pv ls w) : LXL w0 p q g y u s sr pv ls w.drew := by
  obtain ⟨v, h1, h2, h3⟩ := h
  exact ⟨v, h1.keep (Keeps.refl No w).drew, h2, h3⟩
theorem alloc_cell {w : World} {a : Addr} {u : Value} {o : Obj} (h : w.cell? a = some u) : (w.alloc o).cell? a = some u :=
  (((Keeps.refl No w).alloc o).cell (cell_lt h) fun hk => hk).trans h
theorem LX.c3 {w0 w : World} {p q g : Nat} {y : DoS} {u : Value} {s sr : Wn.Dsk} (h : LX w0 p q g y u s sr w) : w.cell? ⟨g, 3, none⟩ = some u := h.cells.2.2.2
theorem LXL.c3 {w0 w : World} {p q g : Nat} {y : DoS} {u : Value} {s sr : Wn.Dsk} {pv : Value} {ls : List (List UInt8)} (h : LXL w0 p q g y u s sr pv ls w) : w.cell? ⟨g, 3, none⟩ = some u := h.lx.c3
theorem LX.c1 {w0 w : World} {p q g : Nat} {y : DoS} {u : Value} {s sr : Wn.Dsk} (h : LX w0 p q g y u s sr w) : w.cell? ⟨g, 1, none⟩ = some (.int .i64 y.n) := h.cells.2.1
def QX (w0 : World) (p q g : Nat) (y : DoS) (u : Value) (r : Value) (s sr : Wn.Dsk) (e : Ending) (w' : World) : Prop := e = .returned r ∧ LX w0 p q g y u s sr w'
def QXL (w0 : World) (p q g : Nat) (y : DoS) (u : Value) (r : Value) (s sr : Wn.Dsk) (pv : Value) (ls : List (List UInt8)) (e : Ending) (w' : World) : Prop := e = .returned r ∧ LXL w0 p q g y u s sr pv ls w'

theorem lx_disk {w0 w : World} {p q g : Nat} {y : DoS} {u : Value} {s sr s' : Wn.Dsk} {f : FuncId} {args : Array Value} {r : Value} (h : LX w0 p q g y u s sr w)
    (hc : ∀ v, DiskAt w p v s → Calls Try.prog f args w (PDo p v r s' w)) : Calls Try.prog f args w (QX w0 p q g y u r s' sr) := by
  obtain ⟨v, h1, h2⟩ := h
  refine (hc v h1.1).mono fun e w' ⟨he, hd⟩ => ?_
  obtain ⟨v', g1, g2⟩ := h1.disk hd
  exact ⟨he, v', g1, h2.step g2⟩
theorem lx_ref {w0 w : World} {p q g : Nat} {y : DoS} {u : Value} {s sr sr' : Wn.Dsk} {f : FuncId} {args : Array Value} {r : Value} (h : LX w0 p q g y u s sr w)
    (hc : ∀ M, RDisk w q M sr → (∀ k, M k → k < w.heap.size) → SB M w u y.b → Calls Try.prog f args w (PRef q M r sr' w)) : Calls Try.prog f args w (QX w0 p q g y u r s sr') := by
  obtain ⟨v, h1, h2⟩ := h
  refine (hc _ h1.2.1 (fun k hk => (h1.both k hk).2) h2.2.1).mono fun e w' ⟨he, hd, hk⟩ => ?_
  obtain ⟨g1, g2⟩ := h1.ref hd hk
  exact ⟨he, v, g1, h2.step g2⟩
theorem lxl_ref {w0 w : World} {p q g : Nat} {y : DoS} {u : Value} {s sr sr' : Wn.Dsk} {pv : Value} {ls : List (List UInt8)} {f : FuncId} {args : Array Value} {r : Value} (h : LXL w0 p q g y u s sr pv ls w)
    (hc : ∀ M, RDisk w q M sr → (∀ k, M k → k < w.heap.size) → SB M w u y.b → Calls Try.prog f args w (PRef q M r sr' w)) : Calls Try.prog f args w (QXL w0 p q g y u r s sr' pv ls) := by
  obtain ⟨v, h1, h2, h3⟩ := h
  refine (hc _ h1.2.1 (fun k hk => (h1.both k hk).2) h2.2.1).mono fun e w' ⟨he, hd, hk⟩ => ?_
  obtain ⟨g1, g2⟩ := h1.ref hd hk
  exact ⟨he, v, g1, h2.step g2, sl_shift h3 g2.keeps (fun _ _ hk => hk) (fun _ _ hk => hk)⟩
theorem lxl_put {w0 w : World} {p q g : Nat} {y : DoS} {u : Value} {s sr : Wn.Dsk} {pv : Value} {ls : List (List UInt8)} (h : LXL w0 p q g y u s sr pv ls w) :
    Calls Try.prog 40 #[.pointer (some ⟨p, 0, none⟩), pv] w (QX w0 p q g y u (.int .i64 ((Wn.dPut s ls.flatten).1 : Int)) (Wn.dPut s ls.flatten).2 sr) := by
  obtain ⟨v, h1, h2, h3⟩ := h
  refine (dput_any p v s pv ls w h1.1 (h3.mono fun k _ hk => .inr hk)).mono fun e w' ⟨he, hd⟩ => ?_
  obtain ⟨v', g1, g2⟩ := h1.disk hd
  exact ⟨he, v', g1, h2.step g2⟩

/-- What is asked of both disks behind a doing. -/
theorem ask_down {w : World} {p : Nat} {v : Value} {s : Wn.Dsk} (h : DiskAt w p v s) (n : Nat) :
    Calls Try.prog 37 #[.pointer (some ⟨p, 0, none⟩)] (w.drewN n) fun e w' => e = .returned (.bool s.down) ∧ ∃ m, w' = w.drewN m :=
  Calls.quiet_of_same (quiet_same (ddown_any p v s (w.drewN n) h))
theorem ask_len {w : World} {p : Nat} {v : Value} {s : Wn.Dsk} (h : DiskAt w p v s) (n : Nat) :
    Calls Try.prog 47 #[.pointer (some ⟨p, 0, none⟩)] (w.drewN n) fun e w' => e = .returned (.int .i64 (s.b.length : Int)) ∧ ∃ m, w' = w.drewN m :=
  Calls.quiet_of_same (quiet_same (dlen_any p v s (w.drewN n) h))
theorem ask_pend {w : World} {p : Nat} {v : Value} {s : Wn.Dsk} (h : DiskAt w p v s) (n : Nat) :
    Calls Try.prog 48 #[.pointer (some ⟨p, 0, none⟩)] (w.drewN n) fun e w' => e = .returned (.int .i64 ((s.b.length - s.sure : Nat) : Int)) ∧ ∃ m, w' = w.drewN m :=
  Calls.quiet_of (dpend_any p v s (w.drewN n) h)
theorem ask_eq {w : World} {M M' : Blocks} {a a' : Option Addr} {n c n' c' : Nat} {l : List UInt8} (h : SB M w (.slice a n c) l) (h' : SB M' w (.slice a' n' c') l) (k : Nat) :
    Calls Try.prog 18 #[.slice a n c, .slice a' n' c'] (w.drewN k) fun e w' => e = .returned (.bool true) ∧ ∃ m, w' = w.drewN m := by
  have hb : SB No (w.drewN k) (.slice a n c) l := SV.no (show SB M (w.drewN k) (.slice a n c) l from h)
  have hb' : SB No (w.drewN k) (.slice a' n' c') l := SV.no (show SB M' (w.drewN k) (.slice a' n' c') l from h')
  refine Calls.quiet_of ((bytes_any _ No _ _ l l _ hb hb').mono fun e w' ⟨he, q, hq⟩ => ⟨?_, q, hq⟩)
  rw [he, eqB_self]
end Go.Proofs.Ytkblcdjkabiliaa
