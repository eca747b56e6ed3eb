/- Both journals side by side. -/
import Derived.Test.YtkblcdjkabiliaaJI
namespace Go.Proofs.Ytkblcdjkabiliaa
open Go.RowKit Wm

/-- The reference's own blocks. -/
def RB (q m : Nat) (vm : Value) : Blocks := U (Foot m vm) (Only q)
/-- Both journals, made since w0. -/
def WJ (w0 : World) (d : Nat) (v : Value) (p : Nat) (vl : Value) (q m : Nat) (vm : Value) (s : Wn.Dsk) (j : Wn.Jrn) (sr : Wn.Dsk) (jr : Wn.Jrn) (w : World) : Prop :=
  JL w0 (RB q m vm) d v p vl s j w ∧ RS (JB d v p vl) w q m vm sr jr ∧ ∀ k, RB q m vm k → ¬ JB d v p vl k ∧ w0.heap.size ≤ k
/-- All their blocks. -/
def WB (d : Nat) (v : Value) (p : Nat) (vl : Value) (q m : Nat) (vm : Value) : Blocks := U (JB d v p vl) (RB q m vm)
theorem WJ.lt {w0 w : World} {d p q m : Nat} {v vl vm : Value} {s sr : Wn.Dsk} {j jr : Wn.Jrn} (h : WJ w0 d v p vl q m vm s j sr jr w) : ∀ k, WB d v p vl q m vm k → k < w.heap.size ∧ w0.heap.size ≤ k := by
  rintro k (hk | hk)
  · exact ⟨h.1.1.lt k hk, h.1.2.1 k hk⟩
  · exact ⟨h.2.1.lt k hk, (h.2.2 k hk).2⟩
/-- The journal's side turns. -/
theorem WJ.to {w0 w w' : World} {d p p' q m : Nat} {v vl v' vl' vm : Value} {s s' sr : Wn.Dsk} {j j' jr : Wn.Jrn} (h : WJ w0 d v p vl q m vm s j sr jr w)
    (h1 : JS (RB q m vm) w' d v' p' vl' s' j') (h2 : Keeps (JB d v p vl) w w') (h3 : ∀ k, JB d v' p' vl' k → JB d v p vl k ∨ w.heap.size ≤ k) :
    WJ w0 d v' p' vl' q m vm s' j' sr jr w' ∧ St (WB d v p vl q m vm) (WB d v' p' vl' q m vm) w w' := by
  have hlt := h.lt
  obtain ⟨g1, g2, g3⟩ := h
  refine ⟨⟨g1.to h1 h2 h3, g2.keep h2 (fun k hk hj => (g3 k hk).1 hj) (fun _ _ hk => hk) (fun k hl hk => (h3 k hk).elim id fun h => by omega), fun k hk => ⟨fun hj => ?_, (g3 k hk).2⟩⟩, h2.mono fun _ _ hk => .inl hk, fun k hk => ?_⟩
  · rcases h3 k hj with h | h
    · exact (g3 k hk).1 h
    · have := (hlt k (.inr hk)).1; omega
  · rcases hk with hk | hk
    · exact (h3 k hk).imp .inl id
    · exact .inl (.inr hk)
/-- The reference's side turns. -/
theorem WJ.rto {w0 w w' : World} {d p q m m' : Nat} {v vl vm vm' : Value} {s sr sr' : Wn.Dsk} {j jr jr' : Wn.Jrn} (h : WJ w0 d v p vl q m vm s j sr jr w)
    (h1 : RS (JB d v p vl) w' q m' vm' sr' jr') (h2 : Keeps (RB q m vm) w w') (h3 : ∀ k, RB q m' vm' k → RB q m vm k ∨ w.heap.size ≤ k) :
    WJ w0 d v p vl q m' vm' s j sr' jr' w' ∧ St (WB d v p vl q m vm) (WB d v p vl q m' vm') w w' := by
  have hlt := h.lt
  obtain ⟨⟨a1, a2, a3⟩, g2, g3⟩ := h
  refine ⟨⟨⟨a1.keep h2 (fun k hk hr => (g3 k hr).1 hk) (fun _ _ hk => hk) (fun k hl hk => (h3 k hk).elim id fun h => by omega), a2, a3.trans h2 fun k hl hk => by have := (g3 k hk).2; omega⟩, h1, fun k hk => ?_⟩, h2.mono fun _ _ hk => .inr hk, fun k hk => ?_⟩
  · rcases h3 k hk with h | h
    · exact g3 k h
    · refine ⟨fun hj => ?_, Nat.le_trans a3.size h⟩
      have := (hlt k (.inl hj)).1; omega
  · rcases hk with hk | hk
    · exact .inl (.inl hk)
    · exact (h3 k hk).imp .inr id
theorem WJ.keepNo {w0 w w' : World} {d p q m : Nat} {v vl vm : Value} {s sr : Wn.Dsk} {j jr : Wn.Jrn} (h : WJ w0 d v p vl q m vm s j sr jr w) (hk : Keeps No w w') : WJ w0 d v p vl q m vm s j sr jr w' :=
  (h.to (h.1.1.keepNo hk) hk.weak fun _ hk => .inl hk).1

/-- Both, and the doing at hand. -/
def WX (w0 : World) (d p q m : Nat) (g : Nat) (y : DoS) (u : Value) (s : Wn.Dsk) (j : Wn.Jrn) (sr : Wn.Dsk) (jr : Wn.Jrn) (w : World) : Prop :=
  ∃ v vl vm, WJ w0 d v p vl q m vm s j sr jr w ∧ DX8 (WB d v p vl q m vm) g y u w
theorem WX.cells {w0 w : World} {d p q m g : Nat} {y : DoS} {u : Value} {s sr : Wn.Dsk} {j jr : Wn.Jrn} (h : WX w0 d p q m g y u s j sr jr w) :
    w.cell? ⟨g, 0, none⟩ = some (.int .i64 y.kind) ∧ w.cell? ⟨g, 1, none⟩ = some (.int .i64 y.n) ∧ w.cell? ⟨g, 2, none⟩ = some (.int .i64 y.keep) ∧ w.cell? ⟨g, 3, none⟩ = some u := by
  obtain ⟨v, vl, vm, _, h⟩ := h; exact h.cells
theorem WX.keepNo {w0 w w' : World} {d p q m g : Nat} {y : DoS} {u : Value} {s sr : Wn.Dsk} {j jr : Wn.Jrn} (h : WX w0 d p q m g y u s j sr jr w) (hk : Keeps No w w') : WX w0 d p q m g y u s j sr jr w' := by
  obtain ⟨v, vl, vm, h1, h2⟩ := h
  exact ⟨v, vl, vm, h1.keepNo hk, h2.step (St.no hk)⟩
theorem WX.drew {w0 w : World} {d p q m g : Nat} {y : DoS} {u : Value} {s sr : Wn.Dsk} {j jr : Wn.Jrn} (h : WX w0 d p q m g y u s j sr jr w) : WX w0 d p q m g y u s j sr jr w.drew := h.keepNo (Keeps.refl No w).drew
theorem WX.mptr {w0 w : World} {d p q m g : Nat} {y : DoS} {u : Value} {s sr : Wn.Dsk} {j jr : Wn.Jrn} (h : WX w0 d p q m g y u s j sr jr w) : w.cell? ⟨m, 0, none⟩ = some (.pointer (some ⟨q, 0, none⟩)) := by
  obtain ⟨v, vl, vm, ⟨_, ⟨_, h1⟩, _⟩, _⟩ := h
  obtain ⟨a, n, c, us, _, _, _, _, _, _, hc0, _⟩ := h1.facts
  exact hc0
def QW (w0 : World) (d p q m : Nat) (g : Nat) (y : DoS) (u : Value) (r : Value) (s : Wn.Dsk) (j : Wn.Jrn) (sr : Wn.Dsk) (jr : Wn.Jrn) (e : Ending) (w' : World) : Prop := e = .returned r ∧ WX w0 d p q m g y u s j sr jr w'
/-- The disk turns alone. -/
theorem wx_disk {w0 w : World} {d p q m g : Nat} {y : DoS} {u : Value} {s s' sr : Wn.Dsk} {j jr : Wn.Jrn} {f : FuncId} {args : Array Value} {r : Value} (h : WX w0 d p q m g y u s j sr jr w)
    (hc : ∀ v, DiskAt w d v s → Calls Try.prog f args w (PDo d v r s' w)) : Calls Try.prog f args w (QW w0 d p q m g y u r s' j sr jr) := by
  obtain ⟨v, vl, vm, h1, h2⟩ := h
  refine (hc v h1.1.1.1).mono fun e w' ⟨he, hd⟩ => ?_
  obtain ⟨v', g1, g2, g3⟩ := h1.1.1.disk hd
  obtain ⟨k1, k2⟩ := h1.to g1 (g2.mono fun _ _ hk => .inl hk) g3
  exact ⟨he, v', vl, vm, k1, h2.step k2⟩
theorem wx_rdisk {w0 w : World} {d p q m g : Nat} {y : DoS} {u : Value} {s sr sr' : Wn.Dsk} {j jr : Wn.Jrn} {f : FuncId} {args : Array Value} {r : Value} (h : WX w0 d p q m g y u s j sr jr w)
    (hc : ∀ M, RDisk w q M sr → Calls Try.prog f args w (PRef q M r sr' w)) : Calls Try.prog f args w (QW w0 d p q m g y u r s j sr' jr) := by
  obtain ⟨v, vl, vm, h1, h2⟩ := h
  refine (hc _ h1.2.1.1).mono fun e w' ⟨he, hd, hk⟩ => ?_
  obtain ⟨k1, k2⟩ := h1.rto (h1.2.1.disk hd hk) (hk.mono fun _ _ hk => .inr hk) (fun _ hk => .inl hk)
  exact ⟨he, v, vl, vm, k1, h2.step k2⟩
/-- The doing's bytes added to the journal. -/
theorem wx_add {w0 w : World} {d p q m g : Nat} {y : DoS} {u : Value} {s sr : Wn.Dsk} {j jr : Wn.Jrn} (h : WX w0 d p q m g y u s j sr jr w) (gl : Nat) (hgl : w.heap.size = gl) (hy : y.b.length ≤ 32768) (hj : j.l.length ≤ 1048576) :
    Calls Try.prog 28 #[.pointer (some ⟨p, 0, none⟩), .slice (some ⟨gl, 0, none⟩) 1 1] (w.alloc (.cells #[u] 24)) (QW w0 d p q m g y u (.int .i64 ((Wn.jAdd j s y.b).1 : Int)) (Wn.jAdd j s y.b).2.2 (Wn.jAdd j s y.b).2.1 sr jr) := by
  obtain ⟨v, vl, vm, h1, h2⟩ := h
  have hM := h1.lt
  have hka : Keeps No w (w.alloc (.cells #[u] 24)) := (Keeps.refl _ _).alloc _
  have h1a := h1.keepNo hka
  have h2a := h2.step (St.no hka)
  have hsl := one_part (M := JB d v p vl) (fun k hk => (hM k (.inl hk)).1) (SV.mono h2.2.1 fun k _ hk => .inl hk) gl hgl
  have hfl : ([y.b] : List (List UInt8)).flatten = y.b := by simp
  have hadd := jadd_any (RB q m vm) d v p vl s j _ [y.b] _ h1a.1.1 hsl (by rw [hfl]; exact hy) (fun k hk => (h1a.lt k (.inr hk)).1) hj
  rw [hfl] at hadd
  refine hadd.mono fun e w' ⟨he, v', vl', g1, g2, g3⟩ => ?_
  obtain ⟨k1, k2⟩ := h1a.to g1 g2 g3
  exact ⟨he, v', vl', vm, k1, h2a.step k2⟩
/-- .. and to the reference's. -/
theorem wx_radd {w0 w : World} {d p q m g : Nat} {y : DoS} {u : Value} {s sr : Wn.Dsk} {j jr : Wn.Jrn} (h : WX w0 d p q m g y u s j sr jr w) (hy : y.b.length ≤ 32768) (hj : jr.l.length ≤ 1048576) :
    Calls Try.prog 29 #[.pointer (some ⟨m, 0, none⟩), u] w (QW w0 d p q m g y u (.int .i64 ((Wn.jAdd jr sr y.b).1 : Int)) s j (Wn.jAdd jr sr y.b).2.2 (Wn.jAdd jr sr y.b).2.1) := by
  obtain ⟨v, vl, vm, h1, h2⟩ := h
  have hM := h1.lt
  have hmv : ∀ k, RM q m vm (JB d v p vl) k → WB d v p vl q m vm k := by
    rintro k (hk | hk | hk)
    · exact .inr (.inl hk)
    · exact .inr (.inr hk)
    · exact .inl hk
  have hadd := radd_any (JB d v p vl) q m vm sr jr u y.b w h1.2.1 (SV.mono h2.2.1 fun k _ hk => hmv k hk) hy (fun k hk => (hM k (.inl hk)).1) hj
  refine hadd.mono fun e w' ⟨he, vm', g1, g2, g3⟩ => ?_
  obtain ⟨k1, k2⟩ := h1.rto g1 g2 (fun k hk => hk.elim (fun hk => (g3 k hk).imp .inl id) fun hk => .inl (.inr hk))
  exact ⟨he, v, vl, vm', k1, h2.step k2⟩
/-- The journal opened anew. -/
theorem wx_open {w0 w : World} {d p q m g : Nat} {y : DoS} {u : Value} {s sr : Wn.Dsk} {j jr : Wn.Jrn} (h : WX w0 d p q m g y u s j sr jr w) (hd : s.down = false) :
    Calls Try.prog 26 #[.pointer (some ⟨d, 0, none⟩)] w fun e w' => ∃ p', QW w0 d p' q m g y u (.tuple #[.pointer (some ⟨p', 0, none⟩), .int .i64 0]) (Wn.jOpen s).2 (Wn.jOpen s).1 sr jr e w' := by
  obtain ⟨v, vl, vm, h1, h2⟩ := h
  refine (jopen_any (RB q m vm) d v s w h1.1.1.1 hd (fun k hk => (h1.lt k (.inr hk)).1)).mono fun e w' ⟨p', he, v', vl', g1, g2, g3⟩ => ?_
  obtain ⟨k1, k2⟩ := h1.to g1 (g2.mono fun _ _ hk => .inl hk) (fun k hk => (g3 k hk).imp .inl id)
  exact ⟨p', he, v', vl', vm, k1, h2.step k2⟩
theorem wx_ropen {w0 w : World} {d p q m g : Nat} {y : DoS} {u : Value} {s sr : Wn.Dsk} {j jr : Wn.Jrn} (h : WX w0 d p q m g y u s j sr jr w) :
    Calls Try.prog 27 #[.pointer (some ⟨q, 0, none⟩)] w fun e w' => ∃ m', QW w0 d p q m' g y u (.pointer (some ⟨m', 0, none⟩)) s j (Wn.jOpen sr).2 (Wn.jOpen sr).1 e w' := by
  obtain ⟨v, vl, vm, h1, h2⟩ := h
  have hr : RDisk w q (U (Only q) (JB d v p vl)) sr := h1.2.1.1.keep (Keeps.refl No w) (fun hk => hk) (fun _ _ hk => hk.elim) (fun k _ hk => .inr hk) (.inl rfl)
  refine (ropen_any' (JB d v p vl) q sr w hr).mono fun e w' ⟨m', he, vm', g1, g2, g3⟩ => ?_
  obtain ⟨k1, k2⟩ := h1.rto g1 (g2.mono fun _ _ hk => .inr hk) (fun k hk => hk.elim (fun hk => .inr (g3 k hk)) fun hk => .inl (.inr hk))
  exact ⟨m', he, v, vl, vm', k1, h2.step k2⟩

/-- .. and the parts of a call. -/
def WXL (w0 : World) (d p q m : Nat) (g : Nat) (y : DoS) (u : Value) (s : Wn.Dsk) (j : Wn.Jrn) (sr : Wn.Dsk) (jr : Wn.Jrn) (pv : Value) (w : World) : Prop :=
  ∃ v vl vm, WJ w0 d v p vl q m vm s j sr jr w ∧ DX8 (WB d v p vl q m vm) g y u w ∧ SL (WB d v p vl q m vm) w pv [y.b]
theorem WXL.wx {w0 w : World} {d p q m g : Nat} {y : DoS} {u pv : Value} {s sr : Wn.Dsk} {j jr : Wn.Jrn} (h : WXL w0 d p q m g y u s j sr jr pv w) : WX w0 d p q m g y u s j sr jr w := by
  obtain ⟨v, vl, vm, h1, h2, _⟩ := h; exact ⟨v, vl, vm, h1, h2⟩
theorem WXL.drew {w0 w : World} {d p q m g : Nat} {y : DoS} {u pv : Value} {s sr : Wn.Dsk} {j jr : Wn.Jrn} (h : WXL w0 d p q m g y u s j sr jr pv w) : WXL w0 d p q m g y u s j sr jr pv w.drew := by
  obtain ⟨v, vl, vm, h1, h2, h3⟩ := h
  have hk := (Keeps.refl No w).drew
  exact ⟨v, vl, vm, h1.keepNo hk, h2.step (St.no hk), (St.no hk).sl h3⟩
theorem WX.part {w0 w : World} {d p q m g : Nat} {y : DoS} {u : Value} {s sr : Wn.Dsk} {j jr : Wn.Jrn} (h : WX w0 d p q m g y u s j sr jr w) : WXL w0 d p q m g y u s j sr jr (.slice (some ⟨w.heap.size, 0, none⟩) 1 1) (w.alloc (.cells #[u] 24)) := by
  obtain ⟨v, vl, vm, h1, h2⟩ := h
  have hka : Keeps No w (w.alloc (.cells #[u] 24)) := (Keeps.refl _ _).alloc _
  exact ⟨v, vl, vm, h1.keepNo hka, h2.step (St.no hka), one_part (fun k hk => (h1.lt k hk).1) h2.2.1 _ rfl⟩
theorem wxl_add {w0 w : World} {d p q m g : Nat} {y : DoS} {u pv : Value} {s sr : Wn.Dsk} {j jr : Wn.Jrn} (h : WXL w0 d p q m g y u s j sr jr pv w) (hy : y.b.length ≤ 32768) (hj : j.l.length ≤ 1048576) :
    Calls Try.prog 28 #[.pointer (some ⟨p, 0, none⟩), pv] w (QW w0 d p q m g y u (.int .i64 ((Wn.jAdd j s y.b).1 : Int)) (Wn.jAdd j s y.b).2.2 (Wn.jAdd j s y.b).2.1 sr jr) := by
  obtain ⟨v, vl, vm, h1, h2, h3⟩ := h
  have hfl : ([y.b] : List (List UInt8)).flatten = y.b := by simp
  have hadd := jadd_any (RB q m vm) d v p vl s j pv [y.b] w h1.1.1 (h3.mono fun k _ hk => .inl hk) (by rw [hfl]; exact hy) (fun k hk => (h1.lt k (.inr hk)).1) hj
  rw [hfl] at hadd
  refine hadd.mono fun e w' ⟨he, v', vl', g1, g2, g3⟩ => ?_
  obtain ⟨k1, k2⟩ := h1.to g1 g2 g3
  exact ⟨he, v', vl', vm, k1, h2.step k2⟩
def QWL (w0 : World) (d p q m : Nat) (g : Nat) (y : DoS) (u : Value) (r : Value) (s : Wn.Dsk) (j : Wn.Jrn) (sr : Wn.Dsk) (jr : Wn.Jrn) (pv : Value) (e : Ending) (w' : World) : Prop := e = .returned r ∧ WXL w0 d p q m g y u s j sr jr pv w'
theorem wxl_radd {w0 w : World} {d p q m g : Nat} {y : DoS} {u pv : Value} {s sr : Wn.Dsk} {j jr : Wn.Jrn} (h : WXL w0 d p q m g y u s j sr jr pv w) (hy : y.b.length ≤ 32768) (hj : jr.l.length ≤ 1048576) :
    Calls Try.prog 29 #[.pointer (some ⟨m, 0, none⟩), u] w (QWL w0 d p q m g y u (.int .i64 ((Wn.jAdd jr sr y.b).1 : Int)) s j (Wn.jAdd jr sr y.b).2.2 (Wn.jAdd jr sr y.b).2.1 pv) := by
  obtain ⟨v, vl, vm, h1, h2, h3⟩ := h
  have hM := h1.lt
  have hmv : ∀ k, RM q m vm (JB d v p vl) k → WB d v p vl q m vm k := by
    rintro k (hk | hk | hk)
    · exact .inr (.inl hk)
    · exact .inr (.inr hk)
    · exact .inl hk
  have hadd := radd_any (JB d v p vl) q m vm sr jr u y.b w h1.2.1 (SV.mono h2.2.1 fun k _ hk => hmv k hk) hy (fun k hk => (hM k (.inl hk)).1) hj
  refine hadd.mono fun e w' ⟨he, vm', g1, g2, g3⟩ => ?_
  obtain ⟨k1, k2⟩ := h1.rto g1 g2 (fun k hk => hk.elim (fun hk => (g3 k hk).imp .inl id) fun hk => .inl (.inr hk))
  exact ⟨he, v, vl, vm', k1, h2.step k2, k2.sl h3⟩
theorem WXL.c3 {w0 w : World} {d p q m g : Nat} {y : DoS} {u pv : Value} {s sr : Wn.Dsk} {j jr : Wn.Jrn} (h : WXL w0 d p q m g y u s j sr jr pv w) : w.cell? ⟨g, 3, none⟩ = some u := h.wx.cells.2.2.2
theorem WX.c3 {w0 w : World} {d p q m g : Nat} {y : DoS} {u : Value} {s sr : Wn.Dsk} {j jr : Wn.Jrn} (h : WX w0 d p q m g y u s j sr jr w) : w.cell? ⟨g, 3, none⟩ = some u := h.cells.2.2.2

/-- What is held of the records, so that they can be read. -/
def Bd (k : Nat) (j : Wn.Jrn) : Prop := Wn.Sm j.l ∧ j.l.length ≤ 500000 + k
theorem Bd.more {k : Nat} {j : Wn.Jrn} (h : Bd k j) : Bd (k + 1) j := ⟨h.1, by have := h.2; omega⟩
theorem Bd.add {k : Nat} {j : Wn.Jrn} {s : Wn.Dsk} {x : List UInt8} (h : Bd k j) (hx : x.length ≤ 32768) : Bd (k + 1) (Wn.jAdd j s x).2.1 := by
  unfold Wn.jAdd
  split
  · exact h.more
  · split
    · refine ⟨h.1.snoc hx, ?_⟩
      have := h.2
      simp only [List.length_append, List.length_singleton]; omega
    · exact h.more
theorem jRead_sm (f : Nat) : ∀ b : List UInt8, b.length ≤ f → Wn.Sm (Wn.jRead b).1 := by
  induction f with
  | zero =>
    intro b h
    obtain rfl : b = [] := List.eq_nil_of_length_eq_zero (by omega)
    rw [Wn.jRead_nil]; intro x hx; simp at hx
  | succ f ih =>
    intro b h
    by_cases he : (Wn.rdFrame b).2.2 = 0
    · have hf := Wn.rdFrame_ok he
      have hi := ih (b.drop (Wn.rdFrame b).2.1) (by rw [List.length_drop]; omega)
      rw [Wn.jRead_step he]
      intro x hx
      simp only [List.mem_cons] at hx
      rcases hx with rfl | hx
      · exact hf.2.2
      · exact hi x hx
    · rw [Wn.jRead_stop he]; intro x hx; simp at hx
theorem Bd.open_ {s : Wn.Dsk} (k : Nat) (hw : s.wf) : Bd k (Wn.jOpen s).1 := by
  refine ⟨jRead_sm _ _ (Nat.le_refl _), ?_⟩
  have := Wn.jRead_le _ s.b (Nat.le_refl _)
  unfold Wn.Dsk.wf at hw
  show (Wn.jRead s.b).1.length ≤ _
  omega
end Go.Proofs.Ytkblcdjkabiliaa
