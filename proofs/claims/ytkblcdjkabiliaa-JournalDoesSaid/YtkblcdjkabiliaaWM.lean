/- The disk in memory, and the walks through its small functions. -/
import Derived.Test.YtkblcdjkabiliaaWF
import Derived.Test.YtkblcdjkabiliaaDsk
import Derived.BigQuiet
namespace Go.Proofs.Ytkblcdjkabiliaa
open Go.RowKit Wm

/-- The disk at block p: its cells, and its bytes v in a row of its own. -/
def DiskAt (w : World) (p : Nat) (v : Value) (s : Wn.Dsk) : Prop :=
  ∃ (a : Option Addr) (n c : Nat) (x : Int), v = .slice a n c ∧
    w.heap[p]? = some (.cells #[.slice a n c, .int .i64 (s.size : Int), .int .i64 (s.sure : Int), .bool true, .bool s.down, .bool s.armed, .int .i64 x, .int .i64 s.keep] 71 (0, 0)) ∧
    w.ownsRow 0 5 1 (.slice a n c) n (s.b.map bv) ∧ (s.armed = true → s.down = false → x = (s.ops : Int)) ∧ s.ops ≤ 9223372036854775807 ∧ s.wf

/-- The blocks of a disk. -/
def Foot (p : Nat) (v : Value) : Blocks := fun k => k = p ∨ v.ownBlock = some k

theorem own_ne {w : World} {p g : Nat} {v : Value} {n : Nat} {xs : List Value} {C : Array Value} {e : TypeId} (hh : w.heap[p]? = some (.cells C e (0, 0))) (he : e ≠ 5) (ho : w.ownsRow 0 5 1 v n xs) (hg : v.ownBlock = some g) : g ≠ p := by
  rintro rfl
  rcases ho.2 with ⟨rfl, _⟩ | ⟨g', cap, cur, rfl, _, hh', _⟩
  · cases hg
  · simp [Value.ownBlock] at hg
    subst hg
    rw [hh] at hh'
    injection hh' with h1
    injection h1 with _ h2
    exact he h2

theorem DiskAt.facts {w : World} {p : Nat} {v : Value} {s : Wn.Dsk} (h : DiskAt w p v s) :
    ∃ a n c x, v = .slice a n c ∧ n = s.b.length ∧ n ≤ c ∧ c ≤ maxLen ∧ p < w.heap.size ∧ (∀ i, w.frozen? ⟨p, i, none⟩ = false) ∧
      w.cell? ⟨p, 0, none⟩ = some (.slice a n c) ∧ w.cell? ⟨p, 1, none⟩ = some (.int .i64 (s.size : Int)) ∧ w.cell? ⟨p, 2, none⟩ = some (.int .i64 (s.sure : Int)) ∧ w.cell? ⟨p, 3, none⟩ = some (.bool true) ∧
      w.cell? ⟨p, 4, none⟩ = some (.bool s.down) ∧ w.cell? ⟨p, 5, none⟩ = some (.bool s.armed) ∧ w.cell? ⟨p, 6, none⟩ = some (.int .i64 x) ∧ w.cell? ⟨p, 7, none⟩ = some (.int .i64 s.keep) ∧
      (s.armed = true → s.down = false → x = (s.ops : Int)) ∧ s.ops ≤ 9223372036854775807 ∧ s.sure ≤ s.b.length ∧ s.b.length ≤ s.size ∧ s.size ≤ 1048576 := by
  obtain ⟨a, n, c, x, rfl, hh, ho, hx, hops, hw1, hw2, hw3⟩ := h
  have hc : ∀ i, w.cell? ⟨p, i, none⟩ = _ := fun i => cell_of_row _ _ i _ _ _ hh
  have h0 : w.cell? ⟨p, 0, none⟩ = some (.slice a n c) := by rw [hc]; rfl
  have hl : n = s.b.length := by have := ho.1; simp at this; exact this.symm
  have hsv := SV.of_own (M := No) ho (fun _ _ hk => hk)
  refine ⟨a, n, c, x, rfl, hl, hsv.cap.1, hsv.cap.2, cell_lt h0, fun i => frozen_of_row _ _ _ _ _ hh, h0, by rw [hc]; rfl, by rw [hc]; rfl, by rw [hc]; rfl, by rw [hc]; rfl, by rw [hc]; rfl, by rw [hc]; rfl, by rw [hc]; rfl, hx, hops, hw1, hw2, hw3⟩
theorem DiskAt.own {w : World} {p : Nat} {a : Option Addr} {n c : Nat} {s : Wn.Dsk} (h : DiskAt w p (.slice a n c) s) : w.ownsRow 0 5 1 (.slice a n c) n (s.b.map bv) := by
  obtain ⟨_, _, _, x, e, hh, ho, _⟩ := h
  injection e with e1 e2 e3; subst e1; subst e2; subst e3; exact ho
/-- A step on the disk's own cells: the bytes' row stays. -/
theorem DiskAt.step {w w' : World} {p : Nat} {a : Option Addr} {n c : Nat} {s s' : Wn.Dsk} {x : Int} (h : DiskAt w p (.slice a n c) s) (hk : Keeps (Only p) w w')
    (hh' : ∀ x0, w.heap[p]? = some (.cells #[.slice a n c, .int .i64 (s.size : Int), .int .i64 (s.sure : Int), .bool true, .bool s.down, .bool s.armed, .int .i64 x0, .int .i64 s.keep] 71 (0, 0)) →
      (s.armed = true → s.down = false → x0 = (s.ops : Int)) →
      w'.heap[p]? = some (.cells #[.slice a n c, .int .i64 (s'.size : Int), .int .i64 (s'.sure : Int), .bool true, .bool s'.down, .bool s'.armed, .int .i64 x, .int .i64 s'.keep] 71 (0, 0)))
    (hx : s'.armed = true → s'.down = false → x = (s'.ops : Int)) (hops : s'.ops ≤ 9223372036854775807) (hb : s'.b = s.b) (hwf : s'.wf) : DiskAt w' p (.slice a n c) s' := by
  have ho := h.own
  obtain ⟨_, _, _, x0, e, hh, _, hx0, _⟩ := h
  injection e with e1 e2 e3; subst e1; subst e2; subst e3
  refine ⟨a, n, c, x, rfl, hh' x0 hh hx0, ?_, hx, hops, hwf⟩
  rw [hb]
  exact ownsRow_keep ho hk fun g hg hp => own_ne hh (by decide) ho hg hp
theorem DiskAt.keep {M : Blocks} {w w' : World} {p : Nat} {v : Value} {s : Wn.Dsk} (h : DiskAt w p v s) (hk : Keeps M w w') (hM : ∀ k, Foot p v k → ¬ M k) : DiskAt w' p v s := by
  have hp : p < w.heap.size := h.facts.elim fun _ ⟨_, _, _, _, _, _, _, hp, _⟩ => hp
  obtain ⟨a, n, c, x, rfl, hh, ho, r⟩ := h
  exact ⟨a, n, c, x, rfl, (hk.block p hp (hM p (.inl rfl))).trans hh, ownsRow_keep ho hk fun g hg => hM g (.inr hg), r⟩
theorem DiskAt.lt {w : World} {p : Nat} {v : Value} {s : Wn.Dsk} (h : DiskAt w p v s) : ∀ k, Foot p v k → k < w.heap.size := by
  have hp : p < w.heap.size := h.facts.elim fun _ ⟨_, _, _, _, _, _, _, hp, _⟩ => hp
  obtain ⟨a, n, c, x, rfl, hh, ho, r⟩ := h
  rintro k (rfl | hk)
  · exact hp
  · exact (ho.lt k hk).2

/-- What an operation on a disk leaves: the disk, and all else. -/
def DK (p : Nat) (v : Value) (s' : Wn.Dsk) (w w' : World) : Prop := ∃ v', DiskAt w' p v' s' ∧ Keeps (Foot p v) w w' ∧ ∀ k, Foot p v' k → Foot p v k ∨ w.heap.size ≤ k
theorem DK.same {p : Nat} {v : Value} {s' : Wn.Dsk} {w w' : World} (h : DiskAt w' p v s') (hk : Keeps (Only p) w w') : DK p v s' w w' :=
  ⟨v, h, hk.mono fun _ _ hk => .inl hk, fun _ hk => .inl hk⟩
theorem DK.refl {p : Nat} {v : Value} {s : Wn.Dsk} {w : World} (h : DiskAt w p v s) : DK p v s w w := DK.same h (Keeps.refl _ _)
theorem DK.drewN {p : Nat} {v : Value} {s : Wn.Dsk} {w w' : World} (h : DK p v s w w') (n : Nat) : DK p v s w (w'.drewN n) := by
  obtain ⟨v', h1, h2, h3⟩ := h; exact ⟨v', h1, h2.drewN n, h3⟩
def PDo (p : Nat) (v : Value) (r : Value) (s' : Wn.Dsk) (w : World) (e : Ending) (w' : World) : Prop := e = .returned r ∧ DK p v s' w w'

/-- A new disk. -/
def PDisk (n : Nat) (w : World) (e : Ending) (w' : World) : Prop := ∃ p, e = .returned (.tuple #[.pointer (some ⟨p, 0, none⟩), .int .i64 0]) ∧ w.heap.size = p ∧ DiskAt w' p (.slice none 0 0) (Wn.dNew n) ∧ Keeps No w w'
theorem dnew_any (n : Nat) (w : World) (hn : n ≤ 1048576) : Calls Try.prog 25 #[.int .i64 (n : Int)] w (PDisk n w) := by
  go_enter Try.func25, Try.ntmps25
  go_wp2
  go_ret2
  refine ⟨w.heap.size, rfl, rfl, ?_, (Keeps.refl _ _).alloc _⟩
  exact ⟨none, 0, 0, 0, rfl, heap_alloc_new w _, World.ownsRow_nil _ _ _ _, fun h => by simp [Wn.dNew] at h, by simp [Wn.dNew], Wn.dNew_wf hn⟩
theorem dnew_bad (n : Int) (w : World) (hn : n < 0 ∨ 1048576 < n) : Calls Try.prog 25 #[.int .i64 n] w fun e w' => e = .returned (.tuple #[.pointer none, .int .i64 2]) ∧ w = w' := by
  rcases hn with h | h
  · go_enter Try.func25, Try.ntmps25
    go_wp2
    go_ret2
    exact ⟨rfl, rfl⟩
  · go_enter Try.func25, Try.ntmps25
    go_wp2
    go_ret2
    exact ⟨rfl, rfl⟩

def okN (s : Wn.Dsk) : Int := if s.down = true then 42 else 0
theorem ok_any (p : Nat) (v : Value) (s : Wn.Dsk) (w : World) (h : DiskAt w p v s) :
    Calls Try.prog 59 #[.pointer (some ⟨p, 0, none⟩)] w fun e w' => e = .returned (.int .i64 (okN s)) ∧ w = w' := by
  obtain ⟨a, n, c, x, rfl, hn, hnc, hcm, hp, hf, hc0, hc1, hc2, hc3, hc4, hc5, hc6, hc7, hx, hops, hw1, hw2, hw3⟩ := h.facts
  have Hn := hid hn
  have Hx := hid hx
  clear hn hx hc0 hc1 hc2 hc5 hc6 hc7
  unfold okN
  cases hd : s.down with
  | true =>
    rw [hd] at hc4
    have Hd := hid hd
    clear hd
    go_enter Try.func59, Try.ntmps59
    go_wp2
    go_ret
    exact ⟨rfl, rfl⟩
  | false =>
    rw [hd] at hc4
    have Hd := hid hd
    clear hd
    go_enter Try.func59, Try.ntmps59
    go_wp2
    go_ret
    exact ⟨rfl, rfl⟩

theorem fails_any (p : Nat) (v : Value) (s : Wn.Dsk) (w : World) (h : DiskAt w p v s) (hd : s.down = false) :
    Calls Try.prog 62 #[.pointer (some ⟨p, 0, none⟩)] w (PDo p v (.bool (Wn.dGone s)) (Wn.dOp s) w) := by
  obtain ⟨a, n, c, x, rfl, hn, hnc, hcm, hp, hf, hc0, hc1, hc2, hc3, hc4, hc5, hc6, hc7, hx, hops, hw1, hw2, hw3⟩ := h.facts
  have hwf := Wn.dOp_wf (s := s) ⟨hw1, hw2, hw3⟩
  have Hwf := hid hwf
  have Hn := hid hn
  have hf4 := hf 4
  have hf6 := hf 6
  clear hn hc0 hc1 hc2 hc7 hwf hf
  cases ha : s.armed with
  | false =>
    rw [ha] at hc5
    have Ha := hid ha
    have Hx := hid hx
    clear ha hx
    go_enter Try.func62, Try.ntmps62
    go_wp2
    go_ret
    refine ⟨by unfold Wn.dGone; rw [Ha.out]; rfl, ?_⟩
    unfold Wn.dOp
    rw [if_neg (by rw [Ha.out]; simp)]
    exact DK.refl h
  | true =>
    rw [ha] at hc5
    have hx' := hx ha hd
    subst hx'
    have Ha := hid ha
    have Hd := hid hd
    have H := hid h
    clear ha hx hd h
    generalize ho : s.ops = o at *
    have Ho := hid ho
    clear ho
    by_cases h0 : o = 0
    · subst h0
      go_enter Try.func62, Try.ntmps62
      go_wp2
      go_ret
      have hop : Wn.dOp s = { s with down := true } := by unfold Wn.dOp; rw [if_pos Ha.out, if_pos Ho.out]
      refine ⟨by unfold Wn.dGone; rw [Ha.out, Ho.out]; rfl, ?_⟩
      refine DK.same (H.out.step (x := -1) (((Keeps.refl _ _).only _ _).only _ _) ?_ ?_ ?_ ?_ Hwf.out) (((Keeps.refl _ _).only _ _).only _ _)
      · intro x0 hh _
        rw [heap_setCell_same _ p 6 _ 71 _ (heap_setCell_same w p 4 _ 71 _ hh), hop]; rfl
      · rw [hop]; intro _ h; cases h
      · rw [hop]; show s.ops ≤ _; rw [Ho.out]; omega
      · rw [hop]
    · have hob : (((o : Nat) : Int) == 0) = false := by rw [beq_eq_false_iff_ne]; omega
      have Ho0 := hid h0
      clear h0
      go_enter Try.func62, Try.ntmps62
      go_wp2
      go_ret
      have hop : Wn.dOp s = { s with ops := s.ops - 1 } := by unfold Wn.dOp; rw [if_pos Ha.out, if_neg (by rw [Ho.out]; exact Ho0.out)]
      refine ⟨by unfold Wn.dGone; rw [Ha.out, Ho.out]; simp [Ho0.out], ?_⟩
      refine DK.same (H.out.step (x := (o : Int) - 1) (((Keeps.refl _ _).only _ _).only _ _) ?_ ?_ ?_ ?_ Hwf.out) (((Keeps.refl _ _).only _ _).only _ _)
      · intro x0 hh _
        rw [heap_setCell_same _ p 6 _ 71 _ (heap_setCell_same w p 4 _ 71 _ hh), hop]
        show _ = some (Obj.cells #[_, _, _, _, .bool s.down, _, _, _] _ _)
        rw [Hd.out]; rfl
      · rw [hop]; intro _ _; show (o : Int) - 1 = ((s.ops - 1 : Nat) : Int); have := Ho0.out; rw [Ho.out]; omega
      · rw [hop]; show s.ops - 1 ≤ _; rw [Ho.out]; omega
      · rw [hop]
end Go.Proofs.Ytkblcdjkabiliaa
