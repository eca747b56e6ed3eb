/- The walks through the disk's Cut, Bytes, Len, Pending, Arm, Down. -/
import Derived.Test.YtkblcdjkabiliaaWN
namespace Go.Proofs.Ytkblcdjkabiliaa
open Go.RowKit Wm

theorem DiskAt.wf {w : World} {p : Nat} {v : Value} {s : Wn.Dsk} (h : DiskAt w p v s) : s.wf := by
  obtain ⟨_, _, _, _, _, _, _, _, _, hw⟩ := h; exact hw

/-- The disk's bytes as a slice that reads. -/
theorem DiskAt.sb {w : World} {p : Nat} {v : Value} {s : Wn.Dsk} (h : DiskAt w p v s) : SB No w v s.b := by
  obtain ⟨a, n, c, x, rfl, hh, ho, _⟩ := h
  exact SV.of_own ho fun _ _ hk => hk

theorem okN_up {s : Wn.Dsk} (h : s.down = false) : okN s = 0 := by unfold okN; rw [if_neg (by rw [h]; simp)]
theorem okN_down {s : Wn.Dsk} (h : s.down = true) : okN s = 42 := by unfold okN; rw [if_pos h]

theorem dcut_bad (p : Nat) (v : Value) (s : Wn.Dsk) (n0 : Int) (w : World) (h : DiskAt w p v s) (hbad : s.down = true ∨ n0 < 0 ∨ (s.b.length : Int) < n0) :
    Calls Try.prog 44 #[.pointer (some ⟨p, 0, none⟩), .int .i64 n0] w (PDo p v (.int .i64 ((Wn.dCut s n0).1 : Int)) (Wn.dCut s n0).2 w) := by
  have hok := ok_any p v s w h
  cases hd : s.down with
  | true =>
    have hf : Wn.dCut s n0 = (42, s) := by unfold Wn.dCut; rw [if_pos hd]
    rw [okN_down hd] at hok
    rw [hf]
    have Hok := hid hok
    have H := hid h
    clear hok h hd hf hbad
    go_enter Try.func44, Try.ntmps44
    go_wp2_with fail
    refine Hok.out.mono ?_
    rintro e w1 ⟨rfl, rfl⟩
    go_wp2_with fail
    go_ret
    exact ⟨rfl, DK.refl H.out⟩
  | false =>
    have hbad2 : n0 < 0 ∨ (s.b.length : Int) < n0 := by rcases hbad with h | h; rw [hd] at h; cases h; exact h
    have hf : Wn.dCut s n0 = (2, s) := by unfold Wn.dCut; rw [if_neg (by rw [hd]; simp), if_pos hbad2]
    rw [okN_up hd] at hok
    rw [hf]
    obtain ⟨a, n, c, x, rfl, hn, hnc, hcm, hp, hf, hc0, hc1, hc2, hc3, hc4, hc5, hc6, hc7, hx, hops, hw1, hw2, hw3⟩ := h.facts
    unfold maxLen at hcm
    rw [← hn] at hbad2
    have Hok := hid hok
    have H := hid h
    clear hok h hd hf hbad hn hx hw1 hw2 hw3 hc1 hc2 hc3 hc4 hc5 hc6 hc7
    rcases hbad2 with hb | hb
    · go_enter Try.func44, Try.ntmps44
      go_wp2_with fail
      refine Hok.out.mono ?_
      rintro e w1 ⟨rfl, rfl⟩
      go_wp2_with fail
      go_ret
      exact ⟨rfl, DK.refl H.out⟩
    · go_enter Try.func44, Try.ntmps44
      go_wp2_with fail
      refine Hok.out.mono ?_
      rintro e w1 ⟨rfl, rfl⟩
      go_wp2_with fail
      go_ret
      exact ⟨rfl, DK.refl H.out⟩

/-- The disk behind Cut and Up: a new row, and cells set. -/
theorem dk_new {p : Nat} {v : Value} {s s' : Wn.Dsk} {w w1 w2 : World} {a : Option Addr} {n c : Nat} {a0 : Option Addr} {n0 c0 : Nat} (hv : v = .slice a0 n0 c0) (h : DiskAt w p v s)
    (hk : Keeps No w w1) (ho : w1.ownsRow w.heap.size 5 1 (.slice a n c) n (s'.b.map bv)) (hk2 : Keeps (Only p) w1 w2)
    (hh2 : ∀ x0, (s.armed = true → s.down = false → x0 = (s.ops : Int)) → w1.heap[p]? = some (.cells #[.slice a0 n0 c0, .int .i64 (s.size : Int), .int .i64 (s.sure : Int), .bool true, .bool s.down, .bool s.armed, .int .i64 x0, .int .i64 s.keep] 71 (0, 0)) →
      ∃ x, w2.heap[p]? = some (.cells #[.slice a n c, .int .i64 (s'.size : Int), .int .i64 (s'.sure : Int), .bool true, .bool s'.down, .bool s'.armed, .int .i64 x, .int .i64 s'.keep] 71 (0, 0)) ∧ (s'.armed = true → s'.down = false → x = (s'.ops : Int)))
    (hops : s'.ops ≤ 9223372036854775807) (hwf : s'.wf) : DK p v s' w w2 := by
  have hp : p < w.heap.size := h.lt p (.inl rfl)
  subst hv
  obtain ⟨_, _, _, x0, e, hh, _, hx0, _⟩ := h
  injection e with e1 e2 e3; subst e1; subst e2; subst e3
  have hh1 := (hk.block p hp (fun hk => hk)).trans hh
  obtain ⟨x, hh3, hx3⟩ := hh2 x0 hx0 hh1
  have hne : ∀ g, (Value.slice a n c).ownBlock = some g → ¬ Only p g := fun g hg e => by
    have := (ho.lt g hg).1; unfold Only at e; omega
  refine ⟨_, ⟨a, n, c, x, rfl, hh3, ownsRow_base (ownsRow_keep ho hk2 hne) (fun g _ => Nat.zero_le _), hx3, hops, hwf⟩, ?_, ?_⟩
  · exact hk.weak.trans hk2 fun k _ hk => .inl hk
  · rintro k (rfl | hg)
    · exact .inl (.inl rfl)
    · exact .inr (ho.lt k hg).1

set_option maxRecDepth 20000 in
set_option maxHeartbeats 1000000 in
theorem dcut_ok (p : Nat) (v : Value) (s : Wn.Dsk) (k0 : Nat) (w : World) (h : DiskAt w p v s) (hd : s.down = false) (hk0 : k0 ≤ s.b.length) :
    Calls Try.prog 44 #[.pointer (some ⟨p, 0, none⟩), .int .i64 (k0 : Int)] w (PDo p v (.int .i64 ((Wn.dCut s (k0 : Int)).1 : Int)) (Wn.dCut s (k0 : Int)).2 w) := by
  have hok := ok_any p v s w h
  have hf : Wn.dCut s (k0 : Int) = (0, { s with b := s.b.take k0, sure := k0 }) := by
    unfold Wn.dCut; rw [if_neg (by rw [hd]; simp), if_neg (by omega), Int.toNat_natCast]
  have hwf := Wn.dCut_wf h.wf (k0 : Int)
  rw [okN_up hd] at hok
  rw [hf] at hwf
  rw [hf]
  obtain ⟨a, n, c, x, rfl, hn, hnc, hcm, hp, hf, hc0, hc1, hc2, hc3, hc4, hc5, hc6, hc7, hx, hops, hw1, hw2, hw3⟩ := h.facts
  have hf0 := hf 0
  have hf2 := hf 2
  have hsb : SB No w (.slice a k0 c) (s.b.take k0) := by have := SV.take h.sb (k := k0) (by omega); rw [← List.map_take] at this; exact this
  unfold maxLen at hcm
  have hkn : k0 ≤ n := by omega
  have hsz : (s.b.take k0).length ≤ 16777216 := by rw [List.length_take]; omega
  have Hok := hid hok
  have Hwf := hid hwf
  have H := hid h
  have Hd := hid hd
  clear hok h hd hf hn hx hw1 hw2 hw3 hc1 hc3 hc4 hc5 hc6 hc7 hwf
  go_enter Try.func44, Try.ntmps44
  go_wp2_with fail
  refine Hok.out.mono ?_
  rintro e w1 ⟨rfl, rfl⟩
  go_wp2_with fail
  refine (clone_any No _ _ _ hsb hsz).mono ?_
  rintro e w1 ⟨a1, r1, c1, rfl, hown1, hk1⟩
  have hf0' := (hk1.frozen (p := ⟨p, 0, none⟩) hp (fun hk => hk)).trans hf0
  have hf2' := (hk1.frozen (p := ⟨p, 2, none⟩) hp (fun hk => hk)).trans hf2
  have hc0' := (hk1.cell (p := ⟨p, 0, none⟩) hp (fun hk => hk)).trans hc0
  have hc2' := (hk1.cell (p := ⟨p, 2, none⟩) hp (fun hk => hk)).trans hc2
  go_wp2_with fail
  go_ret
  refine ⟨rfl, ?_⟩
  refine dk_new rfl H.out hk1 hown1 (((Keeps.refl _ _).only _ _).only _ _) ?_ hops Hwf.out
  intro x0 hx0 hh
  refine ⟨x0, ?_, hx0⟩
  rw [heap_setCell_same _ p 2 _ 71 _ (heap_setCell_same w1 p 0 _ 71 _ hh)]; rfl

theorem dcut_any (p : Nat) (v : Value) (s : Wn.Dsk) (n0 : Int) (w : World) (h : DiskAt w p v s) :
    Calls Try.prog 44 #[.pointer (some ⟨p, 0, none⟩), .int .i64 n0] w (PDo p v (.int .i64 ((Wn.dCut s n0).1 : Int)) (Wn.dCut s n0).2 w) := by
  by_cases hbad : s.down = true ∨ n0 < 0 ∨ (s.b.length : Int) < n0
  · exact dcut_bad p v s n0 w h hbad
  · have h1 : s.down = false := by cases hd : s.down with
      | true => exact absurd (.inl hd) hbad
      | false => rfl
    obtain ⟨k0, rfl⟩ := Int.eq_ofNat_of_zero_le (a := n0) (by omega)
    exact dcut_ok p v s k0 w h h1 (by omega)

/-- What Bytes gives. -/
def PBytes (s : Wn.Dsk) (w : World) (e : Ending) (w' : World) : Prop :=
  (s.down = true ∧ e = .returned (.tuple #[.slice none 0 0, .int .i64 42]) ∧ w = w') ∨
  (s.down = false ∧ ∃ a r c, e = .returned (.tuple #[.slice a r c, .int .i64 0]) ∧ w'.ownsRow w.heap.size 5 1 (.slice a r c) r (s.b.map bv) ∧ Keeps No w w')
theorem dbytes_any (p : Nat) (v : Value) (s : Wn.Dsk) (w : World) (h : DiskAt w p v s) :
    Calls Try.prog 46 #[.pointer (some ⟨p, 0, none⟩)] w (PBytes s w) := by
  have hok := ok_any p v s w h
  cases hd : s.down with
  | true =>
    rw [okN_down hd] at hok
    have Hok := hid hok
    have Hd := hid hd
    clear hok hd
    go_enter Try.func46, Try.ntmps46
    go_wp2_with fail
    refine Hok.out.mono ?_
    rintro e w1 ⟨rfl, rfl⟩
    go_wp2_with fail
    go_ret2
    exact .inl ⟨Hd.out, rfl, rfl⟩
  | false =>
    rw [okN_up hd] at hok
    obtain ⟨a, n, c, x, rfl, hn, hnc, hcm, hp, hf, hc0, hc1, hc2, hc3, hc4, hc5, hc6, hc7, hx, hops, hw1, hw2, hw3⟩ := h.facts
    have hsb := h.sb
    have Hok := hid hok
    have Hd := hid hd
    have hsz : s.b.length ≤ 16777216 := by omega
    clear hok hd hf hn hx hw1 hw2 hw3 hc1 hc3 hc4 hc5 hc6 hc7 h
    go_enter Try.func46, Try.ntmps46
    go_wp2_with fail
    refine Hok.out.mono ?_
    rintro e w1 ⟨rfl, rfl⟩
    go_wp2_with fail
    refine (clone_any No _ _ _ hsb hsz).mono ?_
    rintro e w1 ⟨a1, r1, c1, rfl, hown1, hk1⟩
    go_wp2_with fail
    go_ret2
    exact .inr ⟨Hd.out, _, _, _, rfl, hown1, hk1⟩

theorem dlen_any (p : Nat) (v : Value) (s : Wn.Dsk) (w : World) (h : DiskAt w p v s) :
    Calls Try.prog 47 #[.pointer (some ⟨p, 0, none⟩)] w fun e w' => e = .returned (.int .i64 (s.b.length : Int)) ∧ w = w' := by
  obtain ⟨a, n, c, x, rfl, hn, hnc, hcm, hp, hf, hc0, hc1, hc2, hc3, hc4, hc5, hc6, hc7, hx, hops, hw1, hw2, hw3⟩ := h.facts
  unfold maxLen at hcm
  have Hn := hid hn
  clear hn hx hf hc1 hc3 hc4 hc5 hc6 hc7 hw1 hw2 hw3
  go_enter Try.func47, Try.ntmps47
  go_wp2
  go_ret
  exact ⟨ret_int (by have := Hn.out; omega), rfl⟩

theorem dpend_any (p : Nat) (v : Value) (s : Wn.Dsk) (w : World) (h : DiskAt w p v s) :
    Calls Try.prog 48 #[.pointer (some ⟨p, 0, none⟩)] w fun e w' => e = .returned (.int .i64 ((s.b.length - s.sure : Nat) : Int)) ∧ ∃ k, w' = w.drewN k := by
  obtain ⟨a, n, c, x, rfl, hn, hnc, hcm, hp, hf, hc0, hc1, hc2, hc3, hc4, hc5, hc6, hc7, hx, hops, hw1, hw2, hw3⟩ := h.facts
  unfold maxLen at hcm
  have Hn := hid hn
  have hs : s.sure ≤ n := by omega
  clear hx hf hc1 hc3 hc4 hc5 hc6 hc7 hw1 hw2 hw3 hn
  generalize hsu : s.sure = u at *
  have Hsu := hid hsu
  clear hsu
  go_enter Try.func48, Try.ntmps48
  go_wp2_with fail
  go_quiet (fail)
  go_wp2
  go_ret
  exact ⟨ret_int (by have := Hn.out; omega), _, rfl⟩

theorem ddown_any (p : Nat) (v : Value) (s : Wn.Dsk) (w : World) (h : DiskAt w p v s) :
    Calls Try.prog 37 #[.pointer (some ⟨p, 0, none⟩)] w fun e w' => e = .returned (.bool s.down) ∧ w = w' := by
  have hok := ok_any p v s w h
  cases hd : s.down with
  | true =>
    rw [okN_down hd] at hok
    have Hok := hid hok
    clear hok hd h
    go_enter Try.func37, Try.ntmps37
    go_wp2_with fail
    refine Hok.out.mono ?_
    rintro e w1 ⟨rfl, rfl⟩
    go_wp2_with fail
    go_ret
    exact ⟨rfl, rfl⟩
  | false =>
    rw [okN_up hd] at hok
    have Hok := hid hok
    clear hok hd h
    go_enter Try.func37, Try.ntmps37
    go_wp2_with fail
    refine Hok.out.mono ?_
    rintro e w1 ⟨rfl, rfl⟩
    go_wp2_with fail
    go_ret
    exact ⟨rfl, rfl⟩

theorem darm_any (p : Nat) (v : Value) (s : Wn.Dsk) (o k : Int) (w : World) (h : DiskAt w p v s) (ho : o ≤ 9223372036854775807) :
    Calls Try.prog 30 #[.pointer (some ⟨p, 0, none⟩), .int .i64 o, .int .i64 k] w (PDo p v (.tuple #[]) (Wn.dArm s o k) w) := by
  have hok := ok_any p v s w h
  cases hd : s.down with
  | true =>
    have hf : Wn.dArm s o k = s := by unfold Wn.dArm; rw [if_pos hd]
    rw [okN_down hd] at hok
    rw [hf]
    have Hok := hid hok
    have H := hid h
    clear hok hd h hf
    go_enter Try.func30, Try.ntmps30
    go_wp2_with fail
    refine Hok.out.mono ?_
    rintro e w1 ⟨rfl, rfl⟩
    go_wp2_with fail
    go_end0
    exact ⟨rfl, DK.refl H.out⟩
  | false =>
    have hf : Wn.dArm s o k = { s with armed := true, ops := (max 0 o).toNat, keep := k } := by unfold Wn.dArm; rw [if_neg (by rw [hd]; simp)]
    have hwf := Wn.dArm_wf h.wf o k
    rw [okN_up hd] at hok
    rw [hf] at hwf
    rw [hf]
    obtain ⟨m, hm⟩ : ∃ m : Nat, (max 0 o).toNat = m := ⟨_, rfl⟩
    rw [hm] at hwf
    rw [hm]
    have hmax : ∀ ts t wx, (Builtin.max_ ts t #[.int .i64 0, .int .i64 o]).run Try.prog wx = .ok (.int .i64 (m : Int)) wx := by
      intro ts t wx
      rw [run_max_int2]
      congr 2
      split <;> omega
    have hmb : m ≤ 9223372036854775807 := by omega
    obtain ⟨a, n, c, x, rfl, hn, hnc, hcm, hp, hf, hc0, hc1, hc2, hc3, hc4, hc5, hc6, hc7, hx, hops, hw1, hw2, hw3⟩ := h.facts
    have hf5 := hf 5
    have hf6 := hf 6
    have hf7 := hf 7
    have Hok := hid hok
    have H := hid h
    have Hd := hid hd
    have Hwf := hid hwf
    clear hok hd h hf hn hx hc0 hc1 hc2 hc3 hc4 hw1 hw2 hw3 hm hwf
    go_enter Try.func30, Try.ntmps30
    go_wp2_with fail
    refine Hok.out.mono ?_
    rintro e w1 ⟨rfl, rfl⟩
    go_wp2_with fail
    clear hmax
    go_end0
    refine ⟨rfl, DK.same (H.out.step (x := (m : Int)) ((((Keeps.refl _ _).only _ _).only _ _).only _ _) ?_ ?_ hmb (Eq.refl _) Hwf.out) ((((Keeps.refl _ _).only _ _).only _ _).only _ _)⟩
    · intro x0 hh _
      rw [heap_setCell_same _ p 7 _ 71 _ (heap_setCell_same _ p 6 _ 71 _ (heap_setCell_same w p 5 _ 71 _ hh))]; rfl
    · intro _ _; rfl
end Go.Proofs.Ytkblcdjkabiliaa
