/- The walks through varint.one, varint.Put and the reference's Bytes. -/
import Derived.Test.YtkblcdjkabiliaaWE
import Derived.Test.YtkblcdjkabiliaaFrm
namespace Go.Proofs.Ytkblcdjkabiliaa
open Go.RowKit Wm

/-- A row of the call's own, from base on, that reads as xs, and nothing below base has turned. -/
def POwn (base : Nat) (xs : List Value) (w : World) (e : Ending) (w' : World) : Prop :=
  ∃ a r c, e = .returned (.slice a r c) ∧ w'.ownsRow base 5 1 (.slice a r c) r xs ∧ Keeps (From base) w w'

theorem vb_le {n : Nat} (h : n ≤ 281474976710656) : (Wn.vb n).length ≤ 8 := (Wn.vb_pos n (Nat.lt_of_le_of_lt h (by decide))).2

set_option maxRecDepth 20000 in
set_option maxHeartbeats 1000000 in
theorem one_any (base : Nat) (a : Option Addr) (r c : Nat) (xs : List Value) (n : Int) (w : World) (hown : w.ownsRow base 5 1 (.slice a r c) r xs) (hb : base ≤ w.heap.size) (hr : r ≤ 16777216) (hn : 0 ≤ n ∧ n ≤ 281474976710656) :
    Calls Try.prog 72 #[.slice a r c, .int .i64 n] w (POwn base (xs ++ (Wn.vb n.toNat).map bv) w) := by
  obtain ⟨i0, hi, hz0, hz1, hz2⟩ := info_parts info5
  obtain ⟨m0, rfl⟩ := Int.eq_ofNat_of_zero_le hn.1
  rw [Int.toNat_natCast]
  obtain ⟨-, hn⟩ := hn
  have hm0 : m0 ≤ 281474976710656 := by omega
  have hv8 := vb_le hm0
  have hr0 := hown.1
  have Hown := hid hown
  clear hown hr0
  go_enter Try.func72, Try.ntmps72
  go_wp2
  go_loopw [0, 1] (fun v i wr => ∃ (m : Nat) (pre : List UInt8) (a' : Option Addr) (c' : Nat), m ≤ 281474976710656 ∧ i = .int .i64 m ∧ pre ++ Wn.vb m = Wn.vb m0 ∧ v = .slice a' (r + pre.length) c' ∧ wr.ownsRow base 5 1 (.slice a' (r + pre.length) c') (r + pre.length) (xs ++ pre.map bv) ∧ Keeps (From base) w wr) (fun _ i _ => (intOf i).toNat)
  case atStart => exact ⟨m0, [], a, c, hm0, rfl, rfl, rfl, by simpa using Hown.out, Keeps.refl _ _⟩
  case round =>
    obtain ⟨m, pre, a', c', hm, rfl, hpre, rfl, hown, hk⟩ := hrel
    have hks := hk.size
    have hpl : pre.length ≤ 8 := by
      have := congrArg List.length hpre
      rw [List.length_append] at this
      omega
    have hlen : (List.map bv pre).length = pre.length := List.length_map _
    generalize hr' : r + pre.length = r' at *
    have Hr' := hid hr'
    have hr2 : r' ≤ r + 8 := by omega
    have Hpre := hid hpre
    clear hpre hr' hlen
    by_cases hbig : m < 128
    · have hsm := Wn.vb_small hbig
      have Hsm := hid hsm
      clear hsm
      go_wp2_with (at_builtin; go_must (refine wpList_app _ rfl (.tmp 16) (.tmp 19) _ rfl base 5 i0 _ 1 Try.underlying24 hi hz0 hz1 hz2 rfl _ _ _ rfl (hown.alloc _) (Old wr) _ [bv (UInt8.ofNat m)] rfl (SV.new _ _ _ _ _ _ _ rfl (by simp) (by unfold maxLen; omega) (one_at (bv_of (by omega)))) (one_cell rfl) (r' + 1) rfl (by unfold maxLen; omega) (by omega) (by simp; omega) ?_); intro a1 c1 w1 hown1 hg1 hat1)
      go_ret
      refine ⟨_, _, _, rfl, ?_, ?_⟩
      · rw [← Hpre.out, Hsm.out, List.map_append, ← List.append_assoc]; exact hown1
      · exact (hk.alloc _).grown hg1 fun g hg hl => (hown.lt g hg).1
    · have hvb := Wn.vb_big hbig (Nat.lt_of_le_of_lt hm (by decide))
      have Hvb := hid hvb
      clear hvb
      go_wp2_with (at_builtin; go_must (refine wpList_app _ rfl (.tmp 7) (.tmp 12) _ rfl base 5 i0 _ 1 Try.underlying24 hi hz0 hz1 hz2 rfl _ _ _ rfl (hown.alloc _) (Old wr) _ [bv (UInt8.ofNat (128 + m % 128))] rfl (SV.new _ _ _ _ _ _ _ rfl (by simp) (by unfold maxLen; omega) (one_at (bv_of (by omega)))) (one_cell rfl) (r' + 1) rfl (by unfold maxLen; omega) (by omega) (by simp; omega) ?_); intro a1 c1 w1 hown1 hg1 hat1)
      go_roundw
      case rel =>
        have hl1 : r' + 1 = r + (pre ++ [UInt8.ofNat (128 + m % 128)]).length := by rw [List.length_append, List.length_singleton]; have := Hr'.out; omega
        refine ⟨m / 128, pre ++ [UInt8.ofNat (128 + m % 128)], a1, c1, by omega, by go_num, ?_, by rw [← hl1], ?_, ?_⟩
        · rw [List.append_assoc, List.singleton_append, ← Hvb.out, Hpre.out]
        · rw [← hl1, List.map_append, ← List.append_assoc]; exact hown1
        · exact (hk.alloc _).grown hg1 fun g hg hl => (hown.lt g hg).1
      case measure => simp [intOf]; omega

/-- The same with no error beside it. -/
def POwn0 (base : Nat) (xs : List Value) (w : World) (e : Ending) (w' : World) : Prop :=
  ∃ a r c, e = .returned (.tuple #[.slice a r c, .int .i64 0]) ∧ w'.ownsRow base 5 1 (.slice a r c) r xs ∧ Keeps No w w'

set_option maxRecDepth 20000 in
set_option maxHeartbeats 1000000 in
theorem put_any (M : Blocks) (v : Value) (n : Int) (w : World) (h : SV M w v [.int .i64 n]) (hn : 0 ≤ n ∧ n ≤ 281474976710656) :
    Calls Try.prog 64 #[.slice none 0 0, v] w (POwn0 w.heap.size ((Wn.vb n.toNat).map bv) w) := by
  obtain ⟨i0, hi, hz0, hz1, hz2⟩ := info_parts info5
  obtain ⟨a, k, c, rfl, hk, hkc, hcm⟩ := h.opened
  unfold maxLen at hcm
  simp at hk
  subst hk
  obtain ⟨b, off, rfl, _, hat⟩ := h.at_ (by omega)
  have hcell := hat 0 (.int .i64 n) rfl
  rw [Nat.add_zero] at hcell
  clear hat
  obtain ⟨hn0, hn1⟩ := hn
  go_enter Try.func64, Try.ntmps64
  go_wp2
  refine wp_loop_rounds 2 ?_
  rw [rounds_succ]
  go_wp2
  rw [rounds_succ]
  have hnil : SV No w (.slice none 0 0) ([] : List Value) := SV.nil_ _ _ _ _ (Nat.zero_le _)
  go_wp2_with (at_builtin; go_must (refine wpList_copy _ rfl (.tmp 24) (.tmp 25) _ rfl 5 i0 _ 1 Try.underlying24 hi hz0 hz1 hz2 rfl rfl No _ [] rfl hnil (one_bv []) 0 rfl (by unfold maxLen; omega) (by omega) ?_); intro a1 c1 w1 hown1 hk1)
  have hcell1 : w1.cell? ⟨b, off, none⟩ = some (.int .i64 n) := (hk1.cell (p := ⟨b, off, none⟩) (cell_lt hcell) (fun hk => hk)).trans hcell
  refine wp_loop_rounds 2 ?_
  rw [rounds_succ]
  go_wp2_with fail
  refine (one_any w.heap.size _ _ _ [] n _ hown1 hk1.size (by omega) ⟨hn0, hn1⟩).mono ?_
  rintro e w2 ⟨a2, r2, c2, rfl, hown2, hk2⟩
  have hcell2 : w2.cell? ⟨b, off, none⟩ = some (.int .i64 n) := (hk2.cell (p := ⟨b, off, none⟩) (cell_lt hcell1) (by unfold From; have := cell_lt hcell; simp at this; simp; omega)).trans hcell1
  go_wp2_with fail
  rw [rounds_succ]
  go_wp2_with fail
  go_ret2
  exact ⟨_, _, _, rfl, by simpa using hown2, hk1.from_ hk2 (Nat.le_refl _)⟩

/-- A new row that reads as xs. -/
def PNew (xs : List Value) (w : World) (e : Ending) (w' : World) : Prop :=
  ∃ a r c, e = .returned (.slice a r c) ∧ w'.ownsRow w.heap.size 5 1 (.slice a r c) r xs ∧ Keeps No w w'

set_option maxRecDepth 20000 in
set_option maxHeartbeats 1000000 in
theorem rvb_any (k : Nat) : ∀ (m : Nat) (w : World), m < 128 ^ (k + 1) → m ≤ 281474976710656 →
    Calls Try.prog 65 #[.int .i64 (m : Int)] w (PNew ((Wn.vb m).map bv) w) := by
  obtain ⟨i0, hi, hz0, hz1, hz2⟩ := info_parts info5
  have small : ∀ (m : Nat) (w : World), m < 128 → Calls Try.prog 65 #[.int .i64 (m : Int)] w (PNew ((Wn.vb m).map bv) w) := by
    intro m w hm
    have hsm := Wn.vb_small hm
    have Hsm := hid hsm
    clear hsm
    go_enter Try.func65, Try.ntmps65
    go_wp2
    go_ret
    refine ⟨_, _, _, rfl, ?_, (Keeps.refl _ _).alloc _⟩
    rw [Hsm.out]
    have := World.ownsRow_lit (base := w.heap.size) (e := 5) (size := 1) w #[bv (UInt8.ofNat m)] 1 (Nat.le_refl _) (by unfold maxLen; omega) rfl
    rw [bv_of (z := (m : Int)) (by omega)] at this
    rw [List.map_singleton, bv_of (z := (m : Int)) (by omega)]
    exact this
  induction k with
  | zero => intro m w h _; exact small m w (by simpa using h)
  | succ k ih =>
    intro m w h hm
    by_cases hs : m < 128
    · exact small m w hs
    · have hvb := Wn.vb_big hs (Nat.lt_of_le_of_lt hm (by decide))
      have hdiv : m / 128 < 128 ^ (k + 1) := by
        rw [Nat.pow_succ] at h
        exact Nat.div_lt_of_lt_mul (by omega)
      have hv8 := vb_le (n := m / 128) (by omega)
      have Hih := hid (ih (m / 128))
      have Hdiv := hid hdiv
      have Hvb := hid hvb
      clear hvb small ih h hdiv
      go_enter Try.func65, Try.ntmps65
      go_wp2_with fail
      have hcast : (((m / 128 : Nat) : Int)) = (m : Int) / 128 := by omega
      rw [← hcast]
      refine (Hih.out _ Hdiv.out (by omega)).mono ?_
      rintro e w2 ⟨a2, r2, c2, rfl, hown2, hk2⟩
      rw [World.size_alloc] at hown2
      have hown1 := World.ownsRow_lit (base := w.heap.size) (e := 5) (size := 1) w #[bv (UInt8.ofNat (128 + m % 128))] 1 (Nat.le_refl _) (by unfold maxLen; omega) rfl
      rw [bv_of (z := 128 + (m : Int) % 128) (by omega)] at hown1
      have hownk := ownsRow_keep hown1 hk2 (fun _ _ hk => hk)
      have hv2 := SV.of_own (M := No) hown2 (fun _ _ hk => hk)
      have hl : (List.map bv (Wn.vb (m / 128))).length = r2 := by have := hown2.1; omega
      have hr2 : r2 ≤ 8 := by rw [← hl, List.length_map]; exact hv8
      have Hl := hid hl
      clear hl
      have hk2s := hk2.size
      simp at hk2s
      go_wp2_with (at_builtin; go_must (refine wpList_app _ rfl (.tmp 12) (.tmp 15) _ rfl w.heap.size 5 i0 _ 1 Try.underlying24 hi hz0 hz1 hz2 rfl _ _ _ rfl hownk No _ _ rfl hv2 (one_bv _) (1 + r2) (by rw [Hl.out]) (by unfold maxLen; omega) (by omega) (by omega) ?_); intro a3 c3 w3 hown3 hg3 hat3)
      go_ret
      refine ⟨_, _, _, rfl, ?_, ?_⟩
      · rw [Hvb.out, List.map_cons, bv_of (z := 128 + (m : Int) % 128) (by omega)]
        exact hown3
      · exact (((Keeps.refl _ _).alloc _).then_ hk2).app hownk (Nat.le_refl _) hg3
end Go.Proofs.Ytkblcdjkabiliaa
