/- The walks through the disk's operations. -/
import Derived.Test.YtkblcdjkabiliaaWM
import Derived.Lib.SliceRun
namespace Go.Proofs.Ytkblcdjkabiliaa
open Go.RowKit Wm

/-- slices.Clone of bytes: a new row, or nothing. -/
def PClone (xs : List Value) (w : World) (e : Ending) (w' : World) : Prop :=
  ∃ a r c, e = .returned (.slice a r c) ∧ w'.ownsRow w.heap.size 5 1 (.slice a r c) r xs ∧ Keeps No w w'
set_option maxRecDepth 20000 in
set_option maxHeartbeats 1000000 in
theorem clone_any (M : Blocks) (v : Value) (b : List UInt8) (w : World) (h : SB M w v b) (hsz : b.length ≤ 16777216) :
    Calls Try.prog 61 #[v] w (PClone (b.map bv) w) := by
  obtain ⟨i0, hi, hz0, hz1, hz2⟩ := info_parts info5
  obtain ⟨a, n, c, rfl, hn, hnc, hcm⟩ := h.opened
  unfold maxLen at hcm
  have hm : (b.map bv).length = n := by rw [List.length_map]; exact hn.symm
  have hn24 : n ≤ 16777216 := by omega
  have Hm := hid hm
  have Hn := hid hn
  clear hm hn
  have q24 : ∀ (w : World) (a : Option Addr) (n c n' c' : Nat), (binOp .eql 24 (.slice a n c) (.slice none n' c')).run Try.prog w = .ok (.bool a.isNone) w := fun w a n c n' c' => Lib.run_eql_slice_nil w _ _ a n c n' c' Try.underlying24
  cases a with
  | none =>
    have hz : n = 0 := by
      rcases Nat.eq_zero_or_pos n with hz | hz
      · exact hz
      · obtain ⟨b, off, he, _⟩ := h.at_ hz; cases he
    subst hz
    have hb : b = [] := List.eq_nil_of_length_eq_zero Hn.out.symm
    subst hb
    go_enter Try.func61, Try.ntmps61
    go_wp2
    go_ret
    exact ⟨none, 0, 0, rfl, World.ownsRow_nil _ _ _ _, Keeps.refl _ _⟩
  | some ad =>
    go_enter Try.func61, Try.ntmps61
    go_wp2_with (at_builtin; go_must (refine wpList_copy _ rfl (.tmp 5) (.tmp 6) _ rfl 5 i0 _ 1 Try.underlying24 hi hz0 hz1 hz2 rfl rfl M _ (b.map bv) rfl h (one_bv _) n Hm.out (by unfold maxLen; omega) (by omega) ?_); intro a1 c1 w1 hown1 hk1)
    go_ret
    exact ⟨a1, n, c1, rfl, hown1, hk1⟩

theorem dHold_any (x a b : Int) (w : World) : Calls Try.prog 60 #[.int .i64 x, .int .i64 a, .int .i64 b] w fun e w' => e = .returned (.int .i64 (max a (min x b))) ∧ w = w' := by
  have hmin : ∀ ts t wx, (Builtin.min_ ts t #[.int .i64 x, .int .i64 b]).run Try.prog wx = .ok (.int .i64 (min x b)) wx := by
    intro ts t wx
    rw [run_min_int2]
    congr 2
    split <;> omega
  have hmax : ∀ ts t wx, (Builtin.max_ ts t #[.int .i64 a, .int .i64 (min x b)]).run Try.prog wx = .ok (.int .i64 (max a (min x b))) wx := by
    intro ts t wx
    rw [run_max_int2]
    congr 2
    split <;> omega
  generalize min x b = m at *
  generalize max a m = m' at *
  go_enter Try.func60, Try.ntmps60
  go_wp2
  go_ret
  exact ⟨rfl, rfl⟩

theorem dflush_any (p : Nat) (v : Value) (s : Wn.Dsk) (w : World) (h : DiskAt w p v s) :
    Calls Try.prog 42 #[.pointer (some ⟨p, 0, none⟩)] w (PDo p v (.int .i64 ((Wn.dFlush s).1 : Int)) (Wn.dFlush s).2 w) := by
  have hok := ok_any p v s w h
  cases hd : s.down with
  | true =>
    have hf : Wn.dFlush s = (42, s) := by unfold Wn.dFlush; rw [if_pos hd]
    unfold okN at hok
    rw [if_pos hd] at hok
    rw [hf]
    have Hok := hid hok
    have H := hid h
    clear hok h hd hf
    go_enter Try.func42, Try.ntmps42
    go_wp2_with fail
    refine Hok.out.mono ?_
    rintro e w1 ⟨rfl, rfl⟩
    go_wp2_with fail
    go_ret
    exact ⟨rfl, DK.refl H.out⟩
  | false =>
    unfold okN at hok
    rw [if_neg (by rw [hd]; simp)] at hok
    have hfa := fails_any p v s w h hd
    have hwf := h.facts
    have hwf2 := Wn.dFlush_wf (s := s) (by obtain ⟨_, _, _, _, _, _, _, _, _, _, _, _, _, _, _, _, _, _, _, _, h1, h2, h3⟩ := hwf; exact ⟨h1, h2, h3⟩)
    clear hwf
    have Hwf := hid hwf2
    have Hok := hid hok
    have Hfa := hid hfa
    have H := hid h
    have Hd := hid hd
    clear hok h hd hfa hwf2
    cases hg : Wn.dGone s with
    | true =>
      have hf : Wn.dFlush s = (42, Wn.dOp s) := by unfold Wn.dFlush; rw [if_neg (by rw [Hd.out]; simp), if_pos hg]
      rw [hf]
      have Hg := hid hg
      clear hf hg
      go_enter Try.func42, Try.ntmps42
      go_wp2_with fail
      refine Hok.out.mono ?_
      rintro e w1 ⟨rfl, rfl⟩
      go_wp2_with fail
      refine Hfa.out.mono ?_
      rintro e w1 ⟨rfl, hdk⟩
      rw [Hg.out]
      go_wp2_with fail
      go_ret
      exact ⟨rfl, hdk⟩
    | false =>
      have hf : Wn.dFlush s = (0, { Wn.dOp s with sure := s.b.length }) := by unfold Wn.dFlush; rw [if_neg (by rw [Hd.out]; simp), if_neg (by rw [hg]; simp)]
      rw [hf] at Hwf
      rw [hf]
      have Hg := hid hg
      clear hf hg
      go_enter Try.func42, Try.ntmps42
      go_wp2_with fail
      refine Hok.out.mono ?_
      rintro e w1 ⟨rfl, rfl⟩
      go_wp2_with fail
      refine Hfa.out.mono ?_
      rintro e w1 ⟨rfl, v1, h1, hk1, hf1⟩
      rw [Hg.out]
      obtain ⟨a, n, c, x, rfl, hn, hnc, hcm, hp, hf, hc0, hc1, hc2, hc3, hc4, hc5, hc6, hc7, hx, hops, hw1, hw2, hw3⟩ := h1.facts
      unfold maxLen at hcm
      have hf2 := hf 2
      have hnb : n = s.b.length := by rw [hn, (Wn.dOp_b s).1]
      have Hn := hid hnb
      clear hn hnb hf hx hw1 hw2 hw3 hc1 hc3 hc4 hc5 hc6 hc7
      go_wp2_with fail
      go_ret
      refine ⟨rfl, _, ?_, ?_, hf1⟩
      · have hk2 := (Keeps.refl (Only p) w1).only 2 (.int .i64 (n : Int))
        have hh0 := h1
        obtain ⟨_, _, _, x0, e, hh, _, hx0, _⟩ := hh0
        injection e with e1 e2 e3; subst e1; subst e2; subst e3
        refine h1.step (x := x0) hk2 ?_ hx0 hops (Eq.refl _) Hwf.out
        intro x1 hh1 _
        rw [hh] at hh1
        rw [heap_setCell_same w1 p 2 _ 71 _ hh]
        have : x1 = x0 := by injection hh1 with h1; injection h1 with h1 _; simp at h1; exact h1.symm
        show _ = some (Obj.cells #[_, _, .int .i64 ((s.b.length : Nat) : Int), _, _, _, _, _] _ _)
        rw [← Hn.out]; rfl
      · exact hk1.trans ((Keeps.refl (Only p) w1).only _ _) fun k _ hk => .inl hk
end Go.Proofs.Ytkblcdjkabiliaa
