/- The walk through the reference's Add. -/
import Derived.Test.YtkblcdjkabiliaaJH
namespace Go.Proofs.Ytkblcdjkabiliaa
open Go.RowKit Wm

/-- How far an operation on the reference's journal has come. -/
def RT (L : Blocks) (q p : Nat) (v : Value) (w : World) (v' : Value) (s' : Wn.Dsk) (j' : Wn.Jrn) (w' : World) : Prop :=
  RS L w' q p v' s' j' ∧ Keeps (U (Foot p v) (Only q)) w w' ∧ ∀ k, Foot p v' k → Foot p v k ∨ w.heap.size ≤ k
theorem RT.refl {L : Blocks} {w : World} {q p : Nat} {v : Value} {s : Wn.Dsk} {j : Wn.Jrn} (h : RS L w q p v s j) : RT L q p v w v s j w := ⟨h, Keeps.refl _ _, fun _ hk => .inl hk⟩
theorem RT.keepNo {L : Blocks} {w w' w'' : World} {q p : Nat} {v v' : Value} {s' : Wn.Dsk} {j' : Wn.Jrn} (h : RT L q p v w v' s' j' w') (hk : Keeps No w' w'') : RT L q p v w v' s' j' w'' := ⟨h.1.keepNo hk, h.2.1.then_ hk, h.2.2⟩
theorem RT.disk {L : Blocks} {w w' w'' : World} {q p : Nat} {v v' : Value} {s' s'' : Wn.Dsk} {j' : Wn.Jrn} (h : RT L q p v w v' s' j' w') (hd : RDisk w'' q (RM q p v' L) s'') (hk : Keeps (Only q) w' w'') : RT L q p v w v' s'' j' w'' :=
  ⟨h.1.disk hd hk, h.2.1.trans hk fun _ _ hk => .inr hk, h.2.2⟩
theorem RT.broke {L : Blocks} {w w' : World} {q p : Nat} {v v' : Value} {s' : Wn.Dsk} {j' : Wn.Jrn} (h : RT L q p v w v' s' j' w') (b : Bool) : RT L q p v w v' s' { j' with broken := b } (w'.setCell ⟨p, 2, none⟩ (.bool b)) := by
  have hap := h.1.apart
  obtain ⟨⟨h0, h1⟩, h2, h3⟩ := h
  have hk : Keeps (Only p) w' (w'.setCell ⟨p, 2, none⟩ (.bool b)) := (Keeps.refl _ _).only _ _
  refine ⟨⟨h0.keep hk (fun e => ?_) (fun k _ e => ?_) (fun _ _ hk => hk) (.inr (.inl rfl)), h1.broke (by decide) (.inl (.inl rfl)) b⟩, h2.trans hk fun k hl e => ?_, h3⟩
  · unfold Only at e; exact hap _ (.inl rfl) e.symm
  · unfold Only at e; subst e; exact .inl (.inl rfl)
  · unfold Only at e; subst e
    rcases h3 _ (.inl rfl) with h | h
    · exact .inl h
    · omega
/-- A record put behind the others: the load itself. -/
theorem RT.snoc {L : Blocks} {w w0 w2 : World} {q p : Nat} {v : Value} {a a' : Option Addr} {n c r c' : Nat} {us : List Value} {u : Value} {x : List UInt8} {s' : Wn.Dsk} {j' : Wn.Jrn} {o : Obj} (h : RT L q p v w (.slice a n c) s' j' w0)
    (ho : w0.ownsRow 0 24 1 (.slice a n c) n us) (hu : SB (RM q p (.slice a n c) L) w0 u x)
    (ho2 : w2.ownsRow 0 24 1 (.slice a' r c') r (us ++ [u])) (hg : (w0.alloc o).grownBy w2 (Value.slice a n c).ownBlock)
    (hb : (Value.slice a' r c').ownBlock = (Value.slice a n c).ownBlock ∨ (Value.slice a' r c').ownBlock = some (w0.alloc o).heap.size)
    (hus : SLV (RM q p (.slice a n c) L) w0 us j'.l) :
    RT L q p v w (.slice a' r c') s' { j' with l := j'.l ++ [x] } (w2.setCell ⟨p, 1, none⟩ (.slice a' r c')) := by
  have hap := h.1.apart
  obtain ⟨⟨h0, h1⟩, h2, h3⟩ := h
  obtain ⟨_, _, _, _, e, hh, _⟩ := h1
  injection e with e1 e2 e3
  subst e1; subst e2; subst e3
  have hka : Keeps No w0 (w0.alloc o) := (Keeps.refl _ _).alloc _
  obtain ⟨g1, g2, g3⟩ := JnlAt.snoc hh (by decide) ho hus hka (SV.alloc hu _) ho2 hg hb
  refine ⟨⟨h0.keep g2 (fun hk => hap _ hk rfl) (fun k _ hk => .inl hk) (fun k hl hk => ?_) (.inr (.inl rfl)), g1⟩, h2.trans g2 fun k hl hk => ?_, fun k hk => ?_⟩
  · rcases hk with hk | hk
    · rcases g3 k hk with h | h
      · exact .inl h
      · simp at h; omega
    · exact .inr hk
  · rcases h3 k hk with h | h
    · exact .inl h
    · omega
  · rcases g3 k hk with h | h
    · exact h3 k h
    · simp at h; exact .inr (Nat.le_trans h2.size (by omega))

theorem drew_of {w : World} {a : Addr} {u : Value} (h : w.cell? a = some u) : w.drew.cell? a = some u := h
theorem kept_of {w w' : World} {a : Addr} {u : Value} (hk : Keeps No w w') (h : w.cell? a = some u) : w'.cell? a = some u := (hk.cell (cell_lt h) fun hk => hk).trans h

set_option maxRecDepth 100000 in
set_option maxHeartbeats 4000000 in
theorem radd_any (L : Blocks) (q p : Nat) (v : Value) (s : Wn.Dsk) (j : Wn.Jrn) (xv : Value) (x : List UInt8) (w : World) (h : RS L w q p v s j)
    (hx : SB (RM q p v L) w xv x) (hxl : x.length ≤ 32768) (hL : ∀ k, L k → k < w.heap.size) (hjl : j.l.length ≤ 1048576) :
    Calls Try.prog 29 #[.pointer (some ⟨p, 0, none⟩), xv] w (RP L q p v (.int .i64 ((Wn.jAdd j s x).1 : Int)) (Wn.jAdd j s x).2.2 (Wn.jAdd j s x).2.1 w) := by
  obtain ⟨i0, hi, hz0, hz1, hz2⟩ := info_parts info24
  obtain ⟨a, n, c, us, rfl, hn, hnc, hcm, hp, hf, hc0, hc1, hc2, ho, hs, hh⟩ := h.2.facts
  unfold maxLen at hcm
  have hnb : n ≤ 1048576 := by omega
  have hjt := RT.refl h
  have hq := h.1.lt
  have hpq : p ≠ q := h.apart p (.inl rfl)
  obtain ⟨xa, xn, xc, rfl, hxn, hxnc, hxcm⟩ := hx.opened
  unfold maxLen at hxcm
  have hxn2 : xn ≤ 32768 := by omega
  have hbd := mk_bd hxl
  have hMlt : ∀ k, RM q p (.slice a n c) L k → k < w.heap.size := by
    rintro k (hk | hk | hk)
    · exact h.2.lt k hk
    · unfold Only at hk; subst hk; exact hq
    · exact hL k hk
  have hf2 := hf 2
  have hf1 := hf 1
  have Hx := hid hx
  have Hpq := hid hpq
  have Hml := hid hMlt
  have hmk := fun W hW => rmake_any (RM q p (.slice a n c) L) (.slice xa xn xc) x W hW hxl
  have hpu := fun v4 W (hW : RDisk W q (RM q p (.slice a n c) L) s) (hb : SB No W v4 (Wn.mkFrame x)) (hs : w.heap.size ≤ W.heap.size) => rput_any q (RM q p (.slice a n c) L) No s v4 (Wn.mkFrame x) W hW hb (by omega) (fun k hk => Nat.lt_of_lt_of_le (hMlt k hk) hs)
  have Hmk := hid hmk
  clear hn hs hf hh hx hL hxn hjl hxl hpq hMlt hmk
  cases hb : j.broken with
  | true =>
    rw [hb] at hc2
    have hja : Wn.jAdd j s x = (42, j, s) := by unfold Wn.jAdd; rw [if_pos hb]
    have Hja := hid hja
    clear hja hb hpu
    go_enter Try.func29, Try.ntmps29
    go_wp2_with fail
    go_ret
    refine ⟨?_, .slice a n c, ?_⟩
    · rw [Hja.out]; rfl
    · rw [Hja.out]; exact hjt
  | false =>
    rw [hb] at hc2
    have hja : Wn.jAdd j s x = if (Wn.jDo s x).1 = 0 then (0, { j with l := j.l ++ [x] }, (Wn.jDo s x).2) else ((Wn.jDo s x).1, { j with broken := decide ((Wn.jDo s x).1 = 42) }, (Wn.jDo s x).2) := by
      unfold Wn.jAdd; rw [if_neg (by rw [hb]; simp)]
    have hdo : (Wn.dPut s (Wn.mkFrame x)).1 = 0 → Wn.jDo s x = Wn.dFlush (Wn.dPut s (Wn.mkFrame x)).2 := fun e => by unfold Wn.jDo; rw [if_pos e]
    have hdn : (Wn.dPut s (Wn.mkFrame x)).1 ≠ 0 → Wn.jDo s x = Wn.dPut s (Wn.mkFrame x) := fun e => by unfold Wn.jDo; rw [if_neg e]
    generalize Wn.dPut s (Wn.mkFrame x) = qq at *
    obtain ⟨e1, s1⟩ := qq
    simp only at hpu hdo hdn
    have Hpu := hid hpu
    have Hja := hid hja
    have Hdo := hid hdo
    have Hdn := hid hdn
    clear hpu hja hdo hdn hb
    go_enter Try.func29, Try.ntmps29
    go_wp2_with fail
    go_region_held3 (fun wy => wy.cell? ⟨p, 0, none⟩ = some (.pointer (some ⟨q, 0, none⟩)))
      (first | exact hc0 | exact drew_of hc0 | exact kept_of (by assumption) hc0 | exact drew_of (kept_of (by assumption) hc0) | assumption | exact drew_of (by assumption))
      (first
        | (go_at_call 51; refine (Hmk.out _ (by exact Hx.out)).mono ?_; rintro e w4 ⟨a4, r4, c4, rfl, hown4, hk4⟩; replace hk4 : Keeps No w w4 := ((Keeps.refl No w).drew).then_ hk4; have hjt4 := hjt.keepNo hk4)
        | (go_at_call 41; refine (Hpu.out _ _ (by exact hjt4.1.1) (by exact SV.of_own hown4 (fun _ _ hk => hk)) (by exact hk4.size)).mono ?_; rintro e w5 ⟨rfl, hr5, hk5⟩; have hc5 := (hk5.cell (p := ⟨p, 0, none⟩) (Nat.lt_of_lt_of_le hp hk4.size) (fun e => Hpq.out e)).trans (kept_of hk4 hc0)))
    have hjt5 := hjt4.disk hr5 hk5
    have hbc := hk5.size
    obtain ⟨us5, -, hp5, hf5, hc50, hc51, hc52, ho5, hs5⟩ := hjt5.1.2.open_
    have hf52 := hf5 2
    have hf51 := hf5 1
    clear hown4 hk4 hjt4 hr5 hk5 hc0 hc1 hc2 hf1 hf2 hjt ho hf5 hc5
    by_cases he1 : e1 = 0
    · have hdo := Hdo.out he1
      rw [hdo] at Hja
      clear hdo Hdo Hdn hf51 hf52
      subst he1
      have hfl := rflush_any q _ s1 w5 hjt5.1.1
      have Hfl := hid hfl
      clear hfl
      go_wp2_with fail
      refine Hfl.out.mono ?_
      rintro e w6 ⟨rfl, hr6, hk6⟩
      have hjt6 := hjt5.disk hr6 hk6
      obtain ⟨us6, -, hp6, hf6, hc60, hc61, hc62, ho6, hs6⟩ := hjt6.1.2.open_
      have hf62 := hf6 2
      have hf61 := hf6 1
      clear hjt5 hr6 hk6 hc50 hc51 hc52 ho5 hs5 hp5 hf6 Hfl hbc
      generalize Wn.dFlush s1 = qq at *
      obtain ⟨e2, s2⟩ := qq
      simp only at hjt6 Hja ⊢
      by_cases he2 : e2 = 0
      · subst he2
        have hja : Wn.jAdd j s x = (0, { j with l := j.l ++ [x] }, s2) := by rw [Hja.out]; rfl
        have Hja2 := hid hja
        have hx6 : SB (RM q p (.slice a n c) L) w6 (.slice xa xn xc) x := sv_shift Hx.out hjt6.2.1 (fun k _ hk => hk.elim .inl fun hk => .inr (.inl hk)) (fun _ _ hk => hk)
        have Hx6 := hid hx6
        have hne := hjt6.1.2.ne (by decide)
        have Hne := hid hne
        clear hja Hja hf62 hx6 hne
        go_wp2_with (at_builtin; refine hold ?_)
        unfold Held
        refine wpList_app _ rfl (.tmp 39) (.tmp 41) _ rfl 0 24 i0 _ 24 Try.underlying22 hi hz0 hz1 hz2 rfl _ n us6 rfl (World.ownsRow.alloc ho6 _) No _ [.slice xa xn xc] rfl (SV.no (SV.newAt w6 w6.heap.size _ _ _ 1 1 _ rfl rfl (by omega) (by unfold maxLen; omega) rfl)) (one_cell rfl) (n + 1) rfl (by unfold maxLen; omega) (by omega) (Nat.zero_le _) ?_
        intro a7 c7 w7 hown7 hg7 hb7
        have hc7 := grown_cell hg7 (by simp; omega) Hne.out (alloc_cell hc61)
        have hf7 := grown_frozen hg7 (by simp; omega) Hne.out (alloc_frozen hp6 hf61)
        have hsn := hjt6.snoc ho6 Hx6.out hown7 hg7 hb7 hs6
        have Hsn := hid hsn
        clear hsn
        go_wp2_with fail
        go_ret
        refine ⟨?_, .slice a7 (n + 1) c7, ?_⟩
        · rw [Hja2.out]; rfl
        · rw [Hja2.out]; exact Hsn.out
      · have hja : Wn.jAdd j s x = (e2, { j with broken := decide (e2 = 42) }, s2) := by rw [Hja.out, if_neg he2]
        have hz : ((e2 : Int) == 0) = false := by rw [beq_eq_false_iff_ne]; omega
        have Hja2 := hid hja
        have hbr := hjt6.broke (decide (e2 = 42))
        have Hbr := hid hbr
        clear hja he2 Hja hf61 hbr
        go_wp2_with fail
        go_ret
        refine ⟨?_, .slice a n c, ?_⟩
        · rw [Hja2.out]; rfl
        · rw [Hja2.out, beq42]; exact Hbr.out
    · have hdn := Hdn.out he1
      rw [hdn] at Hja
      have hja : Wn.jAdd j s x = (e1, { j with broken := decide (e1 = 42) }, s1) := by rw [Hja.out, if_neg he1]
      have hz : ((e1 : Int) == 0) = false := by rw [beq_eq_false_iff_ne]; omega
      have Hja2 := hid hja
      have hbr := hjt5.broke (decide (e1 = 42))
      have Hbr := hid hbr
      clear hja he1 hdn Hja Hdn Hdo hbr hf51
      go_wp2_with fail
      go_ret
      refine ⟨?_, .slice a n c, ?_⟩
      · rw [Hja2.out]; rfl
      · rw [Hja2.out, beq42]; exact Hbr.out
end Go.Proofs.Ytkblcdjkabiliaa
