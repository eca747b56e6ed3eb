/- The walk through the journal's Add. -/
import Derived.Test.YtkblcdjkabiliaaJC
import Derived.Deep.RegionLaw
import Derived.Test.YtkblcdjkabiliaaWL
namespace Go.Proofs.Ytkblcdjkabiliaa
open Go.RowKit Wm

/-- How far an operation on a journal has come. -/
def JT (R : Blocks) (d : Nat) (v : Value) (p : Nat) (vl : Value) (w : World) (v' vl' : Value) (s' : Wn.Dsk) (j' : Wn.Jrn) (w' : World) : Prop :=
  JS R w' d v' p vl' s' j' ∧ Keeps (JB d v p vl) w w' ∧ ∀ k, JB d v' p vl' k → JB d v p vl k ∨ w.heap.size ≤ k
theorem JT.refl {R : Blocks} {w : World} {d p : Nat} {v vl : Value} {s : Wn.Dsk} {j : Wn.Jrn} (h : JS R w d v p vl s j) : JT R d v p vl w v vl s j w := ⟨h, Keeps.refl _ _, fun _ hk => .inl hk⟩
theorem JT.keepNo {R : Blocks} {w w' w'' : World} {d p : Nat} {v vl v' vl' : Value} {s' : Wn.Dsk} {j' : Wn.Jrn} (h : JT R d v p vl w v' vl' s' j' w') (hk : Keeps No w' w'') : JT R d v p vl w v' vl' s' j' w'' :=
  ⟨h.1.keepNo hk, h.2.1.then_ hk, h.2.2⟩
theorem JT.disk {R : Blocks} {w w' w'' : World} {d p : Nat} {v vl v' vl' : Value} {s' s'' : Wn.Dsk} {j' : Wn.Jrn} (h : JT R d v p vl w v' vl' s' j' w') (hd : DK d v' s'' w' w'') : ∃ v'', JT R d v p vl w v'' vl' s'' j' w'' := by
  obtain ⟨h1, h2, h3⟩ := h
  obtain ⟨v'', g1, g2, g3⟩ := h1.disk hd
  refine ⟨v'', g1, h2.trans g2 fun k hl hk => ?_, fun k hk => ?_⟩
  · rcases h3 k (.inl hk) with h | h
    · exact h
    · omega
  · rcases g3 k hk with h | h
    · exact h3 k h
    · exact .inr (Nat.le_trans h2.size h)
theorem JT.broke {R : Blocks} {w w' : World} {d p : Nat} {v vl v' vl' : Value} {s' : Wn.Dsk} {j' : Wn.Jrn} (h : JT R d v p vl w v' vl' s' j' w') (b : Bool) : JT R d v p vl w v' vl' s' { j' with broken := b } (w'.setCell ⟨p, 2, none⟩ (.bool b)) := by
  have hap := h.1.apart
  obtain ⟨⟨h0, h1⟩, h2, h3⟩ := h
  have hk : Keeps (Only p) w' (w'.setCell ⟨p, 2, none⟩ (.bool b)) := (Keeps.refl _ _).only _ _
  refine ⟨⟨h0.keep hk fun k hkf e => ?_, h1.broke (by decide) (.inl (.inl rfl)) b⟩, h2.trans hk fun k hl e => ?_, h3⟩
  · unfold Only at e; subst e; exact hap _ (.inl rfl) hkf
  · unfold Only at e; subst e
    rcases h3 _ (.inr (.inl rfl)) with h | h
    · exact h
    · omega
/-- A record put behind the others. -/
theorem JT.snoc {R : Blocks} {w w0 w1 w2 : World} {d p : Nat} {v vl v' : Value} {a a' : Option Addr} {n c r c' : Nat} {us : List Value} {u : Value} {x : List UInt8} {s' : Wn.Dsk} {j' : Wn.Jrn} (h : JT R d v p vl w v' (.slice a n c) s' j' w0)
    (hR : ∀ k, R k → k < w0.heap.size)
    (ho : w0.ownsRow 0 24 1 (.slice a n c) n us) (hk1 : Keeps No w0 w1) (hu : SB (Old w0) w1 u x)
    (ho2 : w2.ownsRow 0 24 1 (.slice a' r c') r (us ++ [u])) (hg : w1.grownBy w2 (Value.slice a n c).ownBlock)
    (hb : (Value.slice a' r c').ownBlock = (Value.slice a n c).ownBlock ∨ (Value.slice a' r c').ownBlock = some w1.heap.size)
    (hus : SLV (U (Foot p (.slice a n c)) (U (Foot d v') R)) w0 us j'.l) :
    JT R d v p vl w v' (.slice a' r c') s' { j' with l := j'.l ++ [x] } (w2.setCell ⟨p, 1, none⟩ (.slice a' r c')) := by
  have hap := h.1.apart
  have hlt := h.1.lt
  obtain ⟨⟨h0, h1⟩, h2, h3⟩ := h
  obtain ⟨_, _, _, _, e, hh, _⟩ := h1
  injection e with e1 e2 e3
  subst e1; subst e2; subst e3
  have hu' : SB (U (Foot p (.slice a n c)) (U (Foot d v') R)) w1 u x := SV.mono hu fun k _ hk => by
    unfold Old
    rcases hk with hk | hk | hk
    · exact hlt k (.inr hk)
    · exact hlt k (.inl hk)
    · exact hR k hk
  obtain ⟨g1, g2, g3⟩ := JnlAt.snoc hh (by decide) ho hus hk1 hu' ho2 hg hb
  refine ⟨⟨h0.keep g2 fun k hk hf => hap k hf hk, g1⟩, h2.trans g2 fun k hl hk => ?_, fun k hk => ?_⟩
  · rcases h3 k (.inr hk) with h | h
    · exact h
    · omega
  · rcases hk with hk | hk
    · exact h3 k (.inl hk)
    · rcases g3 k hk with h | h
      · exact h3 k (.inr h)
      · exact .inr (Nat.le_trans h2.size (Nat.le_trans hk1.size h))
theorem JnlAt.open_ {T : TypeId} {M : Blocks} {w : World} {p d : Nat} {a : Option Addr} {n c : Nat} {j : Wn.Jrn} (h : JnlAt T M w p d (.slice a n c) j) :
    ∃ us, n = j.l.length ∧ p < w.heap.size ∧ (∀ i, w.frozen? ⟨p, i, none⟩ = false) ∧ w.cell? ⟨p, 0, none⟩ = some (.pointer (some ⟨d, 0, none⟩)) ∧ w.cell? ⟨p, 1, none⟩ = some (.slice a n c) ∧
      w.cell? ⟨p, 2, none⟩ = some (.bool j.broken) ∧ w.ownsRow 0 24 1 (.slice a n c) n us ∧ SLV M w us j.l := by
  obtain ⟨a', n', c', us, e, hn, hnc, hcm, hp, hf, hc0, hc1, hc2, ho, hs, hh⟩ := h.facts
  injection e with e1 e2 e3
  subst e1; subst e2; subst e3
  exact ⟨us, hn, hp, hf, hc0, hc1, hc2, ho, hs⟩
theorem alloc_cell {w : World} {a : Addr} {u : Value} {o : Obj} (h : w.cell? a = some u) : (w.alloc o).cell? a = some u :=
  (((Keeps.refl No w).alloc o).cell (cell_lt h) fun hk => hk).trans h
theorem grown_cell {w w' : World} {row : Option Nat} {p i : Nat} {u : Value} (hg : w.grownBy w' row) (hp : p < w.heap.size) (hr : row ≠ some p) (h : w.cell? ⟨p, i, none⟩ = some u) : w'.cell? ⟨p, i, none⟩ = some u := by
  have hb : w'.heap[p]? = w.heap[p]? := hg.block p hp fun e => hr e.symm
  have : w'.cell? ⟨p, i, none⟩ = w.cell? ⟨p, i, none⟩ := World.cell?_of_block (w := w) hb
  exact this.trans h
theorem grown_frozen {w w' : World} {row : Option Nat} {p i : Nat} {b : Bool} (hg : w.grownBy w' row) (hp : p < w.heap.size) (hr : row ≠ some p) (h : w.frozen? ⟨p, i, none⟩ = b) : w'.frozen? ⟨p, i, none⟩ = b := by
  have hb : w'.heap[p]? = w.heap[p]? := hg.block p hp fun e => hr e.symm
  have : w'.frozen? ⟨p, i, none⟩ = w.frozen? ⟨p, i, none⟩ := World.frozen?_of_block (w := w) hb
  exact this.trans h
theorem alloc_frozen {w : World} {p i : Nat} {b : Bool} {o : Obj} (hp : p < w.heap.size) (h : w.frozen? ⟨p, i, none⟩ = b) : (w.alloc o).frozen? ⟨p, i, none⟩ = b :=
  (((Keeps.refl No w).alloc o).frozen (p := ⟨p, i, none⟩) hp fun hk => hk).trans h
theorem beq42 (x : Nat) : ((x : Int) == 42) = decide (x = 42) := by
  rw [Bool.eq_iff_iff]; simp; omega

set_option maxRecDepth 100000 in
set_option maxHeartbeats 4000000 in
theorem jadd_any (R : Blocks) (d : Nat) (v : Value) (p : Nat) (vl : Value) (s : Wn.Dsk) (j : Wn.Jrn) (pv : Value) (ls : List (List UInt8)) (w : World) (h : JS R w d v p vl s j)
    (hx : SL (JB d v p vl) w pv ls) (hsm : ls.flatten.length ≤ 32768) (hR : ∀ k, R k → k < w.heap.size) (hjl : j.l.length ≤ 1048576) :
    Calls Try.prog 28 #[.pointer (some ⟨p, 0, none⟩), pv] w (JP R d v p vl (.int .i64 ((Wn.jAdd j s ls.flatten).1 : Int)) (Wn.jAdd j s ls.flatten).2.2 (Wn.jAdd j s ls.flatten).2.1 w) := by
  obtain ⟨i0, hi, hz0, hz1, hz2⟩ := info_parts info24
  obtain ⟨a, n, c, us, rfl, hn, hnc, hcm, hp, hf, hc0, hc1, hc2, ho, hs, hh⟩ := h.2.facts
  unfold maxLen at hcm
  have hnb : n ≤ 1048576 := by omega
  have hjt := JT.refl h
  obtain ⟨xa, xn, xc, rfl, hxn, hxnc, hxcm⟩ := hx.opened
  have Hx := hid hx
  have Hsm := hid hsm
  have HR := hid hR
  have hlt := h.lt
  unfold maxLen at hxcm
  have hbd := mk_bd hsm
  clear hn hs hf hh hx hsm hR hxn hjl
  have hmk := make_ok _ _ ls w Hx.out Hsm.out
  have hcc := fun W hW => concat_any No (.slice xa xn xc) ls W hW (by have := Hsm.out; omega)
  have Hmk := hid hmk
  have Hcc := hid hcc
  clear hmk hcc
  generalize ls.flatten = x at *
  go_enter Try.func28, Try.ntmps28
  go_wp2_with fail
  refine Hmk.out.mono ?_
  rintro e w1 ⟨a1, r1, c1, rfl, hown1, hk1⟩
  have hjt1 := hjt.keepNo hk1
  have hb1 : SB (Foot d v) w1 (.slice a1 r1 c1) (Wn.mkFrame x) := SV.of_own hown1 fun g hg hfd => by have := (hown1.lt g hg).1; have := hlt g (.inl hfd); omega
  obtain ⟨us1, -, hp1, hf1, hc10, hc11, hc12, -, -⟩ := hjt1.1.2.open_
  have hf12 := hf1 2
  clear hf1 hown1 hc0 hc1 hc2 hjt
  cases hb : j.broken with
  | true =>
    rw [hb] at hc12
    have hja : Wn.jAdd j s x = (42, j, s) := by unfold Wn.jAdd; rw [if_pos hb]
    have Hja := hid hja
    clear hja hb
    go_wp2_with fail
    go_ret
    refine ⟨?_, v, .slice a n c, ?_⟩
    · rw [Hja.out]; rfl
    · rw [Hja.out]; exact hjt1
  | false =>
    rw [hb] at hc12
    have hja : Wn.jAdd j s x = if (Wn.jDo s x).1 = 0 then (0, { j with l := j.l ++ [x] }, (Wn.jDo s x).2) else ((Wn.jDo s x).1, { j with broken := decide ((Wn.jDo s x).1 = 42) }, (Wn.jDo s x).2) := by
      unfold Wn.jAdd; rw [if_neg (by rw [hb]; simp)]
    have hka : Keeps No w1 (w1.alloc (.cells #[.slice a1 r1 c1] 24)) := (Keeps.refl _ _).alloc _
    have hjt1' := hjt1.keepNo hka
    have hsl : SL (Foot d v) (w1.alloc (.cells #[.slice a1 r1 c1] 24)) (.slice (some ⟨w1.heap.size, 0, none⟩) 1 1) [Wn.mkFrame x] :=
      SL.of_all ((SV.newAt w1 w1.heap.size _ _ _ 1 1 _ rfl rfl (by omega) (by unfold maxLen; omega) rfl).mono fun k _ hk => hjt1.1.lt k (.inl hk)) ⟨SV.alloc hb1 _, trivial⟩
    have hfl : ([Wn.mkFrame x] : List (List UInt8)).flatten = Wn.mkFrame x := by simp
    have hpu := dput_any d v s _ [Wn.mkFrame x] _ hjt1'.1.1 hsl
    rw [hfl] at hpu
    have hdo : (Wn.dPut s (Wn.mkFrame x)).1 = 0 → Wn.jDo s x = Wn.dFlush (Wn.dPut s (Wn.mkFrame x)).2 := fun e => by unfold Wn.jDo; rw [if_pos e]
    have hdn : (Wn.dPut s (Wn.mkFrame x)).1 ≠ 0 → Wn.jDo s x = Wn.dPut s (Wn.mkFrame x) := fun e => by unfold Wn.jDo; rw [if_neg e]
    have Hpu := hid hpu
    have Hja := hid hja
    have Hdo := hid hdo
    have Hdn := hid hdn
    clear hpu hja hdo hdn hsl hfl hb
    go_wp2_with fail
    refine Hpu.out.mono ?_
    rintro e w2 ⟨rfl, hdk2⟩
    obtain ⟨v2, hjt2⟩ := hjt1'.disk hdk2
    clear hjt1' hdk2 hjt1 hka Hpu
    generalize Wn.dPut s (Wn.mkFrame x) = q at *
    obtain ⟨e1, s1⟩ := q
    simp only at hjt2 Hdo Hdn ⊢
    obtain ⟨us2, -, hp2, hf2, hc20, hc21, hc22, ho2, hs2⟩ := hjt2.1.2.open_
    have hf22 := hf2 2
    by_cases he1 : e1 = 0
    · have hdo := Hdo.out he1
      rw [hdo] at Hja
      clear hdo Hdo Hdn
      subst he1
      clear hf2
      go_wp2_with fail
      refine (dflush_any d v2 s1 _ hjt2.1.1).mono ?_
      rintro e w3 ⟨rfl, hdk3⟩
      obtain ⟨v3, hjt3⟩ := hjt2.disk hdk3
      clear hjt2 hdk3 hc20 hc21 hc22 hf22 ho2 hs2 hp2
      generalize Wn.dFlush s1 = q at *
      obtain ⟨e2, s2⟩ := q
      simp only at hjt3 Hja ⊢
      obtain ⟨us3, -, hp3, hf3, hc30, hc31, hc32, ho3, hs3⟩ := hjt3.1.2.open_
      have hf32 := hf3 2
      by_cases he2 : e2 = 0
      · subst he2
        have hja : Wn.jAdd j s x = (0, { j with l := j.l ++ [x] }, s2) := by rw [Hja.out]; rfl
        have Hja2 := hid hja
        clear hja Hja
        have hlt3 := hjt3.1.lt
        have hks3 : w.heap.size ≤ w3.heap.size := hjt3.2.1.size
        have hR3 : ∀ k, R k → k < w3.heap.size := fun k hk => by have := HR.out k hk; omega
        have hxv : SL No w3 (.slice xa xn xc) ls := (sl_shift Hx.out hjt3.2.1 (fun _ _ hk => hk) (fun _ _ hk => hk.elim))
        have hf31 := hf3 1
        clear hf3
        go_wp2_with fail
        have hne := hjt3.1.2.ne (by decide)
        have Hne := hid hne
        have Hlt3 := hid (show _ ∧ _ from ⟨hlt3, hR3⟩)
        clear hne hlt3 hR3
        go_region_law (first
          | (go_simp; go_at_call 58; refine (Hcc.out _ (by exact hxv)).mono ?_; rintro e w4 ⟨a4, r4, c4, rfl, hown4, hk4⟩; replace hk4 : Keeps No w3 w4 := ((Keeps.refl No w3).drew).then_ hk4; have hc41 := (hk4.cell (p := ⟨p, 1, none⟩) hp3 (fun hk => hk)).trans hc31; have hf41 := (hk4.frozen (p := ⟨p, 1, none⟩) hp3 (fun hk => hk)).trans hf31; have hp4 := Nat.lt_of_lt_of_le hp3 hk4.size; have ho4 := ownsRow_keep ho3 hk4 (fun _ _ hk => hk); go_wp2_with fail)
          | (refine step_app _ (by rfl) (.tmp 56) (.tmp 59) _ (by rfl) 0 24 i0 _ 24 Try.underlying22 hi hz0 hz1 hz2 (by rfl) _ n us3 (by rfl) (by exact World.ownsRow.alloc ho4 _) No _ [.slice a4 r4 c4] (by rfl) (by exact SV.no (SV.newAt w4 w4.heap.size _ _ _ 1 1 _ rfl rfl (by omega) (by unfold maxLen; omega) rfl)) (one_cell rfl) (n + 1) (by rfl) (by unfold maxLen; omega) (by omega) (Nat.zero_le _) ?_; intro a6 c6 w6 hown6 hg6 hb6; have hc6 := grown_cell hg6 (by simp; omega) Hne.out (alloc_cell hc41); have hf6 := grown_frozen hg6 (by simp; omega) Hne.out (alloc_frozen hp4 hf41)))
        all_goals
          have hu : SB (Old w3) (w4.alloc (.cells #[.slice a4 r4 c4] 24)) (.slice a4 r4 c4) x := SV.alloc (SV.fresh (w0 := w3) hown4 (Nat.le_refl _)) _
          have hsn := JT.snoc hjt3 Hlt3.out.2 ho3 (hk4.alloc _) hu hown6 hg6 hb6 hs3
          have Hsn := hid hsn
          clear hsn hu
          go_wp2_with fail
          go_ret
          refine ⟨?_, v3, .slice a6 (n + 1) c6, ?_⟩
          · rw [Hja2.out]; rfl
          · rw [Hja2.out]; exact Hsn.out
      · have hja : Wn.jAdd j s x = (e2, { j with broken := decide (e2 = 42) }, s2) := by rw [Hja.out, if_neg he2]
        have hz : ((e2 : Int) == 0) = false := by rw [beq_eq_false_iff_ne]; omega
        have Hja2 := hid hja
        have hbr := hjt3.broke (decide (e2 = 42))
        have Hbr := hid hbr
        clear hja he2 Hja hf3 hbr
        go_wp2_with fail
        go_ret
        refine ⟨?_, v3, .slice a n c, ?_⟩
        · rw [Hja2.out]; rfl
        · rw [Hja2.out, beq42]; exact Hbr.out
    · have hdn := Hdn.out he1
      rw [hdn] at Hja
      have hja : Wn.jAdd j s x = (e1, { j with broken := decide (e1 = 42) }, s1) := by rw [Hja.out, if_neg he1]
      have hz : ((e1 : Int) == 0) = false := by rw [beq_eq_false_iff_ne]; omega
      have Hja2 := hid hja
      have hbr := hjt2.broke (decide (e1 = 42))
      have Hbr := hid hbr
      clear hja he1 hdn Hja Hdn Hdo hf2 hbr
      go_wp2_with fail
      go_ret
      refine ⟨?_, v2, .slice a n c, ?_⟩
      · rw [Hja2.out]; rfl
      · rw [Hja2.out, beq42]; exact Hbr.out
end Go.Proofs.Ytkblcdjkabiliaa
