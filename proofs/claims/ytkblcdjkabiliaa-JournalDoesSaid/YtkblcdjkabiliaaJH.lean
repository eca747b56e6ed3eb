/- The walks through the reference's journal. -/
import Derived.Test.YtkblcdjkabiliaaJG
import Derived.Test.YtkblcdjkabiliaaWS
import Derived.Deep.RegionHeld3
namespace Go.Proofs.Ytkblcdjkabiliaa
open Go.RowKit Wm

/-- What the reference reads: the records lie where the bytes do. -/
def PRead (M : Blocks) (b : List UInt8) (w : World) (e : Ending) (w' : World) : Prop :=
  ∃ a n c us, e = .returned (.tuple #[.slice a n c, .int .i64 ((Wn.jRead b).2 : Int)]) ∧ w'.ownsRow w.heap.size 24 1 (.slice a n c) n us ∧ SLV (U M (Ow (.slice a n c))) w' us (Wn.jRead b).1 ∧ Keeps No w w'
set_option maxRecDepth 20000 in
set_option maxHeartbeats 2000000 in
theorem rread_any (M : Blocks) (v : Value) (b : List UInt8) (w : World) (h : SB M w v b) (hsz : b.length ≤ 1048576) :
    Calls Try.prog 57 #[v] w (PRead M b w) := by
  obtain ⟨i0, hi, hz0, hz1, hz2⟩ := info_parts info24
  obtain ⟨a1, r1, c1, rfl, hr1, hc1a, hc1b⟩ := h.opened
  unfold maxLen at hc1b
  have hr1m : r1 ≤ 1048576 := by omega
  have Hr1 := hid hr1
  clear hr1
  go_enter Try.func57, Try.ntmps57
  go_wp2_with fail
  go_loopw [4, 5] (fun u i wr => ∃ (k : Nat) (out : List (List UInt8)) (a : Option Addr) (n c : Nat) (us : List Value), k ≤ r1 ∧ i = .int .i64 k ∧ u = .slice a n c ∧ Wn.Reads b out k ∧
    wr.ownsRow w.heap.size 24 1 (.slice a n c) n us ∧ SLV (U M (Ow (.slice a n c))) wr us out ∧ Keeps No w wr) (fun _ i _ => r1 - (intOf i).toNat)
  case atStart => exact ⟨0, [], none, 0, 0, [], Nat.zero_le _, rfl, rfl, Wn.Reads.start _, World.ownsRow_nil _ _ _ _, SLV.nil _ _, Keeps.refl _ _⟩
  case round =>
    obtain ⟨k, out, a, n, c, us, hk, rfl, rfl, hrd, ho, hs, hK⟩ := hrel
    have hKs := hK.size
    have fin : Wn.jRead b = (out, k) → PRead M b w (.returned (.tuple #[.slice a n c, .int .i64 (k : Int)])) wr := fun hj => by
      refine ⟨a, n, c, us, by rw [hj], ho, by rw [hj]; exact hs, hK⟩
    have Fin := hid fin
    have Hrd := hid hrd
    clear fin hrd
    by_cases hlt2 : k < r1
    · have hb2 : SB M wr (.slice a1 r1 c1) b := SV.keep h hK fun _ _ hk => hk.elim
      obtain ⟨b2, off2, rfl, -, -⟩ := hb2.at_ (by omega)
      have hdr : SB M wr (.slice (some ⟨b2, off2 + k, none⟩) (r1 - k) (c1 - k)) (b.drop k) := by
        have := SV.drop hb2 (k := k) (by omega) (a' := some ⟨b2, off2 + k, none⟩) (fun _ b off e => by cases e; rfl)
        rw [← List.map_drop] at this; exact this
      have hck : ¬ c1 = k := by omega
      have hdl : (b.drop k).length ≤ 16777216 := by rw [List.length_drop]; have := Hr1.out; omega
      -- the load's bytes lie in no block of the row either
      have hdr' : SB (U M (Ow (.slice a n c))) wr (.slice (some ⟨b2, off2 + k, none⟩) (r1 - k) (c1 - k)) (b.drop k) := by
        obtain ⟨b3, off3, e3, hb3, hat3⟩ := h.at_ (by omega)
        injection e3 with e3
        obtain ⟨e4, e5⟩ : b2 = b3 ∧ off2 = off3 := by injection e3 with e4 e5; exact ⟨e4, e5⟩
        obtain ⟨a9, n9, c9, e9, h91, h92, h93, h94⟩ := hdr
        injection e9 with f1 f2 f3
        subst f1; subst f2; subst f3
        refine SV.mk h91 h92 h93 fun h0 => ?_
        obtain ⟨b5, off5, e5, hb5, hat5⟩ := h94 h0
        refine ⟨b5, off5, e5, fun hM => ?_, hat5⟩
        rcases hM with hM | hM
        · exact hb5 hM
        · injection e5 with e5
          obtain rfl : b2 = b5 := by injection e5
          have hbl : b2 < w.heap.size := by
            have hlen : 0 < b.length := by have := Hr1.out; omega
            have := hat3 0 b[0] (List.getElem?_eq_getElem hlen)
            rw [e4]; exact cell_lt this
          have := (ho.lt _ hM).1; omega
      have Hdl := hid hdl
      clear hdl hdr
      go_wp2_with fail
      refine (rnext_any (U M (Ow (.slice a n c))) _ _ _ hdr' Hdl.out).mono ?_
      rintro e w5 ⟨r5, rfl, ht5, hk5⟩
      obtain ⟨a5, n5, c5, rfl, -, -, -⟩ := ht5.opened
      have hst := Hrd.out.stop
      have hsp := Hrd.out.step
      have hfo := Wn.rdFrame_ok (b := b.drop k)
      rw [List.length_drop] at hfo
      generalize Wn.rdFrame (b.drop k) = q at *
      obtain ⟨x, m, z⟩ := q
      simp only at hst hsp hfo ht5 ⊢
      by_cases hz : z = 0
      · have hfo := hfo hz
        have hsp := hsp hz
        have hkm : k + m ≤ r1 := by have := Hr1.out; omega
        have hm5 := hfo.1
        subst hz
        have Hsp := hid hsp
        have ho5 := ownsRow_keep ho hk5 fun _ _ hk => hk
        have hs5 : SLV (U M (Ow (.slice a n c))) w5 us out := hs.shift hk5 (fun _ _ hk => hk.elim) fun _ _ hk => hk
        have hks5 := hk5.size
        have hnl : n = out.length := by have := ho.1; have := hs.1; omega
        have hnb : n ≤ 1048576 := by have := Hrd.out; unfold Wn.Reads at this; omega
        have Hs5 := hid hs5
        have Ht5 := hid ht5
        clear hst hsp hfo ho hs hb2 hnl ht5 hs5 hdr'
        go_wp2_with (at_builtin; refine hold ?_)
        unfold Held
        refine wpList_app _ rfl (.tmp 25) (.tmp 27) _ rfl w.heap.size 24 i0 _ 24 Try.underlying22 hi hz0 hz1 hz2 rfl _ n us rfl (World.ownsRow.alloc ho5 _) No _ [.slice a5 n5 c5] rfl (SV.no (SV.newAt w5 w5.heap.size _ _ _ 1 1 _ rfl rfl (by omega) (by unfold maxLen; omega) rfl)) (one_cell rfl) (n + 1) rfl (by unfold maxLen; omega) (by omega) (by simp; omega) ?_
        intro a6 c6 w6 hown6 hg6 hb6
        have hs6 : SLV (U M (Ow (.slice a6 (n + 1) c6))) w6 (us ++ [.slice a5 n5 c5]) (out ++ [x]) := by
          have hka : Keeps No w5 (w5.alloc (.cells #[.slice a5 n5 c5] 24)) := (Keeps.refl _ _).alloc _
          have hK6 : Keeps (Ow (.slice a n c)) (w5.alloc (.cells #[.slice a5 n5 c5] 24)) w6 := Keeps.of_grown hg6 fun g e => e
          have hfr : ∀ g, Ow (.slice a6 (n + 1) c6) g → Ow (.slice a n c) g ∨ w5.heap.size + 1 ≤ g := by
            intro g e
            unfold Ow at e ⊢
            rcases hb6 with hb | hb
            · exact .inl (hb ▸ e)
            · rw [hb] at e; injection e with e; right; rw [← e]; simp
          have mv : ∀ k, k < (w5.alloc (.cells #[.slice a5 n5 c5] 24)).heap.size → U M (Ow (.slice a6 (n + 1) c6)) k → U M (Ow (.slice a n c)) k := fun g hl hg => by
            rcases hg with hg | hg
            · exact .inl hg
            · rcases hfr g hg with h | h
              · exact .inr h
              · simp at hl; omega
          refine SLV.snoc ?_ ?_
          · have h1 := (Hs5.out.shift (M' := U M (Ow (.slice a n c))) hka (fun _ _ hk => hk.elim) fun _ _ hk => hk)
            exact h1.shift hK6 (fun g _ hg => .inr hg) mv
          · exact sv_shift (SV.alloc Ht5.out _) hK6 (fun g _ hg => .inr hg) mv
        have Hs6 := hid hs6
        clear hs6
        go_wp2_with fail
        go_roundw
        case rel => exact ⟨k + m, out ++ [x], a6, n + 1, c6, _, hkm, by go_num, rfl, Hsp.out trivial, hown6, Hs6.out, ((hK.then_ hk5).alloc _).app (World.ownsRow.alloc ho5 _) (Nat.le_refl _) hg6⟩
        case measure => simp [intOf]; omega
      · have hj := hst hz
        have hz0' : ((z : Int) == 0) = false := by rw [beq_eq_false_iff_ne]; omega
        have Hj := hid hj
        have ho5 := ownsRow_keep ho hk5 fun _ _ hk => hk
        have hs5 : SLV (U M (Ow (.slice a n c))) w5 us out := hs.shift hk5 (fun _ _ hk => hk.elim) fun _ _ hk => hk
        clear hj hst hsp hfo hz
        go_wp2_with fail
        go_ret2
        exact ⟨a, n, c, us, by rw [Hj.out]; rfl, ho5, by rw [Hj.out]; exact hs5, hK.then_ hk5⟩
    · have hjr := Hrd.out.end_ (by have := Hr1.out; omega)
      have Hjr := hid hjr
      clear hjr
      go_wp2_with fail
      go_ret2
      exact Fin.out Hjr.out

/-- The reference's journal's blocks, its disk's, and what else may turn. -/
def RM (q p : Nat) (v : Value) (L : Blocks) : Blocks := U (Foot p v) (U (Only q) L)
def RS (L : Blocks) (w : World) (q p : Nat) (v : Value) (s : Wn.Dsk) (j : Wn.Jrn) : Prop := RDisk w q (RM q p v L) s ∧ JnlAt 56 (RM q p v L) w p q v j
theorem RS.apart {L : Blocks} {w : World} {q p : Nat} {v : Value} {s : Wn.Dsk} {j : Wn.Jrn} (h : RS L w q p v s j) : ∀ k, Foot p v k → k ≠ q := by
  obtain ⟨⟨a, n, c, hh, _⟩, ⟨a', n', c', us, rfl, hh', ho', _⟩⟩ := h
  rintro k (rfl | hk) rfl
  · rw [hh] at hh'; injection hh' with e; injection e with _ e; exact absurd e (by decide)
  · exact row_ne hh (by decide) ho' hk rfl
theorem RS.lt {L : Blocks} {w : World} {q p : Nat} {v : Value} {s : Wn.Dsk} {j : Wn.Jrn} (h : RS L w q p v s j) : ∀ k, U (Foot p v) (Only q) k → k < w.heap.size := by
  rintro k (hk | hk)
  · exact h.2.lt k hk
  · unfold Only at hk; subst hk; exact h.1.lt
theorem RS.keep {L L' K : Blocks} {w w' : World} {q p : Nat} {v : Value} {s : Wn.Dsk} {j : Wn.Jrn} (h : RS L w q p v s j) (hk : Keeps K w w') (hf : ∀ k, U (Foot p v) (Only q) k → ¬ K k) (hK : ∀ k, k < w.heap.size → K k → L k) (hm : ∀ k, k < w.heap.size → L' k → L k) : RS L' w' q p v s j := by
  have h1 : ∀ k, k < w.heap.size → K k → RM q p v L k := fun k hl hk => .inr (.inr (hK k hl hk))
  have h2 : ∀ k, k < w.heap.size → RM q p v L' k → RM q p v L k := fun k hl hk => by
    rcases hk with hk | hk | hk
    · exact .inl hk
    · exact .inr (.inl hk)
    · exact .inr (.inr (hm k hl hk))
  exact ⟨h.1.keep hk (hf q (.inr rfl)) h1 h2 (.inr (.inl rfl)), h.2.keep hk (fun k hk => hf k (.inl hk)) h1 h2⟩
theorem RS.keepNo {L : Blocks} {w w' : World} {q p : Nat} {v : Value} {s : Wn.Dsk} {j : Wn.Jrn} (h : RS L w q p v s j) (hk : Keeps No w w') : RS L w' q p v s j := h.keep hk (fun _ _ hk => hk) (fun _ _ hk => hk.elim) fun _ _ hk => hk
/-- The reference's disk turns alone. -/
theorem RS.disk {L : Blocks} {w w' : World} {q p : Nat} {v : Value} {s s' : Wn.Dsk} {j : Wn.Jrn} (h : RS L w q p v s j) (hd : RDisk w' q (RM q p v L) s') (hk : Keeps (Only q) w w') : RS L w' q p v s' j :=
  ⟨hd, h.2.keep hk (fun _ hf e => h.apart _ hf e) (fun _ _ e => .inr (.inl e)) fun _ _ hk => hk⟩
/-- What an operation on the reference's journal leaves. -/
def RP (L : Blocks) (q p : Nat) (v : Value) (r : Value) (s' : Wn.Dsk) (j' : Wn.Jrn) (w : World) (e : Ending) (w' : World) : Prop :=
  e = .returned r ∧ ∃ v', RS L w' q p v' s' j' ∧ Keeps (U (Foot p v) (Only q)) w w' ∧ ∀ k, Foot p v' k → Foot p v k ∨ w.heap.size ≤ k
def RPOpen (L : Blocks) (q : Nat) (s' : Wn.Dsk) (j' : Wn.Jrn) (w : World) (e : Ending) (w' : World) : Prop :=
  ∃ p, e = .returned (.pointer (some ⟨p, 0, none⟩)) ∧ ∃ v', RS L w' q p v' s' j' ∧ Keeps (Only q) w w' ∧ ∀ k, Foot p v' k → w.heap.size ≤ k

set_option maxRecDepth 20000 in
set_option maxHeartbeats 2000000 in
theorem ropen_any' (L : Blocks) (q : Nat) (s : Wn.Dsk) (w : World) (h : RDisk w q (U (Only q) L) s) :
    Calls Try.prog 27 #[.pointer (some ⟨q, 0, none⟩)] w (RPOpen L q (Wn.jOpen s).2 (Wn.jOpen s).1 w) := by
  obtain ⟨ra, rn, rc, hrn, hrnc, hrcm, hq, hqf, hq0, hq1, hq2, hq3, hq4, hq5, hq6, hqb, hMq, hops, hw1, hw2, hw3, hh⟩ := h.facts
  have hbl : s.b.length ≤ 1048576 := by omega
  have hrd := rread_any _ _ _ w hqb hbl
  have hcut := fun M w1 (h1 : RDisk w1 q M s) => rcut_any q M s ((Wn.jRead s.b).2 : Int) w1 h1
  have hjo : Wn.jOpen s = ({ l := (Wn.jRead s.b).1, broken := false }, (Wn.dCut s ((Wn.jRead s.b).2 : Int)).2) := rfl
  rw [hjo]
  unfold PRead at hrd
  clear hjo
  generalize Wn.jRead s.b = rd at *
  obtain ⟨rl, rk⟩ := rd
  simp only at hrd hcut ⊢
  generalize Wn.dCut s (rk : Int) = cq at *
  obtain ⟨ce, s2⟩ := cq
  simp only at hcut ⊢
  have Hrd := hid hrd
  have Hcut := hid hcut
  clear hcut hrn hqf hq1 hq2 hq3 hq4 hq5 hq6 hqb hMq hops hw1 hw2 hw3 hh hrd
  go_enter Try.func27, Try.ntmps27
  go_wp2_with fail
  refine Hrd.out.mono ?_
  rintro e w1 ⟨a, n, c, us, rfl, ho1, hs1, hk1⟩
  have hr1 : RDisk w1 q (U (U (Only q) L) (Ow (.slice a n c))) s := h.keep hk1 (fun hk => hk) (fun _ _ hk => hk.elim) (fun k hl hk => hk.elim id fun hk => by have := (ho1.lt k hk).1; omega) (.inl (.inl rfl))
  go_wp2_with fail
  refine (Hcut.out _ _ hr1).mono ?_
  rintro e w2 ⟨rfl, hr2, hk2⟩
  have ho2 := ownsRow_keep ho1 hk2 fun g hg e => by unfold Only at e; have := (ho1.lt g hg).1; omega
  have hs2 : SLV (U (U (Only q) L) (Ow (.slice a n c))) w2 us rl := hs1.shift hk2 (fun k _ e => .inl (.inl e)) fun _ _ hk => hk
  go_wp2_with fail
  go_ret
  have hmv : ∀ k, k < w2.heap.size → RM q w2.heap.size (.slice a n c) L k → U (U (Only q) L) (Ow (.slice a n c)) k := by
    rintro k hl ((rfl | hk) | hk | hk)
    · omega
    · exact .inr hk
    · exact .inl (.inl hk)
    · exact .inl (.inr hk)
  have hka : Keeps No w2 (w2.alloc (.cells #[.pointer (some ⟨q, 0, none⟩), .slice a n c, .bool false] 56)) := (Keeps.refl _ _).alloc _
  refine ⟨w2.heap.size, rfl, .slice a n c, ⟨hr2.keep hka (fun hk => hk) (fun _ _ hk => hk.elim) hmv (.inr (.inl rfl)), a, n, c, us, rfl, heap_alloc_new w2 _, ownsRow_base (World.ownsRow.alloc ho2 _) fun _ _ => Nat.zero_le _, hs2.shift hka (fun _ _ hk => hk.elim) hmv⟩, ?_, ?_⟩
  · exact ((hk1.weak).trans hk2 fun _ _ hk => hk).then_ hka
  · rintro k (rfl | hk)
    · exact Nat.le_trans hk1.size hk2.size
    · exact (ho1.lt k hk).1
end Go.Proofs.Ytkblcdjkabiliaa
