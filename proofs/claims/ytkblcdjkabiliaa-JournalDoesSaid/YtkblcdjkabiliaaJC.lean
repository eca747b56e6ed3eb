/- The walk through journal.Open. -/
import Derived.Test.YtkblcdjkabiliaaJB
import Derived.Test.YtkblcdjkabiliaaWK
import Derived.WalkMore
namespace Go.Proofs.Ytkblcdjkabiliaa
open Go.RowKit Wm

def Held (p : Prop) : Prop := p
theorem hold {p : Prop} (h : Held p) : p := h
/-- A new journal on a disk. -/
def PJOpen (R : Blocks) (d : Nat) (v : Value) (s' : Wn.Dsk) (j' : Wn.Jrn) (w : World) (e : Ending) (w' : World) : Prop :=
  ∃ p, e = .returned (.tuple #[.pointer (some ⟨p, 0, none⟩), .int .i64 0]) ∧ ∃ v' vl', JS R w' d v' p vl' s' j' ∧ Keeps (Foot d v) w w' ∧ ∀ k, JB d v' p vl' k → Foot d v k ∨ w.heap.size ≤ k

set_option maxRecDepth 100000 in
set_option maxHeartbeats 2000000 in
theorem jopen_any (R : Blocks) (d : Nat) (v : Value) (s : Wn.Dsk) (w : World) (h : DiskAt w d v s) (hd : s.down = false) (hR : ∀ k, R k → k < w.heap.size) :
    Calls Try.prog 26 #[.pointer (some ⟨d, 0, none⟩)] w (PJOpen R d v (Wn.jOpen s).2 (Wn.jOpen s).1 w) := by
  obtain ⟨i0, hi, hz0, hz1, hz2⟩ := info_parts info24
  have hlt := h.lt
  have hwf := h.wf
  have Hd := hid hd
  have Hwf := hid hwf
  clear hd hwf
  go_enter Try.func26, Try.ntmps26
  go_wp2_with fail
  go_step3
  go_wp2_with fail
  refine (dbytes_any d v s _ h).mono ?_
  rintro e w1 (⟨hdn, -⟩ | ⟨-, a1, r1, c1, rfl, hown1, hk1⟩)
  · rw [Hd.out] at hdn; cases hdn
  have hb1 : SB No w1 (.slice a1 r1 c1) s.b := SV.of_own hown1 (fun _ _ hk => hk)
  have hr1 := hb1.len
  have hc1 := hb1.cap
  unfold maxLen at hc1
  have hbl : s.b.length ≤ 1048576 := by have := Hwf.out; unfold Wn.Dsk.wf at this; omega
  have hr1m : r1 ≤ 1048576 := by omega
  have Hr1 := hid hr1
  have hd1 := h.keep hk1 fun _ _ hk => hk
  have hs1 := hk1.size
  obtain ⟨hc1a, hc1b⟩ := hc1
  clear hr1 hown1 hbl
  go_wp2_with fail
  go_step3
  go_wp2_with fail
  go_loopw [7] (fun i wr => ∃ (k : Nat) (out : List (List UInt8)) (a : Option Addr) (n c : Nat) (us : List Value), k ≤ r1 ∧ i = .int .i64 k ∧ Wn.Reads s.b out k ∧
    wr.heap[w1.heap.size]? = some (.cells #[.pointer (some ⟨d, 0, none⟩), .slice a n c, .bool false] 84 (0, 0)) ∧
    wr.ownsRow w1.heap.size 24 1 (.slice a n c) n us ∧ SLV (U (Foot w1.heap.size (.slice a n c)) (Old w)) wr us out ∧ Keeps No w1 wr) (fun i _ => r1 - (intOf i).toNat)
  case atStart =>
    exact ⟨0, [], none, 0, 0, [], Nat.zero_le _, rfl, Wn.Reads.start _, heap_alloc_new w1 _, World.ownsRow_nil _ _ _ _, SLV.nil _ _, (Keeps.refl _ _).alloc _⟩
  case round =>
    obtain ⟨k, out, a, n, c, us, hk, rfl, hrd, hh, ho, hs, hK⟩ := hrel
    have hKs := hK.size
    have hpl : w1.heap.size < wr.heap.size := by
      rcases Nat.lt_or_ge w1.heap.size wr.heap.size with hl | hl
      · exact hl
      · rw [Array.getElem?_eq_none hl] at hh; cases hh
    have fin : ∀ (wx : World), Keeps No wr wx → Wn.jRead s.b = (out, k) → ∀ e w', PDo d v (.int .i64 ((Wn.dCut s (k : Int)).1 : Int)) (Wn.dCut s (k : Int)).2 wx e w' →
        ∃ v', e = .returned (.int .i64 0) ∧ JS R w' d v' w1.heap.size (.slice a n c) (Wn.jOpen s).2 (Wn.jOpen s).1 ∧ Keeps (Foot d v) w w' ∧ ∀ k, JB d v' w1.heap.size (.slice a n c) k → Foot d v k ∨ w.heap.size ≤ k := by
      rintro wx hx hj e w' ⟨rfl, hdk⟩
      have hcut := Wn.dCut_eq s k Hd.out (by have := hrd.1; omega)
      have hjo : Wn.jOpen s = ({ l := out, broken := false }, (Wn.dCut s (k : Int)).2) := by unfold Wn.jOpen; rw [hj]
      have hKx : Keeps No w1 wx := hK.then_ hx
      obtain ⟨v', g1, g2, g3⟩ := hdk
      have hpx : w1.heap.size < wx.heap.size := Nat.lt_of_lt_of_le hpl hx.size
      refine ⟨v', by rw [hcut]; rfl, ⟨by rw [hjo]; exact g1, ?_⟩, (hk1.weak.trans hKx fun _ _ hk => hk.elim).trans g2 fun _ _ hk => hk, ?_⟩
      · rw [hjo]
        have hox := ownsRow_keep ho hx fun _ _ hk => hk
        refine ⟨a, n, c, us, rfl, ?_, ?_, ?_⟩
        · exact (g2.block _ hpx fun hf => by have := hlt _ hf; omega).trans ((hx.block _ hpl fun hk => hk).trans hh)
        · exact ownsRow_base (ownsRow_keep hox g2 fun g hg hf => by have := (hox.lt g hg).1; have := hlt g hf; omega) fun g _ => Nat.zero_le _
        · have h1 : SLV (U (Foot w1.heap.size (.slice a n c)) (Old w)) wx us out := hs.shift hx (fun _ _ hk => hk.elim) fun _ _ hk => hk
          refine h1.shift g2 (fun q _ hq => .inr (hlt q hq)) fun q hl hq => ?_
          rcases hq with hq | hq | hq
          · exact .inl hq
          · rcases g3 q hq with h | h
            · exact .inr (hlt q h)
            · omega
          · exact .inr (hR q hq)
      · rintro q (hq | rfl | hq)
        · rcases g3 q hq with h | h
          · exact .inl h
          · have := hx.size; exact .inr (by omega)
        · exact .inr hs1
        · have := (ho.lt q hq).1; exact .inr (by omega)
    have Fin := hid fin
    have Hrd := hid hrd
    have hdx : DiskAt wr d v s := hd1.keep hK fun _ _ hk => hk
    clear fin hrd
    by_cases hlt2 : k < r1
    · have hb2 : SB No wr (.slice a1 r1 c1) s.b := SV.keep hb1 hK fun _ _ hk => hk
      obtain ⟨b2, off2, rfl, -, -⟩ := hb2.at_ (by omega)
      have hdr : SB No wr (.slice (some ⟨b2, off2 + k, none⟩) (r1 - k) (c1 - k)) (s.b.drop k) := by
        have := SV.drop hb2 (k := k) (by omega) (a' := some ⟨b2, off2 + k, none⟩) (fun _ b off e => by cases e; rfl)
        rw [← List.map_drop] at this; exact this
      have hck : ¬ c1 = k := by omega
      have hdl : (s.b.drop k).length ≤ 16777216 := by rw [List.length_drop]; have := Hr1.out; omega
      have Hdl := hid hdl
      clear hdl
      go_wp2_with fail
      refine (next_any No _ _ _ hdr Hdl.out).mono ?_
      rintro e w5 ⟨r5, rfl, ht5, hk5⟩
      obtain ⟨a5, n5, c5, rfl, -, -, -⟩ := ht5.opened
      have hst := Hrd.out.stop
      have hsp := Hrd.out.step
      have hfo := Wn.rdFrame_ok (b := s.b.drop k)
      have hdl := Hdl.out
      rw [List.length_drop] at hfo
      generalize Wn.rdFrame (s.b.drop k) = q at *
      obtain ⟨x, m, z⟩ := q
      simp only at hst hsp hfo ht5 ⊢
      by_cases hz : z = 0
      · have hfo := hfo hz
        have hsp := hsp hz
        have hkm : k + m ≤ r1 := by have := Hr1.out; omega
        have hm5 := hfo.1
        subst hz
        have Hsp := hid hsp
        have hdx5 : DiskAt w5 d v s := hdx.keep hk5 fun _ _ hk => hk
        have hh5 : w5.heap[w1.heap.size]? = some (.cells #[.pointer (some ⟨d, 0, none⟩), .slice a n c, .bool false] 84 (0, 0)) := (hk5.block _ hpl fun hk => hk).trans hh
        have ho5 := ownsRow_keep ho hk5 fun _ _ hk => hk
        have hs5 : SLV (U (Foot w1.heap.size (.slice a n c)) (Old w)) w5 us out := hs.shift hk5 (fun _ _ hk => hk.elim) fun _ _ hk => hk
        have ht5' : SB (U (Foot w1.heap.size (.slice a n c)) (Old w)) w5 (.slice a5 n5 c5) x := SV.mono ht5 fun q _ hq => by
          unfold Old
          rcases hq with (rfl | hq) | hq
          · exact hpl
          · exact (ho.lt q hq).2
          · unfold Old at hq; omega
        have hc0 : w5.cell? ⟨w1.heap.size, 0, none⟩ = some (.pointer (some ⟨d, 0, none⟩)) := by rw [cell_of_row _ _ 0 _ _ _ hh5]; rfl
        have hc1' : w5.cell? ⟨w1.heap.size, 1, none⟩ = some (.slice a n c) := by rw [cell_of_row _ _ 1 _ _ _ hh5]; rfl
        have hks5 := hk5.size
        have hnl : n = out.length := by have := ho.1; have := hs.1; omega
        have hnb : n ≤ 1048576 := by have := Hrd.out; unfold Wn.Reads at this; omega
        have Hh5 := hid hh5
        have Hs5 := hid hs5
        have Ht5 := hid ht5'
        clear hst hsp hfo hdl hh ho hs hdr hb2 hdx hnl ht5 hh5 hs5 ht5'
        go_wp2_with (at_builtin; refine hold ?_)
        unfold Held
        refine wpList_app _ rfl (.tmp 41) (.tmp 43) _ rfl w1.heap.size 24 i0 _ 24 Try.underlying22 hi hz0 hz1 hz2 rfl _ n us rfl (World.ownsRow.alloc ho5 _) No _ [.slice a5 n5 c5] rfl (SV.no (SV.newAt w5 w5.heap.size _ _ _ 1 1 _ rfl rfl (by omega) (by unfold maxLen; omega) rfl)) (one_cell rfl) (n + 1) rfl (by unfold maxLen; omega) (by omega) (by simp; omega) ?_
        intro a6 c6 w6 hown6 hg6 hb6
        have hsn := fun hu => JnlAt.snoc (R := Old w) (j := ⟨out, false⟩) (x := x) Hh5.out (by decide) (ownsRow_base ho5 fun _ _ => Nat.zero_le _) Hs5.out ((Keeps.refl No w5).alloc _) hu (ownsRow_base hown6 fun _ _ => Nat.zero_le _) hg6 hb6
        have Hsn := hid (hsn (SV.alloc Ht5.out _))
        clear hsn
        have hh6 := (hg6.block w1.heap.size (by simp; omega) (fun e => row_ne Hh5.out (by decide) ho5 e.symm rfl)).trans ((Below.heap_alloc w5 _ _ (by omega)).trans Hh5.out)
        have hc6 : w6.cell? ⟨w1.heap.size, 1, none⟩ = some (.slice a n c) := by rw [cell_of_row _ _ 1 _ _ _ hh6]; rfl
        have hf6 : w6.frozen? ⟨w1.heap.size, 1, none⟩ = false := frozen_of_row _ _ _ _ _ hh6
        clear hh6
        go_wp2_with fail
        go_roundw
        case rel =>
          obtain ⟨⟨_, _, _, us2, e1, g1, g2, g3⟩, g4, g5⟩ := Hsn.out
          injection e1 with e1 e2 e3
          subst e1; subst e2; subst e3
          refine ⟨k + m, out ++ [x], a6, n + 1, c6, us2, hkm, by go_num, Hsp.out trivial, g1, ownsRow_base g2 fun g hg => ?_, g3, ?_⟩
          · rcases g5 g (.inr hg) with h | h
            · rcases h with rfl | h
              · exact Nat.le_refl _
              · exact (ho5.lt g h).1
            · simp at h; omega
          · refine (hK.then_ hk5).trans g4 fun q hq hf => ?_
            rcases hf with rfl | hf
            · omega
            · have := (ho5.lt q hf).1; omega
        case measure => simp [intOf]; omega
      · have hj := hst hz
        have hz0' : ((z : Int) == 0) = false := by rw [beq_eq_false_iff_ne]; omega
        have Hj := hid hj
        have hdx5 : DiskAt w5 d v s := hdx.keep hk5 fun _ _ hk => hk
        clear hj hst hsp hfo hdl hz
        go_wp2_with fail
        refine (dcut_any d v s _ _ hdx5).mono ?_
        intro e w6 hpd
        obtain ⟨v6, rfl, hj6, hk6, hf6⟩ := Fin.out _ hk5 Hj.out e w6 hpd
        clear hpd
        go_wp2_with fail
        try rw [Exit.noGoto_ret]
        go_ret2
        exact ⟨w1.heap.size, rfl, v6, _, hj6, hk6, hf6⟩
    · have hjr := Hrd.out.end_ (by have := Hr1.out; omega)
      have Hjr := hid hjr
      clear hjr
      go_wp2_with fail
      refine (dcut_any d v s _ _ hdx).mono ?_
      intro e w6 hpd
      obtain ⟨v6, rfl, hj6, hk6, hf6⟩ := Fin.out _ (Keeps.refl _ _) Hjr.out e w6 hpd
      clear hpd
      go_wp2_with fail
      try rw [Exit.noGoto_ret]
      go_ret2
      exact ⟨w1.heap.size, rfl, v6, _, hj6, hk6, hf6⟩
end Go.Proofs.Ytkblcdjkabiliaa
