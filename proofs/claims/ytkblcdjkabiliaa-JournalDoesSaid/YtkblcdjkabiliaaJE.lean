/- The walks through the journal's Records and Len, and through law 28's same, long and awake. -/
import Derived.Test.YtkblcdjkabiliaaJD
namespace Go.Proofs.Ytkblcdjkabiliaa
open Go.RowKit Wm

theorem jlen_any (T : TypeId) (M : Blocks) (p d : Nat) (v : Value) (j : Wn.Jrn) (w : World) (h : JnlAt T M w p d v j) :
    Calls Try.prog 36 #[.pointer (some ⟨p, 0, none⟩)] w fun e w' => e = .returned (.int .i64 (j.l.length : Int)) ∧ w = w' := by
  obtain ⟨a, n, c, us, rfl, hn, hnc, hcm, hp, hf, hc0, hc1, hc2, ho, hs, hh⟩ := h.facts
  have Hn := hid hn
  clear hn hf hc0 hc2 ho hs hh
  go_enter Try.func36, Try.ntmps36
  go_wp2
  go_ret
  rw [← Hn.out]
  exact ⟨rfl, rfl⟩

/-- The records: each a copy of its own. -/
def PRecs (ls : List (List UInt8)) (w : World) (e : Ending) (w' : World) : Prop := ∃ a c, e = .returned (.slice a ls.length c) ∧ SL (Old w) w' (.slice a ls.length c) ls ∧ Keeps No w w'
set_option maxRecDepth 20000 in
set_option maxHeartbeats 2000000 in
theorem jrecs_any (T : TypeId) (M : Blocks) (p d : Nat) (v : Value) (j : Wn.Jrn) (w : World) (h : JnlAt T M w p d v j) (hsz : ∀ x ∈ j.l, x.length ≤ 16777216) (hjl : j.l.length ≤ 1048576) :
    Calls Try.prog 35 #[.pointer (some ⟨p, 0, none⟩)] w (PRecs j.l w) := by
  obtain ⟨i0, hi, hz0, hz1, hz2⟩ := info_parts info24
  have hsl := h.sl
  obtain ⟨a, n, c, us, rfl, hn, hnc, hcm, hp, hf, hc0, hc1, hc2, ho, hs, hh⟩ := h.facts
  unfold maxLen at hcm
  have hnb : n ≤ 1048576 := by omega
  have Hn := hid hn
  have Hsz := hid hsz
  clear hn hf hc0 hc2 ho hs hh hsz hjl
  go_enter Try.func35, Try.ntmps35
  go_wp2_with fail
  go_loopw [3, 13] (fun u i wr => ∃ (k : Nat) (a' : Option Addr) (c' : Nat) (us : List Value), k ≤ n ∧ i = .int .i64 k ∧ u = .slice a' k c' ∧ wr.ownsRow w.heap.size 24 1 (.slice a' k c') k us ∧
    SLV (U (Old w) (fun g => (Value.slice a' k c').ownBlock = some g)) wr us (j.l.take k) ∧ Keeps No w wr) (fun _ i _ => n - (intOf i).toNat)
  case atStart => exact ⟨0, none, 0, [], Nat.zero_le _, rfl, rfl, World.ownsRow_nil _ _ _ _, by simpa using SLV.nil _ _, Keeps.refl _ _⟩
  case round =>
    obtain ⟨k, a', c', us, hk, rfl, rfl, ho, hs, hK⟩ := hrel
    have hKs := hK.size
    by_cases hlt : k < n
    · have h2 := hsl.keep hK fun _ _ hk => hk.elim
      obtain ⟨b, off, rfl, _, hat⟩ := h2.at_ (by omega)
      have hkl : k < j.l.length := by have := Hn.out; omega
      obtain ⟨u, hcell, hub⟩ := hat k j.l[k] (List.getElem?_eq_getElem hkl)
      clear hat
      obtain ⟨a2, n2, c2, rfl, hn2, hnc2, hcm2⟩ := hub.opened
      have hst := List.take_succ_eq_append_getElem hkl
      have hxl := Hsz.out j.l[k] (List.getElem_mem hkl)
      have Hst := hid hst
      clear hst hn2
      generalize j.l[k] = x at *
      go_wp2_with fail
      refine (clone_any No _ _ _ hub hxl).mono ?_
      rintro e w4 ⟨a4, r4, c4, rfl, hown4, hk4⟩
      have ho4 := ownsRow_keep ho hk4 fun _ _ hk => hk
      have hu4 : SB (Old wr) w4 (.slice a4 r4 c4) x := SV.fresh hown4 (Nat.le_refl _)
      have hks4 := hk4.size
      have Hu4 := hid hu4
      have Hs := hid hs
      clear hown4 hu4 hs
      go_wp2_with (at_builtin; refine hold ?_)
      unfold Held
      refine wpList_app _ rfl (.tmp 17) (.tmp 20) _ rfl w.heap.size 24 i0 _ 24 Try.underlying22 hi hz0 hz1 hz2 rfl _ k us rfl (World.ownsRow.alloc ho4 _) No _ [.slice a4 r4 c4] rfl (SV.no (SV.newAt w4 w4.heap.size _ _ _ 1 1 _ rfl rfl (by omega) (by unfold maxLen; omega) rfl)) (one_cell rfl) (k + 1) rfl (by unfold maxLen; omega) (by omega) (by simp; omega) ?_
      intro a6 c6 w6 hown6 hg6 hb6
      have hs6 : SLV (U (Old w) (fun g => (Value.slice a6 (k + 1) c6).ownBlock = some g)) w6 (us ++ [.slice a4 r4 c4]) (j.l.take (k + 1)) := by
        rw [Hst.out]
        have hka : Keeps No w4 (w4.alloc (.cells #[.slice a4 r4 c4] 24)) := (Keeps.refl _ _).alloc _
        have hK6 : Keeps (fun g => (Value.slice a' k c').ownBlock = some g) (w4.alloc (.cells #[.slice a4 r4 c4] 24)) w6 := Keeps.of_grown hg6 fun g e => e
        have hfr : ∀ g, (Value.slice a6 (k + 1) c6).ownBlock = some g → (Value.slice a' k c').ownBlock = some g ∨ w4.heap.size + 1 ≤ g := by
          intro g e
          rcases hb6 with hb | hb
          · exact .inl (hb ▸ e)
          · rw [hb] at e; injection e with e; right; rw [← e]; simp
        refine SLV.snoc ?_ ?_
        · have h1 := (Hs.out.shift (M' := U (Old w) (fun g => (Value.slice a' k c').ownBlock = some g)) (hk4.then_ hka) (fun _ _ hk => hk.elim) fun _ _ hk => hk)
          refine h1.shift hK6 (fun g _ hg => .inr hg) fun g hl hg => ?_
          rcases hg with hg | hg
          · exact .inl hg
          · rcases hfr g hg with h | h
            · exact .inr h
            · simp at hl; omega
        · have h1 : SB (U (Old w) (fun g => (Value.slice a' k c').ownBlock = some g)) (w4.alloc (.cells #[.slice a4 r4 c4] 24)) (.slice a4 r4 c4) x := SV.alloc (SV.mono Hu4.out fun g _ hg => by
            unfold Old at *
            rcases hg with hg | hg
            · omega
            · exact (ho.lt g hg).2) _
          refine sv_shift h1 hK6 (fun g _ hg => .inr hg) fun g hl hg => ?_
          rcases hg with hg | hg
          · exact .inl hg
          · rcases hfr g hg with h | h
            · exact .inr h
            · simp at hl; omega
      have Hs6 := hid hs6
      clear hs6
      go_wp2_with fail
      go_roundw
      case rel => exact ⟨k + 1, a6, c6, _, by omega, by go_num, rfl, hown6, Hs6.out, (((hK.then_ hk4).alloc _)).app (World.ownsRow.alloc ho4 _) (Nat.le_refl _) hg6⟩
      case measure => simp [intOf]; omega
    · have hall : j.l.take k = j.l := List.take_of_length_le (by have := Hn.out; omega)
      have hkn : k = j.l.length := by have := Hn.out; omega
      rw [hall] at hs
      subst hkn
      have Hs := hid hs
      clear hs hall
      go_wp2_with fail
      go_ret
      refine ⟨a', c', rfl, SL.of_vals (us := us) (SV.fresh ho (Nat.le_refl _)) Hs.out.1 fun i l hi => ?_, hK⟩
      obtain ⟨u, hu, hb⟩ := Hs.out.2 i l hi
      exact ⟨u, hu, SV.mono hb fun g _ hg => .inl hg⟩
end Go.Proofs.Ytkblcdjkabiliaa
