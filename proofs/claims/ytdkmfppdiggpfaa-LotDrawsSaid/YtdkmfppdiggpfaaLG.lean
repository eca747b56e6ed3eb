/- The walk through a lot's Events. -/
import Derived.Test.YtdkmfppdiggpfaaLD
import Derived.Deep.AppendLies
namespace Go.Proofs.Ytdkmfppdiggpfaa
open Go.RowKit Wm

theorem info49 : (Try.prog.info? 49).map (fun i => (i.zero, i.size, i.bytes)) = some (some (.agg #[.int .i64 0, .int .i64 0, .int .i64 0, .bool false, .slice none 0 0]), 5, 56) := by kernel_rfl
/-- Events' cells, one behind the other. -/
def evL (l : List Wn.Evt) : List Value := (l.map fun x => (evC x).toList).flatten
theorem evL_snoc (l : List Wn.Evt) (x : Wn.Evt) : evL (l ++ [x]) = evL l ++ (evC x).toList := by simp [evL]
theorem evL_length (l : List Wn.Evt) : (evL l).length = l.length * 5 := by
  induction l with
  | nil => rfl
  | cons x l ih =>
    have : evL (x :: l) = (evC x).toList ++ evL l := by simp [evL]
    rw [this, List.length_append, ih, List.length_cons]
    simp [evC]; omega
theorem evs_length (s : Nat) : ∀ k, (Wn.evsF Wn.evOf k s).1.length = k := by
  intro k
  induction k with
  | zero => rw [Wn.evsF_zero Wn.evOf]; rfl
  | succ k ih => rw [(Wn.evsF_succ Wn.evOf k s).1, List.length_append, ih]; rfl
theorem add_off' {b off : Nat} (j : Nat) : ((⟨b, off, none⟩ : Addr).add j) = ⟨b, off + j, none⟩ := by
  unfold Addr.add
  by_cases hj : j = 0 <;> simp [hj]
def PEvs (g s K : Nat) (w : World) (e : Ending) (w' : World) : Prop :=
  ∃ a c, e = .returned (.slice a K c) ∧ w'.ownsRow w.heap.size 49 5 (.slice a K c) K (evL (Wn.evsF Wn.evOf K s).1) ∧ LotAt 60 w' g (Wn.evsF Wn.evOf K s).2 ∧ Keeps (Only g) w w'

theorem levents_nil (n : Int) (w : World) : Calls Try.prog 29 #[.pointer none, .int .i64 n] w fun e w' => e = .returned (.slice none 0 0) ∧ w = w' := by
  go_enter Try.func29, Try.ntmps29
  go_wp2
  go_ret
  exact ⟨rfl, rfl⟩

set_option maxRecDepth 20000 in
set_option maxHeartbeats 4000000 in
theorem levents_any (g s : Nat) (n : Int) (w : World) (h : LotAt 60 w g s) :
    Calls Try.prog 29 #[.pointer (some ⟨g, 0, none⟩), .int .i64 n] w (PEvs g s (max 0 (min n 4096)).toNat w) := by
  obtain ⟨i0, hi, hz0, hz1, hz2⟩ := info_parts info49
  have hg := h.facts.1
  have hold12 := hold_any n 0 4096 w
  obtain ⟨K, hK⟩ : ∃ K : Nat, max 0 (min n 4096) = (K : Int) := ⟨(max 0 (min n 4096)).toNat, by omega⟩
  have hK4 : K ≤ 4096 := by omega
  rw [hK] at hold12 ⊢
  rw [Int.toNat_natCast]
  have H12 := hid hold12
  have h0 := hid h
  clear hold12 hK h
  have hstep := fun k => Wn.evsF_succ Wn.evOf k s
  have Hstep := hid hstep
  have hev := fun st W hW => levent_any g st W hW
  have Hev := hid hev
  have hlen := evs_length s
  have Hlen := hid hlen
  have hz := Wn.evsF_zero Wn.evOf s
  have Hz := hid hz
  clear hstep hev hlen hz
  go_enter Try.func29, Try.ntmps29
  go_wp2_with fail
  refine H12.out.mono ?_
  rintro e w1 ⟨rfl, rfl⟩
  go_wp2_with fail
  go_loopw [5, 10] (fun u i wr => ∃ (k : Nat) (a : Option Addr) (c : Nat), k ≤ K ∧ i = .int .i64 k ∧ u = .slice a k c ∧ wr.ownsRow w.heap.size 49 5 (.slice a k c) k (evL (Wn.evsF Wn.evOf k s).1) ∧ LotAt 60 wr g (Wn.evsF Wn.evOf k s).2 ∧ Keeps (Only g) w wr) (fun _ i _ => K - (intOf i).toNat)
  case atStart => exact ⟨0, none, 0, Nat.zero_le _, rfl, rfl, by rw [Hz.out]; exact World.ownsRow_nil _ _ _ _, by rw [Hz.out]; exact h0.out, Keeps.refl _ _⟩
  case round =>
    obtain ⟨k, a, c, hk, rfl, rfl, ho, hl, hKr⟩ := hrel
    have hst := Hstep.out k
    have hks := hKr.size
    have hne : ∀ q, (Value.slice a k c).ownBlock = some q → q ≠ g := fun q hq e => by have := (ho.lt q hq).1; omega
    by_cases hlt : k < K
    · have hc := Hev.out _ wr hl
      have Hst := hid hst
      have Hc := hid hc
      clear hst hc
      generalize (Wn.evOf (Wn.evsF Wn.evOf k s).2).2 = st' at *
      generalize (Wn.evOf (Wn.evsF Wn.evOf k s).2).1 = x at *
      generalize (Wn.evsF Wn.evOf k s).2 = st at *
      generalize (Wn.evsF Wn.evOf k s).1 = l at *
      go_wp2_with fail
      refine Hc.out.mono ?_
      rintro e w4 ⟨rfl, hl4, hK4⟩
      have ho4 := ownsRow_keep ho hK4 fun q hq e => by unfold Only at e; exact hne q hq e
      have hs4 := hK4.size
      unfold evV evC
      clear ho hl
      go_wp2_with (at_builtin; refine hold ?_)
      unfold Held
      have hnews : ∀ (j : Nat) (u : Value), (evC x).toList[j]? = some u → (w4.alloc (.cells (evC x) 49)).cell? ((⟨w4.heap.size, 0, none⟩ : Addr).add j) = some u := by
        intro j u hu
        rw [add_off', Nat.zero_add, cell_new]
        simpa using hu
      have hone : ∀ u ∈ (evC x).toList, u.oneCell' = true := by
        intro u hu
        simp [evC] at hu
        rcases hu with rfl | rfl | rfl | rfl | rfl <;> rfl
      refine wpList_append_lies _ rfl (.tmp 12) (.tmp 15) _ rfl w.heap.size 49 i0 _ 5 56 Try.underlying55 hi hz0 hz1 hz2 rfl (by omega) _ k _ rfl (World.ownsRow.alloc ho4 _) ⟨w4.heap.size, 0, none⟩ 1 1 (evC x).toList rfl rfl hnews hone (by omega) (by unfold maxLen; omega) (by omega) (by simp; omega) (w4.heap.size + 1) (by simp) ?_
      intro q cap w6 hown6 hg6 hq6 hlt6
      have hl6 : LotAt 60 w6 g st' := by
        have h1 : LotAt 60 (w4.alloc (.cells (evC x) 49)) g st' := hl4.keep ((Keeps.refl No _).alloc _) fun hk => hk
        exact ⟨(hg6.block g (Nat.lt_of_lt_of_le (by omega) (by simp; omega)) fun e => hne g e.symm rfl).trans h1.1, h1.2⟩
      have hK6 : Keeps (Only g) w w6 := ((hKr.trans hK4 fun _ _ hk => hk).alloc _).app (World.ownsRow.alloc ho4 _) (Nat.le_refl _) hg6
      clear hnews hone
      go_wp2_with fail
      go_roundw
      case rel => exact ⟨k + 1, _, cap, by omega, by go_num, rfl, by rw [Hst.out.1, evL_snoc]; exact hown6, by rw [Hst.out.2]; exact hl6, hK6⟩
      case measure => simp [intOf]; omega
    · have hkK : k = K := by omega
      subst hkK
      clear hst
      go_wp2_with fail
      go_ret
      exact ⟨_, _, rfl, ho, hl, hKr⟩
end Go.Proofs.Ytdkmfppdiggpfaa
