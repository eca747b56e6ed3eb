/- The walks of a net: Take. -/
import Derived.Test.YtdkmfppdiggpfaaNE
namespace Go.Proofs.Ytdkmfppdiggpfaa
open Go.RowKit Wm

theorem take_bad (c : Int) (pv : Value) (wy z : Int) (b : Bool) (w : World) (hm : Calls Try.prog 46 #[pv, .int .i64 wy] w (PInt c w)) (hc : c ≠ 0) :
    Calls Try.prog 34 #[pv, .int .i64 wy, .int .i64 z, .bool b] w (fun e w' => e = .returned (.tuple #[.slice none 0 0, .int .i64 c]) ∧ w = w') := by
  have Hm := hid hm
  clear hm
  go_enter Try.func34, Try.ntmps34
  go_wp2_with fail
  refine Hm.out.mono ?_
  rintro e w1 ⟨rfl, rfl⟩
  go_wp2_with fail
  go_ret2
  exact ⟨rfl, rfl⟩
def InL (l : List (List UInt8)) (z : Int) : Prop := 0 ≤ z ∧ z < (l.length : Int)
instance (l : List (List UInt8)) (z : Int) : Decidable (InL l z) := inferInstanceAs (Decidable (_ ∧ _))
def takeC (l : List (List UInt8)) (z : Int) : Int := if InL l z then 0 else 31
def takeB (l : List (List UInt8)) (z : Int) : List UInt8 := if InL l z then l.getD z.toNat [] else []
def takeL (l : List (List UInt8)) (z : Int) (keep : Bool) : List (List UInt8) := if InL l z ∧ keep = false then l.take z.toNat ++ l.drop (z.toNat + 1) else l
/-- What Take leaves. -/
def PTake (T : TypeId) (tail : List Value) (R : Blocks) (p k : Nat) (vs : List Value) (Ls : List (List (List UInt8))) (l : List (List UInt8)) (z : Int) (keep : Bool) (w : World) (e : Ending) (w' : World) : Prop :=
  ∃ u vs', e = .returned (.tuple #[u, .int .i64 (takeC l z)]) ∧ SB (fun q => RF p vs' q ∨ R q) w' u (takeB l z) ∧ RowsAt 47 T tail R w' p vs' (Ls.set k (takeL l z keep)) ∧ Keeps (RF p vs) w w' ∧ ∀ q, RF p vs' q → RF p vs q ∨ w.heap.size ≤ q
theorem set_same {α : Type} {Ls : List α} {k : Nat} {l : α} (h : Ls[k]? = some l) : Ls.set k l = Ls := by
  refine List.ext_getElem? fun i => ?_
  rw [List.getElem?_set]
  split
  · rename_i e
    subst e
    rw [if_pos (List.getElem?_eq_some_iff.1 h).1, h]
  · rfl
/-- Out of the row's bounds. -/
theorem PTake.out {T : TypeId} {tail : List Value} {R : Blocks} {p k : Nat} {vs : List Value} {Ls : List (List (List UInt8))} {l : List (List UInt8)} {z : Int} {keep : Bool} {w : World} (h : RowsAt 47 T tail R w p vs Ls) (hl : Ls[k]? = some l) (hz : ¬ InL l z) :
    PTake T tail R p k vs Ls l z keep w (.returned (.tuple #[.slice none 0 0, .int .i64 31])) w := by
  refine ⟨_, vs, by unfold takeC; rw [if_neg hz], ?_, ?_, Keeps.refl _ _, fun _ h => .inl h⟩
  · unfold takeB; rw [if_neg hz]; exact SV.nil_ _ _ _ _ (Nat.zero_le _)
  · unfold takeL; rw [if_neg fun h => hz h.1, set_same hl]; exact h

set_option maxRecDepth 20000 in
set_option maxHeartbeats 4000000 in
theorem take_any (R : Blocks) (p k : Nat) (wy z : Int) (keep : Bool) (vs : List Value) (Ls : List (List (List UInt8))) (l : List (List UInt8)) (w : World) (h : RowsAt 47 86 [.bool true] R w p vs Ls)
    (h4 : Ls.length = 4) (hw0 : 0 ≤ wy) (hw2 : wy < 2) (hk : k = 2 * wy.toNat) (hl : Ls[k]? = some l) (hR : ∀ g, R g → g < w.heap.size)
    (hll : l.length ≤ 1048576) (hsm : ∀ x ∈ l, x.length ≤ 16777216) :
    Calls Try.prog 34 #[.pointer (some ⟨p, 0, none⟩), .int .i64 wy, .int .i64 z, .bool keep] w (PTake 86 [.bool true] R p k vs Ls l z keep w) := by
  have hmay := may_ok p wy w (RowsAt.made h h4) hw0 hw2
  have hlt : ∀ q, RF p vs q ∨ R q → q < w.heap.size := fun q hq => hq.elim (h.lt q) (hR q)
  obtain ⟨a0, n0, c0, us0, hv0, hn0, hu0, hnc0, hcm0, hr0, hs0, hc0, hf0⟩ := h.row hl
  have hwy : wy = 0 ∨ wy = 1 := by omega
  by_cases hz : InL l z
  · obtain ⟨m, rfl⟩ : ∃ m : Nat, z = (m : Int) := ⟨z.toNat, by have := hz.1; omega⟩
    have hm : m < l.length := by have := hz.2; omega
    obtain ⟨b, off, rfl, -, hat⟩ := hr0.1.at_ (by omega)
    obtain ⟨u, hu, hb⟩ := hs0.2 m l[m] (List.getElem?_eq_getElem hm)
    have hcu := hat m u hu
    have hx : takeB l m = l[m] := by
      unfold takeB; rw [if_pos hz, List.getD_eq_getElem?_getD]
      simp [hm]
    have hcl : Calls Try.prog 49 #[u] w fun e w4 => ∃ v, e = .returned v ∧ (∀ vs', (∀ q, RF p vs' q → RF p vs q) → SV (fun q => RF p vs' q ∨ R q) w4 v (l[m].map bv)) ∧ (∀ g, v.ownBlock = some g → w.heap.size ≤ g ∧ g < w4.heap.size) ∧ Keeps No w w4 :=
      (clone_any _ u l[m] w hb (hsm _ (List.getElem_mem hm))).mono fun e w4 ⟨a4, r4, c4, he, hown4, hk4⟩ => ⟨_, he, fun vs' hvs' => SV.of_own hown4 (fun g hg hq => by have := (hown4.lt g hg).1; have := hlt g (hq.imp (hvs' g) id); omega), fun g hg => hown4.lt g hg, hk4⟩
    have hkp : ∀ w4 v, Keeps No w w4 → (∀ vs', (∀ q, RF p vs' q → RF p vs q) → SV (fun q => RF p vs' q ∨ R q) w4 v (l[m].map bv)) → PTake 86 [.bool true] R p k vs Ls l m true w (.returned (.tuple #[v, .int .i64 0])) w4 := fun w4 v hk4 hv4 =>
      ⟨v, vs, by unfold takeC; rw [if_pos hz], by rw [hx]; exact hv4 vs fun _ h => h, by unfold takeL; rw [if_neg (by simp), set_same hl]; exact h.keep hk4 (fun _ _ h => h) (fun _ _ h => h.elim) fun _ _ h => h, hk4.weak, fun _ h => .inl h⟩
    have hdr : ∀ w4 v, Keeps No w w4 → (∀ g, v.ownBlock = some g → w.heap.size ≤ g ∧ g < w4.heap.size) → SV No w4 v (l[m].map bv) →
        Calls Try.prog 50 #[.pointer (some ⟨p, k, none⟩), .int .i64 (m : Int)] w4 fun e w5 => e = .returned (.tuple #[]) ∧ PTake 86 [.bool true] R p k vs Ls l m false w (.returned (.tuple #[v, .int .i64 0])) w5 := fun w4 v hk4 hf4 hv4 =>
      (ndrop_any 86 [.bool true] R p k vs Ls l m w4 (h.keep hk4 (fun _ _ h => h) (fun _ _ h => h.elim) fun _ _ h => h) hl hm hll).mono fun e w5 ⟨he, vs', h1, h2, h3⟩ =>
        ⟨he, v, vs', by unfold takeC; rw [if_pos hz], by
          rw [hx]
          have hav : SV (fun q => q < w.heap.size ∨ w4.heap.size ≤ q) w4 v (l[m].map bv) := SV.avoid hv4 fun g hg hq => by have := hf4 g hg; omega
          refine sv_shift hav h2 (fun q hq hr => .inl (h.lt q hr)) fun q hq hr => ?_
          rcases hr with hr | hr
          · rcases h3 q hr with hr | hr
            · exact .inl (h.lt q hr)
            · exact .inr hr
          · exact .inl (hR q hr), by unfold takeL; rw [if_pos ⟨hz, rfl⟩]; exact h1, hk4.weak.trans h2 fun _ _ h => h, fun q hq => (h3 q hq).imp id fun h => by have := hk4.size; omega⟩
    have Hm := hid hmay
    have Hk := hid hkp
    have Hd := hid hdr
    have Hc := hid hcl
    have hz1 : ¬ (m : Int) < 0 := by omega
    have hz2 : (m : Int) < (n0 : Int) := by omega
    have hz3 : (0 : Int) ≤ (m : Int) := by omega
    clear hmay hkp hdr hcl hx hz h hl hR hll hsm hlt hv0 hn0 hu0 hr0 hs0 hat hu hb
    rcases hwy with rfl | rfl
    all_goals (first | (replace hk : k = 0 := hk; subst hk) | (replace hk : k = 2 := hk; subst hk))
    all_goals cases keep
    all_goals
      go_enter Try.func34, Try.ntmps34
      go_wp2_with fail
      refine Hm.out.mono ?_
      rintro e w1 ⟨rfl, rfl⟩
      go_wp2_with fail
      refine Hc.out.mono ?_
      rintro e w4 ⟨v4, rfl, hv4, hf4, hk4⟩
      go_wp2_with fail
    all_goals first
      | (go_ret2; exact Hk.out _ _ hk4 hv4)
      | skip
    all_goals
      refine (Hd.out _ _ hk4 hf4 (SV.no (hv4 vs fun _ h => h))).mono ?_
      rintro e w5 ⟨rfl, h5⟩
      go_wp2_with fail
      go_ret2
      exact h5
  · have hpost := PTake.out (keep := keep) h hl hz
    have Hp := hid hpost
    have hzz : z < 0 ∨ (0 ≤ z ∧ (n0 : Int) ≤ z) := by unfold InL at hz; omega
    have Hm := hid hmay
    clear hmay hpost hz h hl hR hll hsm hlt hv0 hn0 hu0 hr0 hs0
    rcases hwy with rfl | rfl
    all_goals (first | (replace hk : k = 0 := hk; subst hk) | (replace hk : k = 2 := hk; subst hk))
    all_goals
      go_enter Try.func34, Try.ntmps34
      go_wp2_with fail
      refine Hm.out.mono ?_
      rintro e w1 ⟨rfl, rfl⟩
      rcases hzz with hz0 | ⟨hz0, hz1⟩
    all_goals
      try have hz2 : ¬ z < 0 := by omega
      go_wp2_with fail
      go_ret2
      exact Hp.out
end Go.Proofs.Ytdkmfppdiggpfaa
