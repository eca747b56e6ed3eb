/- Arguments opened: a slice of bytes, a slice of slices of bytes, as the words on memory say them. -/
import Derived.Test.YtdkmfppdiggpfaaMem
import Derived.ProofKit
import Derived.OpenShut
import Derived.ChangeOld
import Derived.Deep.Slices
namespace Wm
open Go Go.RowKit Go.ChangeShapes Go.WideShapes

theorem add_off {b off : Nat} (j : Nat) : ((⟨b, off, none⟩ : Addr).add j) = ⟨b, off + j, none⟩ := by
  unfold Addr.add
  by_cases hj : j = 0 <;> simp [hj]

section
variable {H : Type} {enc : TypeId × Value → H} {P : Program} {w : World} {base : Nat} {held : Bool}

theorem sb_of_trod {t e : TypeId} (ht : P.underlying t = some (.slice e)) (he : P.underlying e = some (.int .u8)) (ce : P.cellsOf e = 1) {fuel : Nat} {v : Value} {x : DataW H × List MemPlace}
    (hf : DataW.trod enc P w base (fun _ => true) held fuel t [v] = some x) : ∃ l, SB No w v l := by
  rcases open_ints ht he ce hf with ⟨hcs, _⟩ | ⟨a, l, c, zs, hcs, _, hl, hm, hz, _, hcell, hwz⟩
  · simp at hcs; subst hcs
    exact ⟨[], SV.nil_ _ _ _ _ (Nat.zero_le _)⟩
  · simp at hcs; subst hcs
    simp only [if_true] at hz
    refine ⟨(zs.take l).map fun z => UInt8.ofNat z.toNat, ?_⟩
    refine SV.mk (by simp; omega) hl hm fun h0 => ?_
    obtain ⟨b, off, spot⟩ := a
    have hc0 := hcell 0 (by omega)
    have hspot : spot = none := by simpa [Addr.add] using World.cell?_spot hc0
    subst hspot
    refine ⟨b, off, rfl, fun hk => hk, fun i u hu => ?_⟩
    simp only [List.map_map, List.getElem?_map, List.getElem?_take] at hu
    split at hu
    · rename_i hil
      have hiz : i < zs.length := by omega
      rw [List.getElem?_eq_getElem hiz] at hu
      simp at hu
      have hc := hcell i hiz
      rw [add_off] at hc
      rw [hc, ← hu]
      have hw := hwz zs[i] (List.getElem_mem hiz)
      have hbd := bounds_u8 hw
      simp only [bv, List.getD_eq_getElem?_getD, List.getElem?_eq_getElem hiz, Option.getD_some]
      congr 2
      simp
      omega
    · cases hu

theorem sl_of_trod {t e q : TypeId} (ht : P.underlying t = some (.slice e)) (he : P.underlying e = some (.slice q)) (hq : P.underlying q = some (.int .u8)) (ce : P.cellsOf e = 1) (cq : P.cellsOf q = 1)
    {fuel : Nat} {v : Value} {x : DataW H × List MemPlace}
    (hf : DataW.trod enc P w base (fun _ => true) held fuel t [v] = some x) : ∃ ls, SL No w v ls := by
  rcases Go.Deep.open_slice ht hf with ⟨hcs, _⟩ | ⟨a, len, cap, m, n, D, Pl, hcs, _, hl, hm, hmm, _, hat⟩
  · simp at hcs; subst hcs
    exact ⟨[], SL.nil_ _ _ _ _ (Nat.zero_le _)⟩
  · simp at hcs; subst hcs
    simp only [if_true] at hmm
    subst hmm
    rw [ce] at hat
    have each : ∀ i, i < len → ∃ y : Value × List UInt8, w.cell? (a.add i) = some y.1 ∧ SB No w y.1 y.2 := by
      intro i hi
      obtain ⟨cs', hc, ht'⟩ := hat i (by omega)
      obtain ⟨_, hcl, hcat⟩ := World.cells?_some hc
      match cs', hcl with
      | [u], _ =>
        obtain ⟨l, hlb⟩ := sb_of_trod he hq cq ht'
        refine ⟨(u, l), ?_, hlb⟩
        have := hcat 0 (by omega)
        simpa [Addr.add] using this
    have : Inhabited Value := ⟨undef⟩
    obtain ⟨y, hy⟩ := Go.Deep.choose_lt each
    refine ⟨(List.range len).map fun i => (y i).2, SL.of_vals (us := (List.range len).map fun i => (y i).1) ?_ (by simp) fun i l hi => ?_⟩
    · refine SV.mk (by simp) hl hm fun h0 => ?_
      obtain ⟨b, off, spot⟩ := a
      have hc0 := (hy 0 h0).1
      have hspot : spot = none := by simpa [Addr.add] using World.cell?_spot hc0
      subst hspot
      refine ⟨b, off, rfl, fun hk => hk, fun i u hu => ?_⟩
      rw [List.getElem?_map] at hu
      rcases Nat.lt_or_ge i len with hil | hil
      · rw [List.getElem?_range hil] at hu
        simp at hu
        have := (hy i hil).1
        rw [add_off] at this
        rw [this, hu]
      · rw [List.getElem?_eq_none (by simp; exact hil)] at hu; cases hu
    · rw [List.getElem?_map] at hi
      rcases Nat.lt_or_ge i len with hil | hil
      · rw [List.getElem?_range hil] at hi
        simp at hi
        exact ⟨(y i).1, by rw [List.getElem?_map, List.getElem?_range hil]; rfl, by rw [← hi]; exact (hy i hil).2⟩
      · rw [List.getElem?_eq_none (by simp; exact hil)] at hi; cases hi
end
end Wm
