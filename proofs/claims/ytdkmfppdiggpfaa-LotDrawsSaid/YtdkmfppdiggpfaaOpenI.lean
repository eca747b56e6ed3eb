/- An argument opened: a slice of ints. -/
import Derived.Test.YtdkmfppdiggpfaaWA
import Derived.Test.YtdkmfppdiggpfaaOpen
namespace Go.Proofs.Ytdkmfppdiggpfaa
open Go.RowKit Go.ChangeShapes Go.WideShapes Wm

theorem si_of_trod {H : Type} {enc : TypeId × Value → H} {P : Program} {w : World} {base : Nat} {held : Bool} {t e : TypeId} (ht : P.underlying t = some (.slice e)) (he : P.underlying e = some (.int .i64)) (ce : P.cellsOf e = 1) {fuel : Nat} {v : Value} {x : DataW H × List MemPlace}
    (hf : DataW.trod enc P w base (fun _ => true) held fuel t [v] = some x) : ∃ l, SI No w v l ∧ I64 l := by
  rcases open_ints ht he ce hf with ⟨hcs, _⟩ | ⟨a, l, c, zs, hcs, _, hl, hm, hz, _, hcell, hwz⟩
  · simp at hcs; subst hcs
    exact ⟨[], SV.nil_ _ _ _ _ (Nat.zero_le _), fun z hz => by simp at hz⟩
  · simp at hcs; subst hcs
    simp only [if_true] at hz
    refine ⟨zs.take l, ?_, fun z hzm => bounds_i64 (hwz z (List.mem_of_mem_take hzm))⟩
    refine SV.mk (by simp; omega) hl hm fun h0 => ?_
    obtain ⟨b, off, spot⟩ := a
    have hc0 := hcell 0 (by omega)
    have hspot : spot = none := by simpa [Addr.add] using World.cell?_spot hc0
    subst hspot
    refine ⟨b, off, rfl, fun hk => hk, fun i u hu => ?_⟩
    rw [List.getElem?_map, List.getElem?_take] at hu
    split at hu
    · rename_i hil
      have hiz : i < zs.length := by omega
      rw [List.getElem?_eq_getElem hiz] at hu
      simp at hu
      have hc := hcell i hiz
      rw [add_off] at hc
      rw [hc, ← hu]
      simp only [iv, List.getD_eq_getElem?_getD, List.getElem?_eq_getElem hiz, Option.getD_some]
    · cases hu

/-- An array of two ints, by value. -/
theorem arr2_of {H : Type} {enc : TypeId × Value → H} {P : Program} {w : World} {base b0 : Nat} {spare : Nat → Bool} {held : Bool} {r : Reach} {t e : TypeId} (ht : P.underlying t = some (.array 2 e)) (he : P.underlying e = some (.int .i64)) (ce : P.cellsOf e = 1) (ct : P.cellsOf t = 2)
    {v : Value} {d : DataW H} {p : List MemPlace} (hv : Value.okWide P w r b0 t v) (h : DataW.Trod enc P w base spare held t v d p) : ∃ x y : Int, v = .agg #[.int .i64 x, .int .i64 y] := by
  simp only [Value.okWide, ht] at hv
  obtain ⟨cs, rfl, hsz, _⟩ := hv
  obtain ⟨l⟩ := cs
  match l, hsz.trans ct with
  | [c0, c1], _ =>
    obtain ⟨fuel, hf⟩ := h
    obtain ⟨xs, m, _, _, _, hlen, hg⟩ := DataW.trod_array ht hf
    match xs, hlen with
    | [y0, y1], _ =>
      have g0 := hg 0 (by omega)
      have g1 := hg 1 (by omega)
      rw [ce] at g0 g1
      simp [Value.cells] at g0 g1
      obtain ⟨a, e0, _, _⟩ := DataW.trod_int he g0
      obtain ⟨b, e1, _, _⟩ := DataW.trod_int he g1
      simp at e0 e1
      subst e0 e1
      exact ⟨a, b, rfl⟩
end Go.Proofs.Ytdkmfppdiggpfaa
