/- Arguments opened: a slice of the net's doings (three numbers, a yes or no, and bytes each). -/
import Derived.Test.YtdkmfppdiggpfaaOpen
import Derived.Test.YtdkmfppdiggpfaaNN
import Derived.Deep.Fields
namespace Go.Proofs.Ytdkmfppdiggpfaa
open Go Wm Go.RowKit Go.ChangeShapes Go.WideShapes Go.Deep

section
variable {H : Type} {enc : TypeId × Value → H} {P : Program} {w : World} {base : Nat} {held : Bool}

theorem sn_of_trod {t e : TypeId} {f0 f1 f2 f3 f4 : Field} {q : TypeId} (ht : P.underlying t = some (.slice e)) (he : P.underlying e = some (.struct #[f0, f1, f2, f3, f4]))
    (hone : oneCellFields P #[f0, f1, f2, f3, f4] = true) (hC : P.cellsOf e = 5)
    (h0 : P.underlying f0.type = some (.int .i64)) (h1 : P.underlying f1.type = some (.int .i64)) (h2 : P.underlying f2.type = some (.int .i64))
    (h3 : P.underlying f3.type = some .bool) (h4 : P.underlying f4.type = some (.slice q)) (hq : P.underlying q = some (.int .u8)) (cq : P.cellsOf q = 1)
    {fuel : Nat} {v : Value} {x : DataW H × List MemPlace} (hf : DataW.trod enc P w base (fun _ => true) held fuel t [v] = some x) : ∃ l, SN No w v l := by
  rcases Go.Deep.open_slice ht hf with ⟨hcs, _⟩ | ⟨a, len, cap, m, n, D, Pl, hcs, _, hl, hm, hmm, _, hat⟩
  · simp at hcs; subst hcs
    exact ⟨[], none, 0, 0, rfl, rfl, Nat.le_refl _, Nat.zero_le _, (fun x hx => by simp at hx), fun h => absurd h (by omega)⟩
  · simp at hcs; subst hcs
    simp only [if_true] at hmm
    subst hmm
    rw [hC] at hat
    have each : ∀ i, i < len → ∃ y : DoN, y.ok ∧ w.cell? (a.add (i * 5)) = some (.int .i64 y.kind) ∧ w.cell? (a.add (i * 5 + 1)) = some (.int .i64 y.way) ∧ w.cell? (a.add (i * 5 + 2)) = some (.int .i64 y.at_) ∧ w.cell? (a.add (i * 5 + 3)) = some (.bool y.keep) ∧
        ∃ u, w.cell? (a.add (i * 5 + 4)) = some u ∧ SB No w u y.b := by
      intro i hi
      obtain ⟨cs', hc, ht'⟩ := hat i (by omega)
      obtain ⟨ys, n', -, -, hlen, hyl, hfs⟩ := DataW.trod_struct he ht'
      obtain ⟨_, hcl, hcat⟩ := World.cells?_some hc
      rw [hC] at hlen
      match cs', hlen with
      | [u0, u1, u2, u3, u4], _ =>
        match ys, hyl with
        | [y0, y1, y2, y3, y4], _ =>
          have g0 := hfs 0 f0 rfl
          have g1 := hfs 1 f1 rfl
          have g2 := hfs 2 f2 rfl
          have g3 := hfs 3 f3 rfl
          have g4 := hfs 4 f4 rfl
          obtain ⟨o0, k0⟩ := hone_of hone 0 f0 rfl
          obtain ⟨o1, k1⟩ := hone_of hone 1 f1 rfl
          obtain ⟨o2, k2⟩ := hone_of hone 2 f2 rfl
          obtain ⟨o3, k3⟩ := hone_of hone 3 f3 rfl
          obtain ⟨o4, k4⟩ := hone_of hone 4 f4 rfl
          rw [o0, k0] at g0; rw [o1, k1] at g1; rw [o2, k2] at g2; rw [o3, k3] at g3; rw [o4, k4] at g4
          obtain ⟨z0, e0, -, w0⟩ := DataW.trod_int h0 (x := y0) g0
          obtain ⟨z1, e1, -, w1⟩ := DataW.trod_int h1 (x := y1) g1
          obtain ⟨z2, e2, -, w2⟩ := DataW.trod_int h2 (x := y2) g2
          obtain ⟨z3, e3, -⟩ := DataW.trod_bool h3 (x := y3) g3
          obtain ⟨l, hb⟩ := sb_of_trod (P := P) (x := y4) h4 hq cq (v := u4) g4
          simp at e0 e1 e2 e3
          subst e0; subst e1; subst e2; subst e3
          have c0 := hcat 0 (by omega)
          have c1 := hcat 1 (by omega)
          have c2 := hcat 2 (by omega)
          have c3 := hcat 3 (by omega)
          have c4 := hcat 4 (by omega)
          rw [Go.Deep.add_add] at c0 c1 c2 c3 c4
          exact ⟨⟨z0, z1, z2, z3, l⟩, ⟨bounds_i64 w0, bounds_i64 w1, bounds_i64 w2⟩, by simpa using c0, by simpa using c1, by simpa using c2, by simpa using c3, u4, by simpa using c4, hb⟩
    have : Inhabited DoN := ⟨⟨0, 0, 0, false, []⟩⟩
    obtain ⟨y, hy⟩ := Go.Deep.choose_lt each
    refine ⟨(List.range len).map y, some a, len, _, rfl, by simp, hl, hm, fun x hx => ?_, fun h0' => ?_⟩
    · simp only [List.mem_map, List.mem_range] at hx
      obtain ⟨i, hi, rfl⟩ := hx
      exact (hy i hi).1
    · obtain ⟨b, off, spot⟩ := a
      have hc0 := (hy 0 h0').2.1
      have hspot : spot = none := by simpa [Addr.add] using World.cell?_spot hc0
      subst hspot
      refine ⟨b, off, rfl, fun hk => hk, fun i x hx => ?_⟩
      rw [List.getElem?_map] at hx
      rcases Nat.lt_or_ge i len with hil | hil
      · rw [List.getElem?_range hil] at hx
        simp at hx
        subst hx
        obtain ⟨-, c0, c1, c2, c3, u, c4, hb⟩ := hy i hil
        rw [Wm.add_off] at c0 c1 c2 c3 c4
        exact ⟨c0, c1, c2, c3, u, c4, hb⟩
      · rw [List.getElem?_eq_none (by simp; exact hil)] at hx; cases hx
end
end Go.Proofs.Ytdkmfppdiggpfaa
