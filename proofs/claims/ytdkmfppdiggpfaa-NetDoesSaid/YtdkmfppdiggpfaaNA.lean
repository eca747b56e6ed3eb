/- Words on memory: rows of slices of bytes in the cells of one block. No program in sight. -/
import Derived.Test.YtdkmfppdiggpfaaMem
import Derived.ArgAppend
namespace Wm
open Go Go.RowKit

def Ow (v : Value) : Blocks := fun g => v.ownBlock = some g
/-- Values that read as slices of bytes. -/
def SLV (M : Blocks) (w : World) (us : List Value) (ls : List (List UInt8)) : Prop :=
  us.length = ls.length ∧ ∀ (i : Nat) (l : List UInt8), ls[i]? = some l → ∃ u, us[i]? = some u ∧ SB M w u l
theorem sv_shift {M M' K : Blocks} {w w' : World} {v : Value} {us : List Value} (h : SV M w v us) (hk : Keeps K w w') (hK : ∀ k, k < w.heap.size → K k → M k) (hm : ∀ k, k < w.heap.size → M' k → M k) : SV M' w' v us := by
  have h1 : SV (fun k => M k ∨ M' k) w v us := h.mono fun k hl hk => hk.elim id (hm k hl)
  exact (h1.keep hk fun k hl hk => .inl (hK k hl hk)).mono fun _ _ hk => .inr hk
theorem SLV.shift {M M' K : Blocks} {w w' : World} {us : List Value} {ls : List (List UInt8)} (h : SLV M w us ls) (hk : Keeps K w w') (hK : ∀ k, k < w.heap.size → K k → M k) (hm : ∀ k, k < w.heap.size → M' k → M k) : SLV M' w' us ls := by
  refine ⟨h.1, fun i l hi => ?_⟩
  obtain ⟨u, hu, hb⟩ := h.2 i l hi
  exact ⟨u, hu, sv_shift hb hk hK hm⟩
theorem SLV.snoc {M : Blocks} {w : World} {us : List Value} {ls : List (List UInt8)} {u : Value} {x : List UInt8} (h : SLV M w us ls) (hu : SB M w u x) : SLV M w (us ++ [u]) (ls ++ [x]) := by
  refine ⟨by simp [h.1], fun i l hi => ?_⟩
  by_cases hlt : i < ls.length
  · rw [List.getElem?_append_left hlt] at hi
    obtain ⟨u', hu', hb⟩ := h.2 i l hi
    exact ⟨u', by rw [List.getElem?_append_left (by rw [h.1]; exact hlt)]; exact hu', hb⟩
  · rw [List.getElem?_append_right (by omega)] at hi
    have h0 : i - ls.length = 0 := by
      rcases Nat.eq_zero_or_pos (i - ls.length) with h0 | h0
      · exact h0
      · rw [List.getElem?_eq_none (by simp; omega)] at hi; cases hi
    rw [h0] at hi
    simp at hi
    subst hi
    exact ⟨u, by rw [List.getElem?_append_right (by rw [h.1]; omega), h.1, h0]; rfl, hu⟩
theorem SLV.nil (M : Blocks) (w : World) : SLV M w [] [] := ⟨rfl, fun i l h => by simp at h⟩
/-- The one at a place taken out. -/
theorem SLV.out {M : Blocks} {w : World} {us : List Value} {ls : List (List UInt8)} (h : SLV M w us ls) (k : Nat) : SLV M w (us.take k ++ us.drop (k + 1)) (ls.take k ++ ls.drop (k + 1)) := by
  have hl := h.1
  refine ⟨by simp [hl], fun i l hi => ?_⟩
  have key : ∀ {α : Type} (xs : List α), xs.length = us.length → (xs.take k ++ xs.drop (k + 1))[i]? = if i < min k us.length then xs[i]? else xs[i - min k us.length + (k + 1)]? := by
    intro α xs hx
    split
    · rename_i hlt
      rw [List.getElem?_append_left (by rw [List.length_take, hx]; exact hlt), List.getElem?_take, if_pos (by omega)]
    · rename_i hge
      rw [List.getElem?_append_right (by rw [List.length_take, hx]; omega), List.length_take, hx, List.getElem?_drop]
      congr 1; omega
  rw [key ls hl.symm] at hi
  rw [key us rfl]
  split at hi
  · rename_i hlt
    rw [if_pos hlt]; exact h.2 i l hi
  · rename_i hge
    rw [if_neg hge]; exact h.2 _ l hi

/-- A row that may be appended to: of the holder's own, or a full slice (an append makes it anew). -/
def Rw (E : TypeId) (w : World) (v : Value) (us : List Value) : Prop := SV No w v us ∧ (w.ownsRow 0 E 1 v us.length us ∨ ∃ a, v = .slice a us.length us.length)
theorem SV.avoid {K : Blocks} {w : World} {v : Value} {us : List Value} (h : SV No w v us) (hn : ∀ g, v.ownBlock = some g → ¬ K g) : SV K w v us := by
  obtain ⟨a, n, c, rfl, h1, h2, h3, h4⟩ := h
  refine ⟨a, n, c, rfl, h1, h2, h3, fun h0 => ?_⟩
  obtain ⟨b, off, rfl, _, hat⟩ := h4 h0
  exact ⟨b, off, rfl, hn b rfl, hat⟩
theorem Rw.keep {E : TypeId} {K : Blocks} {w w' : World} {v : Value} {us : List Value} (h : Rw E w v us) (hk : Keeps K w w') (hn : ∀ g, v.ownBlock = some g → ¬ K g) : Rw E w' v us := by
  obtain ⟨h1, h2⟩ := h
  refine ⟨((SV.avoid h1 hn).keep hk fun _ _ hk => hk).mono fun _ _ hk => hk.elim, h2.imp (fun h => ownsRow_keep h hk hn) id⟩
theorem Rw.own {E : TypeId} {w : World} {v : Value} {us : List Value} {n : Nat} (h : w.ownsRow 0 E 1 v n us) : Rw E w v us := by
  have hl : us.length = n := by simpa using h.1
  subst hl
  exact ⟨SV.of_own h fun _ _ hk => hk, .inl h⟩
theorem Rw.nil (E : TypeId) (w : World) : Rw E w (.slice none 0 0) [] := Rw.own (World.ownsRow_nil _ _ _ _)

section
variable {P : Program} (w : World)
/-- append onto such a row. -/
theorem run_append_rw (t ty e : TypeId) (i : TypeInfo) (z : Value) (bytes : Nat) (ht : P.underlying t = some (.slice e)) (hi : P.info? e = some i) (hz : i.zero = some z)
    (hsize : i.size = 1) (hby : i.bytes = bytes) (hzs : z.cells.size = 1)
    (v : Value) (xs : List Value) (hv : Rw e w v xs) (M : Blocks) (x : Value) (news : List Value) (hx : SV M w x news) (h1 : ∀ u ∈ news, u.oneCell' = true)
    (h63 : xs.length + news.length ≤ maxLen) (hbytes : (xs.length + news.length) * bytes ≤ 140737488355328) :
    ∃ a' c' w', (Builtin.append_ #[t, t] ty #[v, x]).run P w = .ok (.slice a' (xs.length + news.length) c') w' ∧ Rw e w' (.slice a' (xs.length + news.length) c') (xs ++ news) ∧ w.grownBy w' v.ownBlock ∧
      ∀ g, (Value.slice a' (xs.length + news.length) c').ownBlock = some g → v.ownBlock = some g ∨ (w.heap.size ≤ g ∧ g < w'.heap.size) := by
  obtain ⟨hsv, hown | ⟨a, rfl⟩⟩ := hv
  · obtain ⟨v', w', hrun, h2, h3, h4⟩ := run_append_any (P := P) w 0 t ty e i z bytes ht hi hz hsize hby hzs v _ xs hown M x news hx h1 h63 hbytes (Nat.zero_le _)
    obtain ⟨a', c', rfl⟩ := own_shape h2
    refine ⟨a', c', w', hrun, Rw.own h2, h3, fun g hg => ?_⟩
    rcases h4 with h4 | h4
    · exact .inl (h4 ▸ hg)
    · have := (h2.lt g hg).2; rw [h4] at hg; injection hg with hg; exact .inr (by omega)
  · obtain ⟨ax, m, cx, rfl, hm, hmc, hcm, hat⟩ := id hx
    have haddr : ∀ (b off j : Nat), ((⟨b, off, none⟩ : Addr).add j) = ⟨b, off + j, none⟩ := fun b off j => by
      unfold Addr.add
      by_cases hj : j = 0 <;> simp [hj]
    rcases Nat.eq_zero_or_pos m with hm0 | hm0
    · subst hm0
      have hnil : news = [] := List.eq_nil_of_length_eq_zero hm.symm
      subst hnil
      refine ⟨a, xs.length, w, ?_, by simpa using (show Rw e w (.slice a xs.length xs.length) xs from ⟨hsv, .inr ⟨a, rfl⟩⟩), World.grownBy.refl w _, fun g hg => .inl hg⟩
      rcases ax with _ | ad <;> rcases a with _ | bd <;> simp [Builtin.append_, run_underlying ht, Go.sizeOf, typeInfo, hi, Builtin.lenOf, Builtin.firstCells, storeCells, loadCells, loadCellsFrom]
    · obtain ⟨bx, ox, rfl, _, hcx⟩ := hat hm0
      have hnews : ∀ j u, news[j]? = some u → w.cell? ((⟨bx, ox, none⟩ : Addr).add j) = some u := fun j u hu => by rw [haddr]; exact hcx j u hu
      rcases a with _ | ad
      · have hx0 : xs = [] := by
          rcases Nat.eq_zero_or_pos xs.length with h0 | h0
          · exact List.eq_nil_of_length_eq_zero h0
          · obtain ⟨b, off, e', _⟩ := hsv.at_ h0; cases e'
        subst hx0
        obtain ⟨v', w', hrun, h2, h3, h4⟩ := run_append_any (P := P) w 0 t ty e i z bytes ht hi hz hsize hby hzs (.slice none 0 0) 0 [] (World.ownsRow_nil _ _ _ _) M _ news hx h1 (by simpa using h63) (by simpa using hbytes) (Nat.zero_le _)
        obtain ⟨a', c', rfl⟩ := own_shape h2
        rw [show (0 + news.length) = ([] : List Value).length + news.length from rfl] at *
        refine ⟨a', c', w', hrun, Rw.own h2, h3, fun g hg => ?_⟩
        rcases h4 with h4 | h4
        · exact .inl (h4 ▸ hg)
        · have := (h2.lt g hg).2; rw [h4] at hg; injection hg with hg; exact .inr (by omega)
      · have hold : ∀ j u, xs[j]? = some u → w.cell? (ad.add j) = some u := fun j u hu => by
          have hlt : j < xs.length := (List.getElem?_eq_some_iff.1 hu).1
          obtain ⟨b, off, e', _, hc⟩ := hsv.at_ (by omega)
          injection e' with e'
          subst e'
          rw [haddr]; exact hc j u hu
        obtain ⟨v', w', hrun, h2, h3⟩ := run_append_arg_grows (P := P) w t ty e i z 1 bytes ht hi hz hsize hby hzs (by omega) ad xs.length xs.length xs (by omega) hold ⟨bx, ox, none⟩ m cx news (by omega) hnews (by omega) (by omega) (by rw [hm]; exact hbytes)
        rw [hm] at h2
        obtain ⟨a', c', rfl⟩ := own_shape h2
        refine ⟨a', c', w', hrun, Rw.own (ownsRow_base h2 fun _ _ => Nat.zero_le _), ⟨h3.os, h3.tape, h3.output, h3.size, fun k hk _ => h3.block k hk (by simp)⟩, fun g hg => .inr (h2.lt g hg)⟩

theorem wp_append_rw {o : Oper} {a : Act} {K : Act → World → Prop} {Q : Exit → Act → World → Prop} (s x : Operand) (t : TypeId)
    (ho : o.op = .call { callee := .builtin .append, args := #[s, x], argTypes := #[t, t] })
    (e : TypeId) (i : TypeInfo) (z : Value) (bytes : Nat) (ht : P.underlying t = some (.slice e)) (hi : P.info? e = some i) (hz : i.zero = some z)
    (hsize : i.size = 1) (hby : i.bytes = bytes) (hzs : z.cells.size = 1)
    (v : Value) (xs : List Value) (hs : a.eval s = v) (hv : Rw e w v xs) (M : Blocks) (vx : Value) (news : List Value) (hvx : a.eval x = vx) (hx : SV M w vx news) (h1 : ∀ u ∈ news, u.oneCell' = true)
    (r : Nat) (hr : xs.length + news.length = r) (h63 : r ≤ maxLen) (hbytes : r * bytes ≤ 140737488355328)
    (h : ∀ a' c' w', Rw e w' (.slice a' r c') (xs ++ news) → w.grownBy w' v.ownBlock → (∀ g, (Value.slice a' r c').ownBlock = some g → v.ownBlock = some g ∨ (w.heap.size ≤ g ∧ g < w'.heap.size)) → K (a.put o.dst (.slice a' r c')) w') : o.wp P a w K Q := by
  subst hr
  obtain ⟨a', c', w', hrun, h2, h3, h4⟩ := run_append_rw (P := P) w t o.type e i z bytes ht hi hz hsize hby hzs v xs hv M vx news hx h1 h63 hbytes
  unfold Oper.wp execOp
  simp only [ho, resolve, invoke, builtin, Sem.run_bind, Sem.run_pure, Result.andThen_ok, List.map_toArray, List.map_cons, List.map_nil, hs, hvx, hrun]
  exact h a' c' w' h2 h3 h4
theorem wpList_append_rw {ops : Array Oper} {rest : List Oper} {o : Oper} {a : Act} {Q : Exit → Act → World → Prop} (hgd : o.guard = none) (s x : Operand) (t : TypeId)
    (ho : o.op = .call { callee := .builtin .append, args := #[s, x], argTypes := #[t, t] })
    (e : TypeId) (i : TypeInfo) (z : Value) (bytes : Nat) (ht : P.underlying t = some (.slice e)) (hi : P.info? e = some i) (hz : i.zero = some z)
    (hsize : i.size = 1) (hby : i.bytes = bytes) (hzs : z.cells.size = 1)
    (v : Value) (xs : List Value) (hs : a.eval s = v) (hv : Rw e w v xs) (M : Blocks) (vx : Value) (news : List Value) (hvx : a.eval x = vx) (hx : SV M w vx news) (h1 : ∀ u ∈ news, u.oneCell' = true)
    (r : Nat) (hr : xs.length + news.length = r) (h63 : r ≤ maxLen) (hbytes : r * bytes ≤ 140737488355328)
    (h : ∀ a' c' w', Rw e w' (.slice a' r c') (xs ++ news) → w.grownBy w' v.ownBlock → (∀ g, (Value.slice a' r c').ownBlock = some g → v.ownBlock = some g ∨ (w.heap.size ≤ g ∧ g < w'.heap.size)) → wpList P ops Q rest (a.put o.dst (.slice a' r c')) w') : wpList P ops Q (o :: rest) a w :=
  wpList_plain hgd fun _ hK => wp_append_rw w s x t ho e i z bytes ht hi hz hsize hby hzs v xs hs hv M vx news hvx hx h1 r hr h63 hbytes fun a' c' w' h2 h3 h4 => hK _ _ (h a' c' w' h2 h3 h4)
theorem step_append_rw {ops : Array Oper} {o : Oper} {a : Act} {K : Act → World → Prop} {Q : Exit → Act → World → Prop} {E : Prop} (hgd : o.guard = none) (s x : Operand) (t : TypeId)
    (ho : o.op = .call { callee := .builtin .append, args := #[s, x], argTypes := #[t, t] })
    (e : TypeId) (i : TypeInfo) (z : Value) (bytes : Nat) (ht : P.underlying t = some (.slice e)) (hi : P.info? e = some i) (hz : i.zero = some z)
    (hsize : i.size = 1) (hby : i.bytes = bytes) (hzs : z.cells.size = 1)
    (v : Value) (xs : List Value) (hs : a.eval s = v) (hv : Rw e w v xs) (M : Blocks) (vx : Value) (news : List Value) (hvx : a.eval x = vx) (hx : SV M w vx news) (h1 : ∀ u ∈ news, u.oneCell' = true)
    (r : Nat) (hr : xs.length + news.length = r) (h63 : r ≤ maxLen) (hbytes : r * bytes ≤ 140737488355328)
    (h : ∀ a' c' w', Rw e w' (.slice a' r c') (xs ++ news) → w.grownBy w' v.ownBlock → (∀ g, (Value.slice a' r c').ownBlock = some g → v.ownBlock = some g ∨ (w.heap.size ≤ g ∧ g < w'.heap.size)) → K (a.put o.dst (.slice a' r c')) w') :
    if Region.wanted o (yielded ops a.tmps) = true then Oper.wp P o a w K Q else E := by
  have hw : Region.wanted o (yielded ops a.tmps) = true := by simp [Region.wanted, hgd]
  rw [if_pos hw]
  exact wp_append_rw w s x t ho e i z bytes ht hi hz hsize hby hzs v xs hs hv M vx news hvx hx h1 r hr h63 hbytes h
end

/-- The blocks of rows in a block's cells. -/
def RF (p : Nat) (vs : List Value) : Blocks := fun k => k = p ∨ ∃ v ∈ vs, v.ownBlock = some k
/-- Rows of slices of bytes (element type E) in the first cells of block p (type T), whatever cells behind them; R: what else may turn. -/
def RowsAt (E T : TypeId) (tail : List Value) (R : Blocks) (w : World) (p : Nat) (vs : List Value) (Ls : List (List (List UInt8))) : Prop :=
  vs.length = Ls.length ∧ w.heap[p]? = some (.cells (vs ++ tail).toArray T (0, 0)) ∧
  (∀ (i : Nat) v L, vs[i]? = some v → Ls[i]? = some L → ∃ us, Rw E w v us ∧ SLV (fun k => RF p vs k ∨ R k) w us L) ∧
  (∀ (i : Nat) v g, vs[i]? = some v → v.ownBlock = some g → g ≠ p ∧ g < w.heap.size) ∧
  (∀ (i j : Nat) v v' g, i ≠ j → vs[i]? = some v → vs[j]? = some v' → v.ownBlock = some g → v'.ownBlock ≠ some g)
theorem RowsAt.lt {E T : TypeId} {tail : List Value} {R : Blocks} {w : World} {p : Nat} {vs : List Value} {Ls : List (List (List UInt8))} (h : RowsAt E T tail R w p vs Ls) : ∀ k, RF p vs k → k < w.heap.size := by
  obtain ⟨_, hh, _, h4, _⟩ := h
  rintro k (rfl | ⟨v, hv, hk⟩)
  · rcases Nat.lt_or_ge k w.heap.size with hl | hl
    · exact hl
    · rw [Array.getElem?_eq_none hl] at hh; cases hh
  · obtain ⟨i, hi, rfl⟩ := List.getElem_of_mem hv
    exact (h4 i _ k (List.getElem?_eq_getElem hi) hk).2
theorem RowsAt.keep {E T : TypeId} {tail : List Value} {R R' K : Blocks} {w w' : World} {p : Nat} {vs : List Value} {Ls : List (List (List UInt8))} (h : RowsAt E T tail R w p vs Ls) (hk : Keeps K w w') (hf : ∀ k, RF p vs k → ¬ K k)
    (hK : ∀ k, k < w.heap.size → K k → R k) (hm : ∀ k, k < w.heap.size → R' k → R k) : RowsAt E T tail R' w' p vs Ls := by
  have hp := h.lt p (.inl rfl)
  obtain ⟨h1, hh, h3, h4, h5⟩ := h
  refine ⟨h1, (hk.block p hp (hf p (.inl rfl))).trans hh, fun i v L hv hL => ?_, fun i v g hv hg => ⟨(h4 i v g hv hg).1, Nat.lt_of_lt_of_le (h4 i v g hv hg).2 hk.size⟩, h5⟩
  obtain ⟨us, hr, hs⟩ := h3 i v L hv hL
  refine ⟨us, hr.keep hk fun g hg => hf g (.inr ⟨v, List.mem_of_getElem? hv, hg⟩), hs.shift hk (fun k hl hk' => .inr (hK k hl hk')) fun k hl hk' => hk'.imp id (hm k hl)⟩
theorem RowsAt.cells {E T : TypeId} {tail : List Value} {R : Blocks} {w : World} {p : Nat} {vs : List Value} {Ls : List (List (List UInt8))} (h : RowsAt E T tail R w p vs Ls) (i : Nat) :
    w.cell? ⟨p, i, none⟩ = (vs ++ tail)[i]? ∧ w.frozen? ⟨p, i, none⟩ = false := by
  obtain ⟨_, hh, _⟩ := h
  exact ⟨by rw [cell_of_row _ _ i _ _ _ hh]; simp, frozen_of_row _ _ _ _ _ hh⟩
theorem RowsAt.row {E T : TypeId} {tail : List Value} {R : Blocks} {w : World} {p : Nat} {vs : List Value} {Ls : List (List (List UInt8))} (h : RowsAt E T tail R w p vs Ls) {i : Nat} {L : List (List UInt8)} (hL : Ls[i]? = some L) :
    ∃ a n c us, vs[i]? = some (.slice a n c) ∧ n = L.length ∧ us.length = L.length ∧ n ≤ c ∧ c ≤ maxLen ∧ Rw E w (.slice a n c) us ∧ SLV (fun k => RF p vs k ∨ R k) w us L ∧ w.cell? ⟨p, i, none⟩ = some (.slice a n c) ∧ w.frozen? ⟨p, i, none⟩ = false := by
  have hc := h.cells i
  obtain ⟨h1, hh, h3, h4, h5⟩ := h
  have hil : i < Ls.length := (List.getElem?_eq_some_iff.1 hL).1
  obtain ⟨us, hr, hs⟩ := h3 i vs[i] L (List.getElem?_eq_getElem (by omega)) hL
  have hv : vs[i]? = some vs[i] := List.getElem?_eq_getElem (by omega)
  generalize vs[i] = v at *
  obtain ⟨a, n, c, rfl, hn, hnc, hcm⟩ := hr.1.opened
  refine ⟨a, n, c, us, hv, by rw [hn]; exact hs.1, hs.1, hnc, hcm, hr, hs, ?_, hc.2⟩
  rw [hc.1, List.getElem?_append_left (by omega)]; exact hv
/-- A row written anew: its new value stands in the cell; the other rows are as they were. -/
theorem RowsAt.put {E T : TypeId} {tail : List Value} {R : Blocks} {w w1 w2 : World} {p i : Nat} {vs : List Value} {Ls : List (List (List UInt8))} {v v' : Value} {us' : List Value} {L' : List (List UInt8)} (h : RowsAt E T tail R w p vs Ls)
    (hi : vs[i]? = some v) (hk1 : Keeps No w w1) (hg0 : w1.grownBy w2 v.ownBlock) (hr : Rw E w2 v' us')
    (hfr0 : ∀ g, v'.ownBlock = some g → v.ownBlock = some g ∨ (w1.heap.size ≤ g ∧ g < w2.heap.size))
    (hs : SLV (fun k => RF p vs k ∨ R k) w1 us' L') :
    RowsAt E T tail R (w2.setCell ⟨p, i, none⟩ v') p (vs.set i v') (Ls.set i L') ∧ Keeps (RF p vs) w (w2.setCell ⟨p, i, none⟩ v') ∧ ∀ k, RF p (vs.set i v') k → RF p vs k ∨ w1.heap.size ≤ k := by
  have hg := hg0
  have hp := h.lt p (.inl rfl)
  have hlt := h.lt
  obtain ⟨h1, hh, h3, h4, h5⟩ := h
  have hfr : ∀ g, v'.ownBlock = some g → v.ownBlock = some g ∨ w1.heap.size ≤ g := fun g hg => (hfr0 g hg).imp id And.left
  have hlt2 : ∀ g, v'.ownBlock = some g → g < w2.heap.size := fun g hg => by
    rcases hfr0 g hg with h | h
    · have := (h4 i v g hi h).2; have := hk1.size; have := hg0.size; omega
    · exact h.2
  have hil : i < vs.length := (List.getElem?_eq_some_iff.1 hi).1
  have hvm : v ∈ vs := List.mem_of_getElem? hi
  have hp1 : p < w1.heap.size := Nat.lt_of_lt_of_le hp hk1.size
  have hvp : v.ownBlock ≠ some p := fun e => (h4 i v p hi e).1 rfl
  have hgK : Keeps (RF p vs) w w2 := hk1.weak.grown hg fun g e _ => .inr ⟨v, hvm, e⟩
  have hK : Keeps (RF p vs) w (w2.setCell ⟨p, i, none⟩ v') := hgK.setCell (p := ⟨p, i, none⟩) (fun _ => .inl rfl) _
  have hh2 : w2.heap[p]? = some (.cells (vs ++ tail).toArray T (0, 0)) := (hg.block p hp1 fun e => hvp e.symm).trans ((hk1.block p hp fun hk => hk).trans hh)
  have hset : Keeps (Only p) w2 (w2.setCell ⟨p, i, none⟩ v') := (Keeps.refl _ _).only _ _
  have hnew : ∀ k, RF p (vs.set i v') k → RF p vs k ∨ w1.heap.size ≤ k := by
    rintro k (rfl | ⟨x, hx, hk⟩)
    · exact .inl (.inl rfl)
    · rcases List.mem_or_eq_of_mem_set hx with hx | rfl
      · exact .inl (.inr ⟨x, hx, hk⟩)
      · rcases hfr k hk with h | h
        · exact .inl (.inr ⟨v, hvm, h⟩)
        · exact .inr h
  have hv'p : ∀ g, v'.ownBlock = some g → g ≠ p := fun g hg e => by
    subst e
    rcases hfr _ hg with h | h
    · exact hvp h
    · omega
  have hsz : w1.heap.size ≤ w2.heap.size := hg.size
  refine ⟨⟨by simp [h1], ?_, fun j x L hx hL => ?_, fun j x g hx hgx => ?_, fun j k x y g hjk hx hy hgx => ?_⟩, hK, hnew⟩
  · rw [heap_setCell_same _ p i _ T _ hh2]
    congr 2
    simp [hil]
  · rw [List.getElem?_set] at hx hL
    by_cases hj : i = j
    · subst hj
      rw [if_pos rfl, if_pos hil] at hx
      rw [if_pos rfl, if_pos (by omega)] at hL
      injection hx with hx; injection hL with hL
      subst hx; subst hL
      refine ⟨us', hr.keep hset fun g hg e => hv'p g hg e, ?_⟩
      have hk12 : Keeps (RF p vs) w1 (w2.setCell ⟨p, i, none⟩ v') := ((Keeps.refl _ _).grown hg fun g e _ => .inr ⟨v, hvm, e⟩).setCell (p := ⟨p, i, none⟩) (fun _ => .inl rfl) _
      exact hs.shift hk12 (fun k _ hk => .inl hk) fun k hl hk => hk.elim (fun hk => (hnew k hk).elim .inl fun h => by omega) .inr
    · rw [if_neg hj] at hx hL
      obtain ⟨us, hr0, hs0⟩ := h3 j x L hx hL
      refine ⟨us, (hr0.keep hk1 fun _ _ hk => hk).keep (K := fun k => v.ownBlock = some k ∨ k = p) (((Keeps.refl _ _).grown hg fun g e _ => .inl e).setCell (p := ⟨p, i, none⟩) (fun _ => .inr rfl) _) (fun g hg hK => ?_), hs0.shift hK (fun k _ hk => .inl hk) fun k hl hk => hk.elim (fun hk => (hnew k hk).elim .inl fun h => by have := hk1.size; omega) .inr⟩
      rcases hK with hK | hK
      · exact h5 j i x v g (fun e => hj e.symm) hx hi hg hK
      · exact (h4 j x g hx hg).1 hK
  · have hsw : (w2.setCell ⟨p, i, none⟩ v').heap.size = w2.heap.size := by simp [World.setCell]
    rw [List.getElem?_set] at hx
    by_cases hj : i = j
    · subst hj
      rw [if_pos rfl, if_pos hil] at hx
      injection hx with hx; subst hx
      exact ⟨hv'p g hgx, by rw [hsw]; exact hlt2 g hgx⟩
    · rw [if_neg hj] at hx
      exact ⟨(h4 j x g hx hgx).1, by rw [hsw]; have := (h4 j x g hx hgx).2; have := hk1.size; omega⟩
  · rw [List.getElem?_set] at hx hy
    by_cases hj : i = j
    · subst hj
      rw [if_pos rfl, if_pos hil] at hx
      rw [if_neg hjk] at hy
      injection hx with hx; subst hx
      intro hgy
      rcases hfr g hgx with h | h
      · exact h5 i k v y g hjk hi hy h hgy
      · have := (h4 k y g hy hgy).2; have := hk1.size; omega
    · rw [if_neg hj] at hx
      by_cases hk : i = k
      · subst hk
        rw [if_pos rfl, if_pos hil] at hy
        injection hy with hy; subst hy
        intro hgy
        rcases hfr g hgy with h | h
        · exact h5 j i x v g (fun e => hj e.symm) hx hi hgx h
        · have := (h4 j x g hx hgx).2; have := hk1.size; omega
      · rw [if_neg hk] at hy
        exact h5 j k x y g hjk hx hy hgx
end Wm
