/- What a step leaves beside its own blocks; the disk that isn't there, and the one that isn't made. -/
import Derived.Test.YtkblcdjkabiliaaWT
import Derived.Test.YtkblcdjkabiliaaJpl
namespace Go.Proofs.Ytkblcdjkabiliaa
open Go.RowKit Wm

theorem ok_nil (w : World) : Calls Try.prog 59 #[.pointer none] w fun e w' => e = .returned (.int .i64 1) ∧ w = w' := by
  go_enter Try.func59, Try.ntmps59
  go_wp2
  go_ret
  exact ⟨rfl, rfl⟩
theorem ok_plain (g : Nat) (w : World) (h : w.cell? ⟨g, 3, none⟩ = some (.bool false)) : Calls Try.prog 59 #[.pointer (some ⟨g, 0, none⟩)] w fun e w' => e = .returned (.int .i64 1) ∧ w = w' := by
  go_enter Try.func59, Try.ntmps59
  go_wp2
  go_ret
  exact ⟨rfl, rfl⟩
theorem down_nil (w : World) : Calls Try.prog 37 #[.pointer none] w fun e w' => e = .returned (.bool false) ∧ w = w' := by
  go_enter Try.func37, Try.ntmps37
  go_wp2_with fail
  refine (ok_nil _).mono ?_
  rintro e w1 ⟨rfl, rfl⟩
  go_wp2_with fail
  go_ret
  exact ⟨rfl, rfl⟩
theorem down_plain (g : Nat) (w : World) (h : w.cell? ⟨g, 3, none⟩ = some (.bool false)) : Calls Try.prog 37 #[.pointer (some ⟨g, 0, none⟩)] w fun e w' => e = .returned (.bool false) ∧ w = w' := by
  go_enter Try.func37, Try.ntmps37
  go_wp2_with fail
  refine (ok_plain g _ h).mono ?_
  rintro e w1 ⟨rfl, rfl⟩
  go_wp2_with fail
  go_ret
  exact ⟨rfl, rfl⟩
theorem up_nil (w : World) : Calls Try.prog 32 #[.pointer none] w fun e w' => e = .returned (.tuple #[]) ∧ w = w' := by
  go_enter Try.func32, Try.ntmps32
  go_wp2_with fail
  refine (down_nil _).mono ?_
  rintro e w1 ⟨rfl, rfl⟩
  go_wp2_with fail
  refine bodyPost_ret (results_none rfl _ _ _) rfl ?_
  exact ⟨rfl, rfl⟩
theorem bytes_nil (w : World) : Calls Try.prog 46 #[.pointer none] w fun e w' => e = .returned (.tuple #[.slice none 0 0, .int .i64 1]) ∧ w = w' := by
  go_enter Try.func46, Try.ntmps46
  go_wp2_with fail
  refine (ok_nil _).mono ?_
  rintro e w1 ⟨rfl, rfl⟩
  go_wp2_with fail
  go_ret2
  exact ⟨rfl, rfl⟩
theorem put_nil (v : Value) (w : World) : Calls Try.prog 40 #[.pointer none, v] w fun e w' => e = .returned (.int .i64 1) ∧ w = w' := by
  go_enter Try.func40, Try.ntmps40
  go_wp2_with fail
  refine (ok_nil _).mono ?_
  rintro e w1 ⟨rfl, rfl⟩
  go_wp2_with fail
  go_ret
  exact ⟨rfl, rfl⟩
theorem len_nil (w : World) : Calls Try.prog 47 #[.pointer none] w fun e w' => e = .returned (.int .i64 0) ∧ w = w' := by
  go_enter Try.func47, Try.ntmps47
  go_wp2
  go_ret
  exact ⟨rfl, rfl⟩
theorem arm_plain (g : Nat) (x y : Int) (w : World) (h : w.cell? ⟨g, 3, none⟩ = some (.bool false)) : Calls Try.prog 30 #[.pointer (some ⟨g, 0, none⟩), .int .i64 x, .int .i64 y] w fun e w' => e = .returned (.tuple #[]) ∧ w = w' := by
  go_enter Try.func30, Try.ntmps30
  go_wp2_with fail
  refine (ok_plain g _ h).mono ?_
  rintro e w1 ⟨rfl, rfl⟩
  go_wp2_with fail
  refine bodyPost_end (results_none rfl _ _ _) rfl ?_
  exact ⟨rfl, rfl⟩
theorem flush_plain (g : Nat) (w : World) (h : w.cell? ⟨g, 3, none⟩ = some (.bool false)) : Calls Try.prog 42 #[.pointer (some ⟨g, 0, none⟩)] w fun e w' => e = .returned (.int .i64 1) ∧ w = w' := by
  go_enter Try.func42, Try.ntmps42
  go_wp2_with fail
  refine (ok_plain g _ h).mono ?_
  rintro e w1 ⟨rfl, rfl⟩
  go_wp2_with fail
  go_ret
  exact ⟨rfl, rfl⟩
theorem cut_plain (g : Nat) (x : Int) (w : World) (h : w.cell? ⟨g, 3, none⟩ = some (.bool false)) : Calls Try.prog 44 #[.pointer (some ⟨g, 0, none⟩), .int .i64 x] w fun e w' => e = .returned (.int .i64 1) ∧ w = w' := by
  go_enter Try.func44, Try.ntmps44
  go_wp2_with fail
  refine (ok_plain g _ h).mono ?_
  rintro e w1 ⟨rfl, rfl⟩
  go_wp2_with fail
  go_ret
  exact ⟨rfl, rfl⟩
theorem pend_plain (g : Nat) (w : World) (h0 : w.cell? ⟨g, 0, none⟩ = some (.slice none 0 0)) (h2 : w.cell? ⟨g, 2, none⟩ = some (.int .i64 0)) :
    Calls Try.prog 48 #[.pointer (some ⟨g, 0, none⟩)] w fun e w' => e = .returned (.int .i64 0) ∧ ∃ m, w' = w.drewN m := by
  go_enter Try.func48, Try.ntmps48
  go_wp2
  go_quiet (fail)
  go_wp2
  go_ret
  exact ⟨rfl, _, rfl⟩

/-- What a step that may write M leaves: all else; and M' is M but for new blocks. -/
structure St (M M' : Blocks) (w w' : World) : Prop where
  keeps : Keeps M w w'
  fresh : ∀ k, M' k → M k ∨ w.heap.size ≤ k
theorem St.refl (M : Blocks) (w : World) : St M M w w := ⟨Keeps.refl _ _, fun _ hk => .inl hk⟩
theorem St.no {M : Blocks} {w w' : World} (h : Keeps No w w') : St M M w w' := ⟨h.weak, fun _ hk => .inl hk⟩
theorem St.trans {M M1 M2 : Blocks} {a b c : World} (h : St M M1 a b) (h' : St M1 M2 b c) : St M M2 a c :=
  ⟨h.keeps.trans h'.keeps fun k hl hk => (h.fresh k hk).elim id fun h => by omega, fun k hk => (h'.fresh k hk).elim (h.fresh k) fun g => .inr (Nat.le_trans h.keeps.size g)⟩
theorem St.sv {M M' : Blocks} {w w' : World} {v : Value} {us : List Value} (h : St M M' w w') (hv : SV M w v us) : SV M' w' v us :=
  sv_shift hv h.keeps (fun _ _ hk => hk) fun k hl hk => (h.fresh k hk).elim id fun g => by omega
theorem St.sb {M M' : Blocks} {w w' : World} {v : Value} {l : List UInt8} (h : St M M' w w') (hv : SB M w v l) : SB M' w' v l := St.sv h hv
theorem St.sl {M M' : Blocks} {w w' : World} {v : Value} {ls : List (List UInt8)} (h : St M M' w w') (hv : SL M w v ls) : SL M' w' v ls :=
  sl_shift hv h.keeps (fun _ _ hk => hk) fun k hl hk => (h.fresh k hk).elim id fun g => by omega
theorem St.sd {M M' : Blocks} {w w' : World} {v : Value} {ls : List DoS} (h : St M M' w w') (hv : SD M w v ls) : SD M' w' v ls :=
  hv.shift h.keeps (fun _ _ hk => hk) fun k hl hk => (h.fresh k hk).elim id fun g => by omega
theorem St.block {M M' : Blocks} {w w' : World} {g : Nat} {o : Obj} (h : St M M' w w') (hg : w.heap[g]? = some o) (hn : ¬ M g) : w'.heap[g]? = some o ∧ ¬ M' g := by
  have hl : g < w.heap.size := by
    rcases Nat.lt_or_ge g w.heap.size with hl | hl
    · exact hl
    · rw [Array.getElem?_eq_none hl] at hg; cases hg
  refine ⟨(h.keeps.block g hl hn).trans hg, fun hk => ?_⟩
  rcases h.fresh g hk with h | h
  · exact hn h
  · omega
/-- A doing's copy in a block of its own. -/
theorem St.doing {M M' : Blocks} {w w' : World} {g : Nat} {y : DoS} {u : Value} (h : St M M' w w') (hd : w.heap[g]? = some (.cells #[.int .i64 y.kind, .int .i64 y.n, .int .i64 y.keep, u] 63 (0, 0)) ∧ SB M w u y.b ∧ ¬ M g) :
    w'.heap[g]? = some (.cells #[.int .i64 y.kind, .int .i64 y.n, .int .i64 y.keep, u] 63 (0, 0)) ∧ SB M' w' u y.b ∧ ¬ M' g := by
  obtain ⟨h1, h2⟩ := h.block hd.1 hd.2.2
  exact ⟨h1, h.sb hd.2.1, h2⟩
theorem DK.st {p : Nat} {v : Value} {s' : Wn.Dsk} {w w' : World} (h : DK p v s' w w') : ∃ v', DiskAt w' p v' s' ∧ St (Foot p v) (Foot p v') w w' := by
  obtain ⟨v', h1, h2, h3⟩ := h
  exact ⟨v', h1, h2, h3⟩

section
variable {P : Program} (w : World)
/-- append onto a row of the call's own, at a step of a region that draws. -/
theorem step_app {ops : Array Oper} {o : Oper} {a : Act} {K : Act → World → Prop} {Q : Exit → Act → World → Prop} {E : Prop} (hgd : o.guard = none) (s x : Operand) (t : TypeId)
    (ho : o.op = .call { callee := .builtin .append, args := #[s, x], argTypes := #[t, t] })
    (base : Nat) (e : TypeId) (i : TypeInfo) (z : Value) (bytes : Nat) (ht : P.underlying t = some (.slice e)) (hi : P.info? e = some i) (hz : i.zero = some z)
    (hsize : i.size = 1) (hby : i.bytes = bytes) (hzs : z.cells.size = 1)
    (v : Value) (n : Nat) (xs : List Value) (hs : a.eval s = v) (hown : w.ownsRow base e 1 v n xs)
    (M : Blocks) (vx : Value) (news : List Value) (hvx : a.eval x = vx) (hx : SV M w vx news) (h1 : ∀ u ∈ news, u.oneCell' = true)
    (r : Nat) (hr : n + news.length = r) (h63 : r ≤ maxLen) (hbytes : r * bytes ≤ 140737488355328) (hbase : base ≤ w.heap.size)
    (h : ∀ a' c' w', w'.ownsRow base e 1 (.slice a' r c') r (xs ++ news) → w.grownBy w' v.ownBlock → ((Value.slice a' r c').ownBlock = v.ownBlock ∨ (Value.slice a' r c').ownBlock = some w.heap.size) → K (a.put o.dst (.slice a' r c')) w') :
    if Region.wanted o (yielded ops a.tmps) = true then Oper.wp P o a w K Q else E := by
  have hw : Region.wanted o (yielded ops a.tmps) = true := by simp [Region.wanted, hgd]
  rw [if_pos hw]
  subst hr
  refine wp_append_any w s x t ho base e i z bytes ht hi hz hsize hby hzs v n xs hs hown M vx news hvx hx h1 h63 hbytes hbase fun v' w' h2 h3 h4 => ?_
  obtain ⟨a', c', rfl⟩ := own_shape h2
  exact h a' c' w' h2 h3 h4
end
end Go.Proofs.Ytkblcdjkabiliaa
