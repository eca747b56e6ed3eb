/- The walks of a net: may, New, Send. -/
import Derived.Test.YtdkmfppdiggpfaaND
import Derived.Deep.RegionHeld3
namespace Go.Proofs.Ytdkmfppdiggpfaa
open Go.RowKit Wm

/-- A number is answered, nothing is turned. -/
def PInt (z : Int) (w : World) (e : Ending) (w' : World) : Prop := e = .returned (.int .i64 z) ∧ w = w'
theorem may_ok (p : Nat) (z : Int) (w : World) (hc : w.cell? ⟨p, 4, none⟩ = some (.bool true)) (h0 : 0 ≤ z) (h2 : z < 2) :
    Calls Try.prog 46 #[.pointer (some ⟨p, 0, none⟩), .int .i64 z] w (PInt 0 w) := by
  go_enter Try.func46, Try.ntmps46
  go_wp2_with fail
  go_ret
  exact ⟨rfl, rfl⟩
theorem may_out (p : Nat) (z : Int) (w : World) (hc : w.cell? ⟨p, 4, none⟩ = some (.bool true)) (h0 : z < 0 ∨ 2 ≤ z) :
    Calls Try.prog 46 #[.pointer (some ⟨p, 0, none⟩), .int .i64 z] w (PInt 2 w) := by
  go_enter Try.func46, Try.ntmps46
  rcases h0 with h0 | h0
  · go_wp2_with fail
    go_ret
    exact ⟨rfl, rfl⟩
  · have h1 : ¬ z < 0 := by omega
    go_wp2_with fail
    go_ret
    exact ⟨rfl, rfl⟩
theorem may_none (z : Int) (w : World) :
    Calls Try.prog 46 #[.pointer none, .int .i64 z] w (PInt 1 w) := by
  go_enter Try.func46, Try.ntmps46
  go_wp2_with fail
  go_ret
  exact ⟨rfl, rfl⟩
theorem may_plain (p : Nat) (z : Int) (w : World) (hc : w.cell? ⟨p, 4, none⟩ = some (.bool false)) :
    Calls Try.prog 46 #[.pointer (some ⟨p, 0, none⟩), .int .i64 z] w (PInt 1 w) := by
  go_enter Try.func46, Try.ntmps46
  go_wp2_with fail
  go_ret
  exact ⟨rfl, rfl⟩

theorem RowsAt.fresh (T : TypeId) (tail : List Value) (R : Blocks) (w : World) (n p : Nat) (hp : p = w.heap.size) : RowsAt 47 T tail R (w.alloc (.cells (List.replicate n (Value.slice none 0 0) ++ tail).toArray T (0, 0))) p (List.replicate n (.slice none 0 0)) (List.replicate n []) := by
  subst hp
  refine ⟨by simp, heap_alloc_new w _, fun i v L hv hL => ?_, fun i v g hv hg => ?_, fun i j v v' g _ hv _ hg => ?_⟩
  · rw [List.getElem?_replicate] at hv hL
    split at hv
    · cases hv; rename_i hlt; rw [if_pos hlt] at hL; cases hL
      exact ⟨[], Rw.nil _ _, SLV.nil _ _⟩
    · cases hv
  · rw [List.getElem?_replicate] at hv
    split at hv
    · cases hv; cases hg
    · cases hv
  · rw [List.getElem?_replicate] at hv
    split at hv
    · cases hv; cases hg
    · cases hv
theorem new_any (R : Blocks) (w : World) :
    Calls Try.prog 31 #[] w fun e w' => e = .returned (.pointer (some ⟨w.heap.size, 0, none⟩)) ∧ w' = w.alloc (.cells (List.replicate 4 (Value.slice none 0 0) ++ [Value.bool true]).toArray 86 (0, 0)) ∧ RowsAt 47 86 [.bool true] R w' w.heap.size (List.replicate 4 (.slice none 0 0)) (List.replicate 4 []) := by
  go_enter Try.func31, Try.ntmps31
  go_wp2_with fail
  go_ret
  exact ⟨rfl, rfl, RowsAt.fresh 86 [.bool true] R w 4 _ rfl⟩

theorem RowsAt.made {T : TypeId} {R : Blocks} {w : World} {p : Nat} {vs : List Value} {Ls : List (List (List UInt8))} (h : RowsAt 47 T [.bool true] R w p vs Ls) (h4 : Ls.length = 4) : w.cell? ⟨p, 4, none⟩ = some (.bool true) := by
  rw [(h.cells 4).1]
  have hv : vs.length = 4 := h.1.trans h4
  rw [List.getElem?_append_right (by omega), hv]; rfl
def sendC (l : List (List UInt8)) : Int := if l.length < 64 then 0 else 40
set_option maxRecDepth 20000 in
set_option maxHeartbeats 4000000 in
theorem send_any (M R : Blocks) (p k : Nat) (wy : Int) (vs : List Value) (Ls : List (List (List UInt8))) (l al : List (List UInt8)) (v : Value) (ls : List (List UInt8)) (w : World) (h : RowsAt 47 86 [.bool true] R w p vs Ls)
    (h4 : Ls.length = 4) (hw0 : 0 ≤ wy) (hw2 : wy < 2) (hk : k = 2 * wy.toNat) (hl : Ls[k]? = some l) (ha : Ls[k + 1]? = some al) (hx : SL M w v ls) (hR : ∀ g, R g → g < w.heap.size)
    (hll : l.length ≤ 1048576) (hal : al.length ≤ 1048576) (hsm : ls.flatten.length ≤ 16777216) :
    Calls Try.prog 32 #[.pointer (some ⟨p, 0, none⟩), .int .i64 wy, v] w (PRows 86 [.bool true] R p vs (.int .i64 (sendC l)) (putLs k Ls l al ls.flatten) w) := by
  have hmay := may_ok p wy w (RowsAt.made h h4) hw0 hw2
  have hlt : ∀ q, RF p vs q ∨ R q → q < w.heap.size := fun q hq => hq.elim (h.lt q) (hR q)
  have hcat : ∀ w', Keeps No w w' → Calls Try.prog 48 #[v] w' fun e w4 => ∃ u, e = .returned u ∧ SV (fun q => RF p vs q ∨ R q) w4 u (ls.flatten.map bv) ∧ Keeps No w w4 := fun w' hk =>
    (concat_any M v ls w' (hx.keep hk fun _ _ hk => hk.elim) hsm).mono fun e w4 ⟨a4, r4, c4, he, hown4, hk4⟩ => ⟨_, he, SV.of_own hown4 (fun g hg hq => by have := (hown4.lt g hg).1; have := hlt g hq; have := hk.size; omega), hk.then_ hk4⟩
  have hput : ∀ w' u, Keeps No w w' → SV (fun q => RF p vs q ∨ R q) w' u (ls.flatten.map bv) → Calls Try.prog 47 #[.pointer (some ⟨p, k, none⟩), u, .int .i64 64] w' (PRows 86 [.bool true] R p vs (.bool (roomB l)) (putLs k Ls l al ls.flatten) w') :=
    fun w' u hk' hu => nput_any 86 [.bool true] R p k vs Ls l al u ls.flatten w' (h.keep hk' (fun _ _ hk => hk) (fun _ _ hk => hk.elim) fun _ _ hk => hk) hl ha hu hll hal
  have Hm := hid hmay
  have Hc := hid hcat
  have Hp := hid hput
  clear hmay hcat hput h hl ha hx hll hal hsm hR
  have hwy : wy = 0 ∨ wy = 1 := by omega
  rcases hwy with rfl | rfl
  all_goals (first | (replace hk : k = 0 := hk; subst hk) | (replace hk : k = 2 := hk; subst hk))
  all_goals
   go_enter Try.func32, Try.ntmps32
   go_wp2_with fail
   refine Hm.out.mono ?_
   rintro e w1 ⟨rfl, rfl⟩
   go_wp2_with fail
  all_goals
    go_region_held3 (fun _ => True) (trivial)
     (first
      | (go_at_call 48; refine (Hc.out _ (Keeps.refl No w).drew).mono ?_; rintro e w4 ⟨u4, rfl, hsv4, hk4⟩)
      | (go_at_call 47; refine (Hp.out _ _ hk4 hsv4).mono ?_; rintro e w5 ⟨rfl, hr5⟩))
  all_goals
    have hres : ∀ z, sendC l = z → ∃ vs', RowsAt 47 86 [.bool true] R w5 p vs' (putLs _ Ls l al ls.flatten) ∧ Keeps (RF p vs) w w5 ∧ ∀ q, RF p vs' q → RF p vs q ∨ w.heap.size ≤ q := fun _ _ => by
      obtain ⟨vs', h1, h2, h3⟩ := hr5
      have := hk4.size
      exact ⟨vs', h1, hk4.weak.trans h2 fun _ _ hk => hk, fun q hq => (h3 q hq).imp id fun h => by omega⟩
    have Hres := hid hres
    clear hres hr5 hk4 hsv4 hlt Hc Hm Hp hw0 hw2
    rcases Nat.lt_or_ge l.length 64 with h64 | h64
    · have hb : roomB l = true := decide_eq_true h64
      have hc : sendC l = 0 := by unfold sendC; rw [if_pos h64]
      rw [hb]
      go_wp2_with fail
      go_ret
      exact ⟨by rw [hc]; rfl, Hres.out _ rfl⟩
    · have hb : roomB l = false := decide_eq_false (by omega)
      have hc : sendC l = 40 := by unfold sendC; rw [if_neg (by omega)]
      rw [hb]
      go_wp2_with fail
      go_ret
      exact ⟨by rw [hc]; rfl, Hres.out _ rfl⟩
theorem send_bad (c : Int) (pv v : Value) (wy : Int) (w : World) (hm : Calls Try.prog 46 #[pv, .int .i64 wy] w (PInt c w)) (hc : c ≠ 0) :
    Calls Try.prog 32 #[pv, .int .i64 wy, v] w (PInt c w) := by
  have Hm := hid hm
  clear hm
  go_enter Try.func32, Try.ntmps32
  go_wp2_with fail
  refine Hm.out.mono ?_
  rintro e w1 ⟨rfl, rfl⟩
  go_wp2_with fail
  go_ret
  exact ⟨rfl, rfl⟩
end Go.Proofs.Ytdkmfppdiggpfaa
