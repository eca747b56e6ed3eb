/- The walks of a net: Lose, Len, Sent. -/
import Derived.Test.YtdkmfppdiggpfaaNG
namespace Go.Proofs.Ytdkmfppdiggpfaa
open Go.RowKit Wm

theorem lose_bad (c : Int) (pv : Value) (wy z : Int) (w : World) (hm : Calls Try.prog 46 #[pv, .int .i64 wy] w (PInt c w)) (hc : c ≠ 0) :
    Calls Try.prog 36 #[pv, .int .i64 wy, .int .i64 z] w (PInt c w) := by
  have H := hid (take_bad c pv wy z false w hm hc)
  clear hm
  go_enter Try.func36, Try.ntmps36
  go_wp2_with fail
  refine H.out.mono ?_
  rintro e w1 ⟨rfl, rfl⟩
  go_wp2_with fail
  go_ret
  exact ⟨rfl, rfl⟩
theorem lose_any (R : Blocks) (p k : Nat) (wy z : Int) (vs : List Value) (Ls : List (List (List UInt8))) (l : List (List UInt8)) (w : World) (h : RowsAt 47 86 [.bool true] R w p vs Ls)
    (h4 : Ls.length = 4) (hw0 : 0 ≤ wy) (hw2 : wy < 2) (hk : k = 2 * wy.toNat) (hl : Ls[k]? = some l) (hR : ∀ g, R g → g < w.heap.size)
    (hll : l.length ≤ 1048576) (hsm : ∀ x ∈ l, x.length ≤ 16777216) :
    Calls Try.prog 36 #[.pointer (some ⟨p, 0, none⟩), .int .i64 wy, .int .i64 z] w (PRows 86 [.bool true] R p vs (.int .i64 (takeC l z)) (Ls.set k (takeL l z false)) w) := by
  have H := hid (take_any R p k wy z false vs Ls l w h h4 hw0 hw2 hk hl hR hll hsm)
  clear h hl hR hll hsm hw0 hw2 hk h4
  go_enter Try.func36, Try.ntmps36
  go_wp2_with fail
  refine H.out.mono ?_
  rintro e w1 ⟨u, vs', rfl, -, h1, h2, h3⟩
  go_wp2_with fail
  go_ret
  exact ⟨rfl, vs', h1, h2, h3⟩

theorem len_bad (c : Int) (pv : Value) (wy : Int) (w : World) (hm : Calls Try.prog 46 #[pv, .int .i64 wy] w (PInt c w)) (hc : c ≠ 0) :
    Calls Try.prog 38 #[pv, .int .i64 wy] w (PInt 0 w) := by
  have H := hid hm
  clear hm
  go_enter Try.func38, Try.ntmps38
  go_wp2_with fail
  refine H.out.mono ?_
  rintro e w1 ⟨rfl, rfl⟩
  go_wp2_with fail
  go_ret
  exact ⟨rfl, rfl⟩
theorem len_any (R : Blocks) (p k : Nat) (wy : Int) (vs : List Value) (Ls : List (List (List UInt8))) (l : List (List UInt8)) (w : World) (h : RowsAt 47 86 [.bool true] R w p vs Ls)
    (h4 : Ls.length = 4) (hw0 : 0 ≤ wy) (hw2 : wy < 2) (hk : k = 2 * wy.toNat) (hl : Ls[k]? = some l) :
    Calls Try.prog 38 #[.pointer (some ⟨p, 0, none⟩), .int .i64 wy] w (PInt (l.length : Int) w) := by
  have Hm := hid (may_ok p wy w (RowsAt.made h h4) hw0 hw2)
  obtain ⟨a0, n0, c0, us0, hv0, hn0, hu0, hnc0, hcm0, hr0, hs0, hc0, hf0⟩ := h.row hl
  have hwy : wy = 0 ∨ wy = 1 := by omega
  rw [← hn0]
  clear h hl hv0 hn0 hu0 hr0 hs0
  rcases hwy with rfl | rfl
  all_goals (first | (replace hk : k = 0 := hk; subst hk) | (replace hk : k = 2 := hk; subst hk))
  all_goals
    go_enter Try.func38, Try.ntmps38
    go_wp2_with fail
    refine Hm.out.mono ?_
    rintro e w1 ⟨rfl, rfl⟩
    go_wp2_with fail
    go_ret
    exact ⟨rfl, rfl⟩

/-- A yes or no is answered, nothing old is turned. -/
def PB (b : Bool) (w : World) (e : Ending) (w' : World) : Prop := e = .returned (.bool b) ∧ Keeps No w w'
theorem sent_bad (c : Int) (pv : Value) (ya : Option Addr) (yn yc : Nat) (wy : Int) (w : World) (hm : ∀ o, Calls Try.prog 46 #[pv, .int .i64 wy] (w.alloc o) (PInt c (w.alloc o))) (hc : c ≠ 0) :
    Calls Try.prog 39 #[pv, .int .i64 wy, .slice ya yn yc] w (PB false w) := by
  have H := hid hm
  clear hm
  go_enter Try.func39, Try.ntmps39
  go_wp2_with fail
  refine (H.out _).mono ?_
  rintro e w1 ⟨rfl, rfl⟩
  go_wp2_with fail
  go_ret
  exact ⟨rfl, (Keeps.refl _ _).alloc _⟩
theorem sent_any (M R : Blocks) (p k : Nat) (wy : Int) (v : Value) (y : List UInt8) (vs : List Value) (Ls : List (List (List UInt8))) (l : List (List UInt8)) (w : World) (h : RowsAt 47 86 [.bool true] R w p vs Ls)
    (h4 : Ls.length = 4) (hw0 : 0 ≤ wy) (hw2 : wy < 2) (hk : k = 2 * wy.toNat) (hl : Ls[k + 1]? = some l) (hy : SB M w v y) :
    Calls Try.prog 39 #[.pointer (some ⟨p, 0, none⟩), .int .i64 wy, v] w (PB (hasB l y) w) := by
  obtain ⟨ya, yn, yc, rfl, -⟩ := hy.opened
  have hka : ∀ o, Keeps No w (w.alloc o) := fun o => (Keeps.refl _ _).alloc o
  have hm : ∀ o, Calls Try.prog 46 #[.pointer (some ⟨p, 0, none⟩), .int .i64 wy] (w.alloc o) (PInt 0 (w.alloc o)) := fun o => may_ok p wy _ (RowsAt.made (h.keep (R' := R) (hka o) (fun _ _ hk => hk) (fun _ _ hk => hk.elim) fun _ _ hk => hk) h4) hw0 hw2
  obtain ⟨a0, n0, c0, us0, hv0, hn0, hu0, hnc0, hcm0, hr0, hs0, hc0, hf0⟩ := h.row hl
  have hsl : SL No w (.slice a0 n0 c0) l := ⟨us0, hr0.1, hs0.1, fun i x hi => by
    obtain ⟨u, hu, hb⟩ := hs0.2 i x hi
    exact ⟨u, hu, hb.no⟩⟩
  have hcn : ∀ o, Calls Try.prog 51 #[.slice a0 n0 c0, .func (.func 52) #[] #[.pointer (some ⟨w.heap.size, 0, none⟩)]] (w.alloc (.cells #[.slice ya yn yc] o)) (fun e w' => e = .returned (.bool (hasB l y)) ∧ w.alloc (.cells #[.slice ya yn yc] o) = w') := fun o =>
    contains_any No M _ _ l y w.heap.size _ (hsl.keep (hka _) fun _ _ hk => hk) (SV.alloc hy _) (cell_new w #[.slice ya yn yc] o _ 0)
  have Hm := hid hm
  have Hc := hid hcn
  have hwy : wy = 0 ∨ wy = 1 := by omega
  have hca : ∀ o, (w.alloc o).cell? ⟨p, k + 1, none⟩ = some (.slice a0 n0 c0) := fun o => alloc_cell hc0
  clear h hl hv0 hn0 hu0 hr0 hs0 hm hcn hsl hc0 hf0 hy hka
  rcases hwy with rfl | rfl
  all_goals (first | (replace hk : k = 0 := hk; subst hk) | (replace hk : k = 2 := hk; subst hk))
  all_goals
    go_enter Try.func39, Try.ntmps39
    go_wp2_with fail
    refine (Hm.out _).mono ?_
    rintro e w1 ⟨rfl, rfl⟩
    go_wp2_with fail
    refine (Hc.out _).mono ?_
    rintro e w1 ⟨rfl, rfl⟩
    go_wp2_with fail
    go_ret
    exact ⟨rfl, (Keeps.refl _ _).alloc _⟩
end Go.Proofs.Ytdkmfppdiggpfaa
