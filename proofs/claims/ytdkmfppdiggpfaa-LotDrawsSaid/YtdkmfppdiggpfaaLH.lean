/- The walk through law 44's awake; both lots side by side. -/
import Derived.Test.YtdkmfppdiggpfaaLG
import Derived.Test.YtdkmfppdiggpfaaLF
import Derived.Test.YtdkmfppdiggpfaaLE
namespace Go.Proofs.Ytdkmfppdiggpfaa
open Go.RowKit Wm

/-- Two lots at blocks a and b (types A, B), both made since w0. -/
def L2 (A B : TypeId) (w0 : World) (a b s t : Nat) (w : World) : Prop := LotAt A w a s ∧ LotAt B w b t ∧ a ≠ b ∧ w0.heap.size ≤ a ∧ w0.heap.size ≤ b ∧ Keeps No w0 w
theorem L2.left {A B : TypeId} {w0 w w' : World} {a b s t s' : Nat} (h : L2 A B w0 a b s t w) (hl : LotAt A w' a s') (hk : Keeps (Only a) w w') : L2 A B w0 a b s' t w' := by
  obtain ⟨h1, h2, h3, h4, h5, h6⟩ := h
  exact ⟨hl, h2.keep hk fun e => h3 e.symm, h3, h4, h5, h6.trans hk fun k hl e => by unfold Only at e; omega⟩
theorem L2.right {A B : TypeId} {w0 w w' : World} {a b s t t' : Nat} (h : L2 A B w0 a b s t w) (hl : LotAt B w' b t') (hk : Keeps (Only b) w w') : L2 A B w0 a b s t' w' := by
  obtain ⟨h1, h2, h3, h4, h5, h6⟩ := h
  exact ⟨h1.keep hk fun e => h3 e, hl, h3, h4, h5, h6.trans hk fun k hl e => by unfold Only at e; omega⟩
theorem L2.keepNo {A B : TypeId} {w0 w w' : World} {a b s t : Nat} (h : L2 A B w0 a b s t w) (hk : Keeps No w w') : L2 A B w0 a b s t w' := by
  obtain ⟨h1, h2, h3, h4, h5, h6⟩ := h
  exact ⟨h1.keep hk fun hk => hk, h2.keep hk fun hk => hk, h3, h4, h5, h6.then_ hk⟩

set_option maxRecDepth 20000 in
set_option maxHeartbeats 2000000 in
theorem awake44_any (w : World) : Calls Try.prog 19 #[] w (PTrue w) := by
  have hD : ∀ g s W, LotAt 60 W g s → Calls Try.prog 21 #[.pointer (some ⟨g, 0, none⟩)] W (PLot 60 g (.int .u64 (Wn.dr s : Nat)) (Wn.nx s) W) := fun g s W h => ldraw_any 60 g s W h
  have hB1 : ∀ g s W, LotAt 60 W g s → Calls Try.prog 27 #[.pointer (some ⟨g, 0, none⟩), .int .i64 1] W (PLot 60 g (.int .i64 0) (Wn.nx s) W) := fun g s W h => by
    have := lbelow_any 60 g s 1 W h (by omega)
    rw [show (1 : Int) = ((1 : Nat) : Int) from rfl, below_big (Nat.le_refl 1), Nat.mod_one] at this
    exact this
  have hB0 : ∀ g s W, LotAt 60 W g s → Calls Try.prog 27 #[.pointer (some ⟨g, 0, none⟩), .int .i64 0] W (PLot 60 g (.int .i64 0) s W) := fun g s W h => by
    have := lbelow_any 60 g s 0 W h (by omega)
    rw [below_small (by omega)] at this
    exact this
  have HD := hid hD
  have HB1 := hid hB1
  have HB0 := hid hB0
  clear hD hB1 hB0
  go_enter Try.func19, Try.ntmps19
  go_wp2_with fail
  refine (lnew_any 5 _ (by omega)).mono ?_
  rintro e w1 ⟨a, rfl, ha, hl1, hk1⟩
  go_wp2_with fail
  refine (lnew_any 5 _ (by omega)).mono ?_
  rintro e w2 ⟨b, rfl, hb, hl2, hk2⟩
  have hal := hl1.facts.1
  have hL : L2 60 60 w a b 5 5 w2 := ⟨hl1.keep hk2 fun hk => hk, hl2, by omega, by omega, by omega, hk1.then_ hk2⟩
  generalize 5 = s at hL
  clear hl1 hk1 hl2 hk2 ha hb hal
  go_wp2_with fail
  refine (HD.out a _ _ hL.1).mono ?_
  rintro e w3 ⟨rfl, g1, g2⟩
  have hL3 := hL.left g1 g2
  clear g1 g2 hL
  go_wp2_with fail
  refine (HB1.out b _ _ hL3.2.1).mono ?_
  rintro e w4 ⟨rfl, g1, g2⟩
  have hL4 := hL3.right g1 g2
  clear g1 g2 hL3
  generalize Wn.nx s = s1 at *
  go_wp2_with fail
  refine (HD.out a _ _ hL4.1).mono ?_
  rintro e w5 ⟨rfl, g1, g2⟩
  have hL5 := hL4.left g1 g2
  clear g1 g2 hL4
  go_wp2_with fail
  refine (HD.out b _ _ hL5.2.1).mono ?_
  rintro e w6 ⟨rfl, g1, g2⟩
  have hL6 := hL5.right g1 g2
  clear g1 g2 hL5
  generalize Wn.nx s1 = s2 at *
  generalize Wn.dr s1 = d1 at *
  go_wp2_with fail
  refine (HB0.out a _ _ hL6.1).mono ?_
  rintro e w7 ⟨rfl, g1, g2⟩
  have hL7 := hL6.left g1 g2
  clear g1 g2 hL6
  go_wp2_with fail
  refine (HD.out a _ _ hL7.1).mono ?_
  rintro e w8 ⟨rfl, g1, g2⟩
  have hL8 := hL7.left g1 g2
  clear g1 g2 hL7
  go_wp2_with fail
  refine (HD.out b _ _ hL8.2.1).mono ?_
  rintro e w9 ⟨rfl, g1, g2⟩
  have hL9 := hL8.right g1 g2
  clear g1 g2 hL8
  generalize Wn.dr s2 = d2 at *
  go_wp2_with fail
  go_ret
  exact ⟨rfl, hL9.2.2.2.2.2⟩
end Go.Proofs.Ytdkmfppdiggpfaa
