/- The law's example: awake. -/
import Derived.Test.YtdkmfppdiggpfaaNL
import Derived.Lib.SlBytesConst
namespace Go.Proofs.Ytdkmfppdiggpfaa
open Go.RowKit Wm

/-- A new slice of two slices of bytes. -/
theorem two_parts {M : Blocks} {w : World} {u1 u2 : Value} {l1 l2 : List UInt8} {e : TypeId} {g : Nat} (hg : w.heap.size = g) (h1 : SB M w u1 l1) (h2 : SB M w u2 l2) :
    SL No (w.alloc (.cells #[u1, u2] e)) (.slice (some ⟨g, 0, none⟩) 2 2) [l1, l2] :=
  SL.of_all (us := [u1, u2]) (SV.no (SV.newAt w g _ e (0, 0) 2 2 _ hg rfl (by omega) (by unfold maxLen; omega) rfl)) ⟨SV.alloc (SV.no h1) _, SV.alloc (SV.no h2) _, trivial⟩

/-- The net's rows, made since w0, and bytes that are held. -/
def NA1 (w0 : World) (p : Nat) (hs : List (Value × List UInt8)) (Ns : List (List (List UInt8))) (w : World) : Prop :=
  ∃ vs, RowsAt 47 86 [.bool true] No w p vs Ns ∧ Keeps No w0 w ∧ (∀ k, RF p vs k → w0.heap.size ≤ k) ∧ ∀ x ∈ hs, SB (fun k => RF p vs k ∨ No k) w x.1 x.2
section
variable {w0 w : World} {p : Nat} {hs : List (Value × List UInt8)} {Ns : List (List (List UInt8))}
theorem NA1.keepNo {w' : World} (h : NA1 w0 p hs Ns w) (hk : Keeps No w w') : NA1 w0 p hs Ns w' := by
  obtain ⟨vs, g1, g2, g3, g4⟩ := h
  exact ⟨vs, g1.keep hk (fun _ _ h => h) (fun _ _ h => h.elim) (fun _ _ h => h), g2.then_ hk, g3, fun x hx => SV.keep (g4 x hx) hk fun _ _ h => h.elim⟩
theorem na_send {k : Nat} {wy : Int} {l al : List (List UInt8)} {pv : Value} {ls : List (List UInt8)} (h : NA1 w0 p hs Ns w) (h4 : Ns.length = 4) (hw0 : 0 ≤ wy) (hw2 : wy < 2) (hk : k = 2 * wy.toNat)
    (hl : Ns[k]? = some l) (ha : Ns[k + 1]? = some al) (hx : SL No w pv ls) (hll : l.length ≤ 1048576) (hal : al.length ≤ 1048576) (hsm : ls.flatten.length ≤ 16777216) :
    Calls Try.prog 32 #[.pointer (some ⟨p, 0, none⟩), .int .i64 wy, pv] w (fun e w' => e = .returned (.int .i64 (sendC l)) ∧ NA1 w0 p hs (putLs k Ns l al ls.flatten) w') := by
  obtain ⟨vs, g1, g2, g3, g4⟩ := h
  refine (send_any No No p k wy vs Ns l al pv ls w g1 h4 hw0 hw2 hk hl ha hx (fun q hq => hq.elim) hll hal hsm).mono fun e w' ⟨he, vs', k1, k2, k3⟩ => ?_
  exact ⟨he, vs', k1, g2.trans k2 fun k hl hk => by have := g3 k hk; omega, fun k hk => (k3 k hk).elim (g3 k) fun h => Nat.le_trans g2.size h, fun x hx => sv_shift (g4 x hx) k2 (fun _ _ h => .inl h) fun k hl hk => hk.elim (fun hk => (k3 k hk).elim .inl fun h => by omega) fun h => h.elim⟩
theorem na_take {k : Nat} {wy z : Int} {keep : Bool} {l : List (List UInt8)} (h : NA1 w0 p hs Ns w) (h4 : Ns.length = 4) (hw0 : 0 ≤ wy) (hw2 : wy < 2) (hk : k = 2 * wy.toNat)
    (hl : Ns[k]? = some l) (hll : l.length ≤ 1048576) (hsm : ∀ x ∈ l, x.length ≤ 16777216) :
    Calls Try.prog 34 #[.pointer (some ⟨p, 0, none⟩), .int .i64 wy, .int .i64 z, .bool keep] w (fun e w' => ∃ v, e = .returned (.tuple #[v, .int .i64 (takeC l z)]) ∧ NA1 w0 p ((v, takeB l z) :: hs) (Ns.set k (takeL l z keep)) w') := by
  obtain ⟨vs, g1, g2, g3, g4⟩ := h
  refine (take_any No p k wy z keep vs Ns l w g1 h4 hw0 hw2 hk hl (fun q hq => hq.elim) hll hsm).mono fun e w' ⟨v, vs', he, gb, k1, k2, k3⟩ => ?_
  refine ⟨v, he, vs', k1, g2.trans k2 fun k hl hk => by have := g3 k hk; omega, fun k hk => (k3 k hk).elim (g3 k) fun h => Nat.le_trans g2.size h, fun x hx => ?_⟩
  rcases List.mem_cons.1 hx with rfl | hx
  · exact gb
  · exact sv_shift (g4 x hx) k2 (fun _ _ h => .inl h) fun k hl hk => hk.elim (fun hk => (k3 k hk).elim .inl fun h => by omega) fun h => h.elim
theorem na_len {k : Nat} {wy : Int} {l : List (List UInt8)} (h : NA1 w0 p hs Ns w) (h4 : Ns.length = 4) (hw0 : 0 ≤ wy) (hw2 : wy < 2) (hk : k = 2 * wy.toNat) (hl : Ns[k]? = some l) :
    Calls Try.prog 38 #[.pointer (some ⟨p, 0, none⟩), .int .i64 wy] w (PInt (l.length : Int) w) := by
  obtain ⟨vs, g1, g2, g3, g4⟩ := h
  exact len_any _ p k wy vs Ns l w g1 h4 hw0 hw2 hk hl
theorem na_sent {M : Blocks} {k : Nat} {wy : Int} {l : List (List UInt8)} {v : Value} {x : List UInt8} (h : NA1 w0 p hs Ns w) (h4 : Ns.length = 4) (hw0 : 0 ≤ wy) (hw2 : wy < 2) (hk : k = 2 * wy.toNat) (hl : Ns[k + 1]? = some l) (hx : SB M w v x) :
    Calls Try.prog 39 #[.pointer (some ⟨p, 0, none⟩), .int .i64 wy, v] w (PB (hasB l x) w) := by
  obtain ⟨vs, g1, g2, g3, g4⟩ := h
  exact sent_any M _ p k wy v x vs Ns l w g1 h4 hw0 hw2 hk hl hx
theorem NA1.sb (h : NA1 w0 p hs Ns w) {v : Value} {l : List UInt8} (hm : (v, l) ∈ hs) : SB No w v l := by
  obtain ⟨vs, g1, g2, g3, g4⟩ := h
  exact SV.no (g4 _ hm)
theorem NA1.kept (h : NA1 w0 p hs Ns w) : Keeps No w0 w := by
  obtain ⟨vs, g1, g2, _⟩ := h; exact g2
end

theorem const_conv (w : World) (g : Nat) (C : Array Value) (n c : Nat) (hg : w.heap.size = g) :
    (convert 47 47 (.slice (some ⟨g, 0, none⟩) n c)).run Try.prog (w.alloc (.cells C 5)) = .ok (.slice (some ⟨g, 0, none⟩) n c) (w.alloc (.cells C 5 (C.size, C.size + 1))) := by
  subst hg
  exact Lib.run_convert_bytes_const (P := Try.prog) w 47 5 C n c Try.underlying47 Try.underlying5

set_option maxRecDepth 20000 in
set_option maxHeartbeats 4000000 in
theorem awake39_any (w : World) : Calls Try.prog 30 #[] w (PTrue w) := by
  have kc := const_conv
  have m1 : (1 : Nat) ≤ maxLen := by unfold maxLen; omega
  have m2 : (2 : Nat) ≤ maxLen := by unfold maxLen; omega
  go_enter Try.func30, Try.ntmps30
  go_wp2_with fail
  refine (new_any No w).mono ?_
  rintro e w1 ⟨rfl, hw1, hr1⟩
  have hk1 : Keeps No w w1 := by rw [hw1]; exact (Keeps.refl _ _).alloc _
  have h1 : NA1 w w.heap.size [] [[], [], [], []] w1 := ⟨_, hr1, hk1, (fun k hk => by
    rcases hk with rfl | ⟨v, hv, hk⟩
    · exact Nat.le_refl _
    · have := List.eq_of_mem_replicate hv; subst this; cases hk), fun x hx => by cases hx⟩
  clear hr1 hw1 hk1
  generalize w.heap.size = p at *
  go_wp2_with fail
  have hpt : ∀ o1 o2 o3, Keeps No w1 (((w1.alloc o1).alloc o2).alloc o3) := fun _ _ _ => (((Keeps.refl _ _).alloc _).alloc _).alloc _
  refine (na_send (w0 := w) (p := p) (hs := []) (Ns := [[], [], [], []]) (k := 2) (l := []) (al := []) (ls := [[97], [98]]) (h1.keepNo (hpt _ _ _)) rfl (by omega) (by omega) rfl rfl rfl ?_ (by decide) (by decide) (by decide)).mono ?_
  · exact two_parts (M := No) (by simp) (SV.alloc (SV.no (SB.lit w1 _ _ _ _ [97] rfl m1 rfl)) _) (SV.no (SB.lit (w1.alloc _) _ _ _ _ [98] (by simp) m1 rfl))
  rintro e w2 ⟨rfl, h2⟩
  have h2' : NA1 w p [] [[], [], [[97, 98]], [[97, 98]]] w2 := h2
  clear h2 h1 hpt
  go_wp2_with fail
  refine (na_take (k := 2) (l := [[97, 98]]) h2' rfl (by omega) (by omega) rfl rfl (by decide) (by decide)).mono ?_
  rintro e w3 ⟨v3, rfl, h3⟩
  have h3' : NA1 w p [(v3, [97, 98])] [[], [], [[97, 98]], [[97, 98]]] w3 := h3
  clear h3 h2'
  go_wp2_with fail
  refine (na_take (k := 2) (l := [[97, 98]]) h3' rfl (by omega) (by omega) rfl rfl (by decide) (by decide)).mono ?_
  rintro e w4 ⟨v4, rfl, h4⟩
  have h4' : NA1 w p [(v4, [97, 98]), (v3, [97, 98])] [[], [], [], [[97, 98]]] w4 := h4
  have hs3 := sb_string (h4'.sb (v := v3) (l := [97, 98]) (by simp))
  have hs4 := sb_string (h4'.sb (v := v4) (l := [97, 98]) (by simp))
  have hln : Calls Try.prog 38 #[.pointer (some ⟨p, 0, none⟩), .int .i64 1] w4 (PInt 0 w4) := na_len (k := 2) (wy := 1) (l := []) h4' rfl (by omega) (by omega) rfl rfl
  have Hln := hid hln
  clear h4 h3' hln
  go_wp2_with fail
  refine Hln.out.mono ?_
  rintro e w5 ⟨rfl, rfl⟩
  go_wp2_with fail
  have hka : ∀ o, Keeps No w4 (w4.alloc o) := fun _ => (Keeps.refl _ _).alloc _
  refine (na_sent (k := 2) (wy := 1) (l := [[97, 98]]) (x := [97, 98]) (h4'.keepNo (hka _)) rfl (by omega) (by omega) rfl rfl (SB.lit w4 _ _ _ _ [97, 98] rfl m2 rfl)).mono ?_
  rintro e w6 ⟨rfl, hk6⟩
  have hK := (h4'.kept.then_ (hka _)).then_ hk6
  have hh : hasB [[97, 98]] [97, 98] = true := by decide
  rw [hh]
  clear kc
  go_wp2_with fail
  go_ret
  exact ⟨rfl, hK⟩
end Go.Proofs.Ytdkmfppdiggpfaa
