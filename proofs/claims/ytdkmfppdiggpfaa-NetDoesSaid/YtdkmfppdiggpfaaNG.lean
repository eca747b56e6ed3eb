/- The walks of a net: Equal, the closure, IndexFunc, ContainsFunc, Lose, Len, Sent. -/
import Derived.Test.YtdkmfppdiggpfaaNF
import Derived.Laws.BytesArg
import Derived.Laws.IdiomStrings
namespace Go.Proofs.Ytdkmfppdiggpfaa
open Go.RowKit Wm

theorem add_off' {b off : Nat} (j : Nat) : ((⟨b, off, none⟩ : Addr).add j) = ⟨b, off + j, none⟩ := by
  unfold Addr.add
  by_cases hj : j = 0 <;> simp [hj]
theorem sb_string {M : Blocks} {w : World} {v : Value} {l : List UInt8} (h : SB M w v l) :
    (convert 47 9 v).run Try.prog w = .ok (.string ⟨l.toArray⟩) w := by
  obtain ⟨a, n, c, rfl, hn, -⟩ := h.opened
  rcases l with _ | ⟨x, l⟩
  · simp at hn; subst hn
    rcases a with _ | a <;> kernel_rfl
  · subst hn
    obtain ⟨b, off, rfl, _, hat⟩ := h.at_ (by simp)
    refine run_convert_bytes_back w 47 9 5 ⟨b, off, none⟩ c (x :: l) Try.underlying47 Try.underlying5 Try.underlying9 fun j hj => ?_
    rw [add_off']
    exact hat j _ (List.getElem?_eq_getElem hj)
theorem list_eqB (x y : List UInt8) : (x == y) = eqB x y := by
  unfold eqB
  rw [Bool.eq_iff_iff, beq_iff_eq, decide_eq_true_iff]
theorem equal_any (M M' : Blocks) (v v' : Value) (x y : List UInt8) (w : World) (h : SB M w v x) (h' : SB M' w v' y) :
    Calls Try.prog 53 #[v, v'] w (fun e w' => e = .returned (.bool (eqB x y)) ∧ w = w') := by
  have h1 := sb_string h
  have h2 := sb_string h'
  clear h h'
  go_enter Try.func53, Try.ntmps53
  go_wp2_with fail
  go_ret
  exact ⟨by rw [← list_eqB]; rfl, rfl⟩
theorem same_any (M M' : Blocks) (v v' : Value) (x y : List UInt8) (c : Nat) (w : World) (h : SB M w v x) (h' : SB M' w v' y) (hc : w.cell? ⟨c, 0, none⟩ = some v') :
    Calls Try.prog 52 #[v, .pointer (some ⟨c, 0, none⟩)] w (fun e w' => e = .returned (.bool (eqB x y)) ∧ w = w') := by
  have H := hid (equal_any M M' v v' x y w h h')
  clear h h'
  go_enter Try.func52, Try.ntmps52
  go_wp2_with fail
  refine H.out.mono ?_
  rintro e w1 ⟨rfl, rfl⟩
  go_wp2_with fail
  go_ret
  exact ⟨rfl, rfl⟩
/-- Is it among them? -/
def hasB (ls : List (List UInt8)) (y : List UInt8) : Bool := ls.any fun x => eqB x y
theorem hasB_step {ls : List (List UInt8)} {y : List UInt8} {k : Nat} (hk : k < ls.length) : hasB (ls.take (k + 1)) y = (hasB (ls.take k) y || eqB ls[k] y) := by
  unfold hasB
  rw [List.take_succ_eq_append_getElem hk, List.any_append]
  simp
theorem hasB_hit {ls : List (List UInt8)} {y : List UInt8} {k : Nat} (hk : k < ls.length) (h : eqB ls[k] y = true) : hasB ls y = true := by
  unfold hasB
  rw [List.any_eq_true]
  exact ⟨ls[k], List.getElem_mem hk, h⟩
set_option maxHeartbeats 1000000 in
theorem index_any (M M' : Blocks) (v v' : Value) (ls : List (List UInt8)) (y : List UInt8) (c : Nat) (w : World) (h : SL M w v ls) (h' : SB M' w v' y) (hc : w.cell? ⟨c, 0, none⟩ = some v') :
    Calls Try.prog 56 #[v, .func (.func 52) #[] #[.pointer (some ⟨c, 0, none⟩)]] w (fun e w' => ∃ z : Int, e = .returned (.int .i64 z) ∧ (z = -1 ∧ hasB ls y = false ∨ 0 ≤ z ∧ hasB ls y = true) ∧ w = w') := by
  obtain ⟨a, n, cp, rfl, hn, hnc, hcm⟩ := h.opened
  unfold maxLen at hcm
  have Hn := hid hn
  clear hn
  go_enter Try.func56, Try.ntmps56
  go_wp2
  go_loopw [8] (fun i wr => ∃ k : Nat, k ≤ n ∧ i = .int .i64 k ∧ hasB (ls.take k) y = false ∧ wr = w) (fun i _ => n - (intOf i).toNat)
  case atStart => exact ⟨0, Nat.zero_le _, rfl, by simp [hasB], rfl⟩
  case round =>
    obtain ⟨k, hk, rfl, heq, rfl⟩ := hrel
    have Heq := hid heq
    clear heq
    by_cases hlt : k < n
    · obtain ⟨b, off, rfl, _, hat⟩ := h.at_ (by omega)
      have hkl : k < ls.length := by have := Hn.out; omega
      obtain ⟨u, hcu, hu⟩ := hat k ls[k] (List.getElem?_eq_getElem hkl)
      have hst := hasB_step (y := y) hkl
      have hit := hasB_hit (y := y) hkl
      have H := hid (same_any M M' u v' ls[k] y c _ hu h' hc)
      generalize ls[k] = x at *
      have Hst := hid hst
      have Hit := hid hit
      clear hst hit hu h' h hat
      by_cases hxe : eqB x y = true
      · rw [hxe] at H
        have Hx := hid hxe
        clear hxe
        go_wp2_with fail
        go_at_call 52
        refine H.out.mono ?_
        rintro e w1 ⟨rfl, rfl⟩
        go_wp2_with fail
        go_ret
        exact ⟨k, rfl, .inr ⟨by omega, Hit.out Hx.out⟩, rfl⟩
      · have hxf : eqB x y = false := by simpa using hxe
        rw [hxf] at H
        have Hx := hid hxf
        clear hxe hxf
        go_wp2_with fail
        go_at_call 52
        refine H.out.mono ?_
        rintro e w1 ⟨rfl, rfl⟩
        go_wp2_with fail
        go_roundw
        case rel => exact ⟨k + 1, by omega, by go_num, by rw [Hst.out, Heq.out, Hx.out]; rfl, trivial⟩
        case measure => simp [intOf]; omega
    · have hke : k = n := by omega
      subst hke
      go_wp2_with fail
      go_ret
      refine ⟨-1, rfl, .inl ⟨rfl, ?_⟩, rfl⟩
      have := Heq.out
      rwa [List.take_of_length_le (by have := Hn.out; omega)] at this
theorem contains_any (M M' : Blocks) (v v' : Value) (ls : List (List UInt8)) (y : List UInt8) (c : Nat) (w : World) (h : SL M w v ls) (h' : SB M' w v' y) (hc : w.cell? ⟨c, 0, none⟩ = some v') :
    Calls Try.prog 51 #[v, .func (.func 52) #[] #[.pointer (some ⟨c, 0, none⟩)]] w (fun e w' => e = .returned (.bool (hasB ls y)) ∧ w = w') := by
  have H := hid (index_any M M' v v' ls y c w h h' hc)
  clear h h' hc
  go_enter Try.func51, Try.ntmps51
  go_wp2_with fail
  refine H.out.mono ?_
  rintro e w1 ⟨z, rfl, hz, rfl⟩
  rcases hz with ⟨rfl, hb⟩ | ⟨h0, hb⟩
  · go_wp2_with fail
    go_ret
    exact ⟨by rw [hb]; rfl, rfl⟩
  · go_wp2_with fail
    go_ret
    exact ⟨by rw [hb]; rfl, rfl⟩
end Go.Proofs.Ytdkmfppdiggpfaa
