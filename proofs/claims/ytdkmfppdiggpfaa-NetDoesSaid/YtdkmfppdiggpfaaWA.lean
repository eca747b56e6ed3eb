/- Words for the walks; the walks through nat's functions and the reference's. -/
import Derived.Test.YtdkmfppdiggpfaaRows
import Derived.Test.YtdkmfppdiggpfaaMem
import Derived.WalkSpells
import Derived.WalkLawsBesides
import Derived.Handy
import Derived.Deep.DeepMust
import Derived.Deep.QuietTactic
import Derived.BigQuiet
namespace Wn
/-- Numbers together, from a sum on, at most so much: what comes out, and what is wrong. -/
def sumGo (most : Int) : Int → List Int → Int × Int
  | s, [] => (s, 0)
  | s, n :: l => if n < 0 then (0, 2) else if n > most - s then (0, 20) else sumGo most (s + n) l
def natSum (most : Int) (l : List Int) : Int × Int := if most < 0 ∧ l = [] then (0, 20) else sumGo most 0 l
end Wn
namespace Go.Proofs.Ytdkmfppdiggpfaa
open Go.RowKit Wm

theorem hid {p : Prop} (h : p) : Hid p := h
theorem ret_int {k : IntKind} {a b : Int} (h : a = b) : Ending.returned (.int k a) = .returned (.int k b) := by rw [h]
theorem ret_bool {a b : Bool} (h : a = b) : Ending.returned (.bool a) = .returned (.bool b) := by rw [h]
def PTrue (w : World) (e : Ending) (w' : World) : Prop := e = .returned (.bool true) ∧ Keeps No w w'

def iv (z : Int) : Value := .int .i64 z
/-- A slice of ints. -/
def SI (M : Blocks) (w : World) (v : Value) (l : List Int) : Prop := SV M w v (l.map iv)
/-- Each fits its kind. -/
def I64 (l : List Int) : Prop := ∀ z ∈ l, -9223372036854775808 ≤ z ∧ z ≤ 9223372036854775807
theorem SI.opened {M : Blocks} {w : World} {v : Value} {l : List Int} (h : SI M w v l) :
    ∃ (a : Option Addr) (n c : Nat), v = .slice a n c ∧ n = l.length ∧ n ≤ c ∧ c ≤ maxLen := by
  obtain ⟨a, n, c, e, hn, r⟩ := SV.opened h; exact ⟨a, n, c, e, by simpa using hn, r⟩
theorem SI.at_ {M : Blocks} {w : World} {a : Option Addr} {n c : Nat} {l : List Int} (h : SI M w (.slice a n c) l) (h0 : 0 < n) :
    ∃ b off, a = some ⟨b, off, none⟩ ∧ ¬ M b ∧ ∀ i x, l[i]? = some x → w.cell? ⟨b, off + i, none⟩ = some (.int .i64 x) := by
  obtain ⟨b, off, e, hb, hat⟩ := SV.at_ h h0
  exact ⟨b, off, e, hb, fun i x hx => hat i (iv x) (by simp [hx])⟩
theorem one_iv (l : List Int) : ∀ u ∈ l.map iv, u.oneCell' = true := by
  intro u hu
  simp only [List.mem_map] at hu
  obtain ⟨c, _, rfl⟩ := hu
  rfl

theorem hold_any (n lo hi : Int) (w : World) :
    Calls Try.prog 12 #[.int .i64 n, .int .i64 lo, .int .i64 hi] w fun e w' => e = .returned (.int .i64 (max lo (min n hi))) ∧ w = w' := by
  go_enter Try.func12, Try.ntmps12
  go_wp2
  all_goals go_ret
  all_goals exact ⟨ret_int (by omega), rfl⟩

theorem rhold_any (n lo hi : Int) (w : World) :
    Calls Try.prog 13 #[.int .i64 n, .int .i64 lo, .int .i64 hi] w fun e w' => e = .returned (.int .i64 (max lo (min n hi))) ∧ w = w' := by
  go_enter Try.func13, Try.ntmps13
  go_wp2
  all_goals go_ret
  all_goals exact ⟨ret_int (by omega), rfl⟩

set_option maxRecDepth 20000 in
theorem middle_any (lo hi : Int) (w : World) (h1 : -9223372036854775808 ≤ lo ∧ lo ≤ 9223372036854775807) (h2 : -9223372036854775808 ≤ hi ∧ hi ≤ 9223372036854775807) :
    Calls Try.prog 18 #[.int .i64 lo, .int .i64 hi] w fun e w' => e = .returned (.int .i64 (if hi ≤ lo then lo else lo + (hi - lo) / 2)) ∧ w = w' := by
  go_enter Try.func18, Try.ntmps18
  go_wp2
  · go_ret
    exact ⟨rfl, rfl⟩
  · go_ret
    refine ⟨ret_int ?_, rfl⟩
    simp only [wrap64, IntKind.wrap_u64]
    rw [Int.tdiv_eq_ediv_of_nonneg (by omega)]
    omega

set_option maxRecDepth 20000 in
theorem least_any (M : Blocks) (v : Value) (l : List Int) (w : World) (h : SI M w v l) :
    Calls Try.prog 11 #[v] w fun e w' => ∃ m : Int, e = .returned (.int .i64 m) ∧ w = w' ∧ (l = [] → m = 0) ∧ (l ≠ [] → m ∈ l) ∧ ∀ z ∈ l, m ≤ z := by
  obtain ⟨a, n, c, rfl, hn, hnc, hcm⟩ := h.opened
  unfold maxLen at hcm
  have Hn := hid hn
  clear hn
  by_cases h0 : n = 0
  · subst h0
    have hl : l = [] := List.eq_nil_of_length_eq_zero Hn.out.symm
    subst hl
    go_enter Try.func11, Try.ntmps11
    go_wp2
    go_ret
    exact ⟨0, rfl, rfl, fun _ => rfl, fun h => absurd rfl h, fun z hz => by simp at hz⟩
  · have hnb : (((n : Nat) : Int) == 0) = false := by rw [beq_eq_false_iff_ne]; omega
    have hpos : 0 < n := by omega
    clear h0
    obtain ⟨b, off, rfl, _, hat⟩ := h.at_ (by omega)
    have hc0 := hat 0 l[0] (List.getElem?_eq_getElem (by have := Hn.out; omega))
    have Hat := hid hat
    clear hat
    rw [Nat.add_zero] at hc0
    obtain ⟨m0, hm0⟩ : ∃ m0, l[0]'(by have := Hn.out; omega) = m0 := ⟨_, rfl⟩
    rw [hm0] at hc0
    have Hm0 := hid hm0
    clear hm0
    go_enter Try.func11, Try.ntmps11
    go_wp2
    clear hc0
    go_loop [3, 14] (fun s i => ∃ (k : Nat) (m : Int), k ≤ n ∧ i = .int .i64 k ∧ s = .int .i64 m ∧ m ∈ l ∧ (m ≤ m0) ∧ ∀ z ∈ l.take k, m ≤ z) (fun _ i => n - (intOf i).toNat)
    case atStart => exact ⟨0, m0, Nat.zero_le _, rfl, rfl, by rw [← Hm0.out]; exact List.getElem_mem _, by omega, fun z hz => by simp at hz⟩
    case round =>
      obtain ⟨k, m, hk, rfl, rfl, hm, hmm, hall⟩ := hrel
      have Hm := hid hm
      have Hall := hid hall
      clear hm hall
      by_cases hlt : k < n
      · have hkl : k < l.length := by have := Hn.out; omega
        have hcell := Hat.out k l[k] (List.getElem?_eq_getElem hkl)
        have hst : l.take (k + 1) = l.take k ++ [l[k]] := List.take_succ_eq_append_getElem hkl
        have Hst := hid hst
        have Hmem := hid (List.getElem_mem hkl)
        clear hst
        generalize l[k] = x at *
        by_cases hx : x < m
        · go_wp2
          go_round
          case rel => exact ⟨k + 1, x, by omega, by go_num, rfl, Hmem.out, by omega, fun z hz => by
            rw [Hst.out, List.mem_append] at hz
            rcases hz with hz | hz
            · have := Hall.out z hz; omega
            · simp at hz; omega⟩
          case measure => simp [intOf]; omega
        · go_wp2
          go_round
          case rel => exact ⟨k + 1, m, by omega, by go_num, rfl, Hm.out, hmm, fun z hz => by
            rw [Hst.out, List.mem_append] at hz
            rcases hz with hz | hz
            · exact Hall.out z hz
            · simp at hz; omega⟩
          case measure => simp [intOf]; omega
      · have hke : k = n := by omega
        subst hke
        go_wp2
        go_ret
        refine ⟨m, rfl, rfl, fun h => ?_, fun _ => Hm.out, fun z hz => Hall.out z ?_⟩
        · have := Hm.out; rw [h] at this; simp at this
        · rw [List.take_of_length_le (by have := Hn.out; omega)]; exact hz

/-- What Sum answers. -/
def PSum (most : Int) (l : List Int) (w : World) (e : Ending) (w' : World) : Prop := e = .returned (.tuple #[.int .i64 (Wn.natSum most l).1, .int .i64 (Wn.natSum most l).2]) ∧ w = w'

theorem sumGo_take {most : Int} {l : List Int} {k : Nat} (hk : k < l.length) {s : Int} (h : Wn.sumGo most s (l.drop k) = Wn.sumGo most 0 l) :
    (l[k] < 0 → Wn.sumGo most 0 l = (0, 2)) ∧ (¬ l[k] < 0 → l[k] > most - s → Wn.sumGo most 0 l = (0, 20)) ∧ (¬ l[k] < 0 → ¬ l[k] > most - s → Wn.sumGo most (s + l[k]) (l.drop (k + 1)) = Wn.sumGo most 0 l) := by
  rw [List.drop_eq_getElem_cons hk] at h
  simp only [Wn.sumGo] at h
  refine ⟨fun h1 => ?_, fun h1 h2 => ?_, fun h1 h2 => ?_⟩
  · rw [if_pos h1] at h; exact h.symm
  · rw [if_neg h1, if_pos h2] at h; exact h.symm
  · rw [if_neg h1, if_neg h2] at h; exact h

set_option maxRecDepth 20000 in
set_option maxHeartbeats 1000000 in
theorem sum_any (M : Blocks) (most : Int) (v : Value) (l : List Int) (w : World) (h : SI M w v l) (hm : -9223372036854775808 ≤ most ∧ most ≤ 9223372036854775807) (hw : I64 l) :
    Calls Try.prog 14 #[.int .i64 most, v] w (PSum most l w) := by
  obtain ⟨a, n, c, rfl, hn, hnc, hcm⟩ := h.opened
  unfold maxLen at hcm
  have Hn := hid hn
  clear hn
  have Hw := hid hw
  clear hw
  by_cases h0 : n = 0
  · subst h0
    have hl : l = [] := List.eq_nil_of_length_eq_zero Hn.out.symm
    subst hl
    by_cases hneg : most < 0
    · go_enter Try.func14, Try.ntmps14
      go_wp2
      go_ret2
      unfold PSum Wn.natSum
      rw [if_pos ⟨hneg, rfl⟩]
      exact ⟨rfl, rfl⟩
    · go_enter Try.func14, Try.ntmps14
      go_wp2
      refine wp_loop_rounds 1 ?_
      rw [rounds_succ]
      go_wp2
      go_ret2
      unfold PSum Wn.natSum
      rw [if_neg (fun h => absurd h.1 (by omega))]
      exact ⟨rfl, rfl⟩
  · have hnb : (((n : Nat) : Int) == 0) = false := by rw [beq_eq_false_iff_ne]; omega
    have hpos : 0 < n := by omega
    clear h0
    have hfin : Wn.natSum most l = Wn.sumGo most 0 l := by
      unfold Wn.natSum; rw [if_neg]; rintro ⟨_, rfl⟩; have := Hn.out; simp at this; omega
    have Hfin := hid hfin
    clear hfin
    go_enter Try.func14, Try.ntmps14
    have hd : (most < 0 ∧ decide (most < 0) = true) ∨ (0 ≤ most ∧ decide (most < 0) = false) := by
      by_cases hx : most < 0
      · exact .inl ⟨hx, decide_eq_true hx⟩
      · exact .inr ⟨by omega, decide_eq_false hx⟩
    rcases hd with ⟨hd, hdb⟩ | ⟨hd, hdb⟩
    all_goals
      go_wp2
      go_loop [6, 18] (fun s i => ∃ (k : Nat) (t : Int), k ≤ n ∧ i = .int .i64 k ∧ s = .int .i64 t ∧ 0 ≤ t ∧ (k = 0 → t ≤ 0) ∧ (0 < k → t ≤ most) ∧ Wn.sumGo most t (l.drop k) = Wn.sumGo most 0 l) (fun _ i => n - (intOf i).toNat)
      case atStart => exact ⟨0, 0, Nat.zero_le _, rfl, rfl, by omega, fun _ => by omega, fun h => by omega, rfl⟩
      case round =>
        obtain ⟨k, t, hk, rfl, rfl, ht0, htk, htm, hgo⟩ := hrel
        have Hgo := hid hgo
        by_cases hlt : k < n
        · have hkl : k < l.length := by have := Hn.out; omega
          obtain ⟨b, off, rfl, _, hat⟩ := h.at_ (by omega)
          have hcell := hat k l[k] (List.getElem?_eq_getElem hkl)
          have hx64 := Hw.out l[k] (List.getElem_mem hkl)
          have Hst := hid (sumGo_take hkl hgo)
          clear hat hgo
          have htm' : t ≤ most ∨ k = 0 := by omega
          generalize l[k] = x at *
          obtain ⟨hx1, hx2⟩ := hx64
          by_cases hneg : x < 0
          · go_wp2
            go_ret2
            unfold PSum
            rw [Hfin.out, Hst.out.1 hneg]
            exact ⟨rfl, rfl⟩
          · by_cases hov : x > most - t
            · have hov2 : most - t < x := hov
              go_wp2
              go_ret2
              unfold PSum
              rw [Hfin.out, Hst.out.2.1 hneg hov]
              exact ⟨rfl, rfl⟩
            · have hov2 : x ≤ most - t := by omega
              go_wp2
              go_round
              case rel => exact ⟨k + 1, t + x, by omega, by go_num, rfl, by omega, fun h => by omega, fun _ => by omega, Hst.out.2.2 hneg hov⟩
              case measure => simp [intOf]; omega
        · have hke : k = n := by omega
          subst hke
          have hl0 : l.drop k = [] := List.drop_of_length_le (by have := Hn.out; omega)
          rw [hl0] at hgo
          have Hgo2 := hid hgo
          clear hgo hl0
          go_wp2
          go_ret2
          unfold PSum
          rw [Hfin.out, ← Hgo2.out]
          exact ⟨rfl, rfl⟩

set_option maxRecDepth 20000 in
set_option maxHeartbeats 1000000 in
theorem rsum_any (M : Blocks) (most : Int) (v : Value) (l : List Int) (w : World) (h : SI M w v l) (hm : -9223372036854775808 ≤ most ∧ most ≤ 9223372036854775807) (hw : I64 l) :
    Calls Try.prog 15 #[.int .i64 most, v] w (PSum most l w) := by
  obtain ⟨a, n, c, rfl, hn, hnc, hcm⟩ := h.opened
  unfold maxLen at hcm
  have Hn := hid hn
  clear hn
  have Hw := hid hw
  clear hw
  by_cases h0 : n = 0
  · subst h0
    have hl : l = [] := List.eq_nil_of_length_eq_zero Hn.out.symm
    subst hl
    by_cases hneg : most < 0
    · go_enter Try.func15, Try.ntmps15
      go_wp2
      go_ret2
      unfold PSum Wn.natSum
      rw [if_pos ⟨hneg, rfl⟩]
      exact ⟨rfl, rfl⟩
    · go_enter Try.func15, Try.ntmps15
      go_wp2
      refine wp_loop_rounds 1 ?_
      rw [rounds_succ]
      go_wp2
      go_ret2
      unfold PSum Wn.natSum
      rw [if_neg (fun h => absurd h.1 (by omega))]
      exact ⟨rfl, rfl⟩
  · have hnb : (((n : Nat) : Int) == 0) = false := by rw [beq_eq_false_iff_ne]; omega
    have hpos : 0 < n := by omega
    clear h0
    have hfin : Wn.natSum most l = Wn.sumGo most 0 l := by
      unfold Wn.natSum; rw [if_neg]; rintro ⟨_, rfl⟩; have := Hn.out; simp at this; omega
    have Hfin := hid hfin
    clear hfin
    go_enter Try.func15, Try.ntmps15
    go_wp2
    go_loop [6, 7] (fun s i => ∃ (k : Nat) (t : Int), k ≤ n ∧ i = .int .i64 k ∧ s = .int .i64 (most - t) ∧ 0 ≤ t ∧ (k = 0 → t ≤ 0) ∧ (0 < k → t ≤ most) ∧ Wn.sumGo most t (l.drop k) = Wn.sumGo most 0 l) (fun _ i => n - (intOf i).toNat)
    case atStart => exact ⟨0, 0, Nat.zero_le _, rfl, by go_num, by omega, fun _ => by omega, fun h => by omega, rfl⟩
    case round =>
      obtain ⟨k, t, hk, rfl, rfl, ht0, htk, htm, hgo⟩ := hrel
      have Hgo := hid hgo
      by_cases hlt : k < n
      · have hkl : k < l.length := by have := Hn.out; omega
        obtain ⟨b, off, rfl, _, hat⟩ := h.at_ (by omega)
        have hcell := hat k l[k] (List.getElem?_eq_getElem hkl)
        have hx64 := Hw.out l[k] (List.getElem_mem hkl)
        have Hst := hid (sumGo_take hkl hgo)
        clear hat hgo
        have htm' : t ≤ most ∨ k = 0 := by omega
        generalize l[k] = x at *
        obtain ⟨hx1, hx2⟩ := hx64
        by_cases hneg : x < 0
        · go_wp2
          go_ret2
          unfold PSum
          rw [Hfin.out, Hst.out.1 hneg]
          exact ⟨rfl, rfl⟩
        · by_cases hov : x > most - t
          · have hov2 : most - t < x := hov
            go_wp2
            go_ret2
            unfold PSum
            rw [Hfin.out, Hst.out.2.1 hneg hov]
            exact ⟨rfl, rfl⟩
          · have hov2 : x ≤ most - t := by omega
            go_wp2
            go_round
            case rel => exact ⟨k + 1, t + x, by omega, by go_num, by go_num, by omega, fun h => by omega, fun _ => by omega, Hst.out.2.2 hneg hov⟩
            case measure => simp [intOf]; omega
      · have hke : k = n := by omega
        subst hke
        have hl0 : l.drop k = [] := List.drop_of_length_le (by have := Hn.out; omega)
        rw [hl0] at hgo
        have Hgo2 := hid hgo
        clear hgo hl0
        go_wp2
        go_ret2
        unfold PSum
        rw [Hfin.out, ← Hgo2.out]
        exact ⟨by simp only [Wn.sumGo]; congr 3; go_num, rfl⟩
end Go.Proofs.Ytdkmfppdiggpfaa
