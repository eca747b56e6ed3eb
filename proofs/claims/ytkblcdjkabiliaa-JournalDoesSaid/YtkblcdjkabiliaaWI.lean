/- The walks through varint's reader. -/
import Derived.Test.YtkblcdjkabiliaaWG
namespace Go.Proofs.Ytkblcdjkabiliaa
open Go.RowKit Wm

/-- A reader at block p: what is left, and the first error. -/
def Rd (w : World) (p : Nat) (b : List UInt8) (e : Int) : Prop :=
  ∃ a n c, w.heap[p]? = some (.cells #[.slice a n c, .int .i64 e] 101 (0, 0)) ∧ SB (Only p) w (.slice a n c) b

theorem Rd.facts {w : World} {p : Nat} {b : List UInt8} {e : Int} (h : Rd w p b e) :
    ∃ a n c, w.cell? ⟨p, 0, none⟩ = some (.slice a n c) ∧ w.cell? ⟨p, 1, none⟩ = some (.int .i64 e) ∧ w.frozen? ⟨p, 0, none⟩ = false ∧ w.frozen? ⟨p, 1, none⟩ = false ∧ p < w.heap.size ∧ SB (Only p) w (.slice a n c) b := by
  obtain ⟨a, n, c, hh, hb⟩ := h
  have hc0 : w.cell? ⟨p, 0, none⟩ = some (.slice a n c) := by rw [cell_of_row _ _ _ _ _ _ hh]; rfl
  exact ⟨a, n, c, hc0, by rw [cell_of_row _ _ _ _ _ _ hh]; rfl, frozen_of_row _ _ _ _ _ hh, frozen_of_row _ _ _ _ _ hh, cell_lt hc0, hb⟩
theorem Rd.set0 {w : World} {p : Nat} {b b' : List UInt8} {e : Int} (h : Rd w p b e) {a : Option Addr} {n c : Nat} (hb : SB (Only p) w (.slice a n c) b') : Rd (w.setCell ⟨p, 0, none⟩ (.slice a n c)) p b' e := by
  obtain ⟨a0, n0, c0, hh, _⟩ := h
  exact ⟨a, n, c, by rw [heap_setCell_same w p 0 _ 101 _ hh]; rfl, SV.setCell (p := ⟨p, 0, none⟩) hb (.inl rfl) _⟩
theorem Rd.set1 {w : World} {p : Nat} {b : List UInt8} {e e' : Int} (h : Rd w p b e) : Rd (w.setCell ⟨p, 1, none⟩ (.int .i64 e')) p b e' := by
  obtain ⟨a0, n0, c0, hh, hb⟩ := h
  exact ⟨a0, n0, c0, by rw [heap_setCell_same w p 1 _ 101 _ hh]; rfl, SV.setCell (p := ⟨p, 1, none⟩) hb (.inl rfl) _⟩

theorem rerr_any (p : Nat) (b : List UInt8) (x : Int) (w : World) (h : Rd w p b x) :
    Calls Try.prog 75 #[.pointer (some ⟨p, 0, none⟩)] w fun e w' => e = .returned (.int .i64 x) ∧ w = w' := by
  obtain ⟨a, n, c, hc0, hc1, hf0, hf1, hp, hb⟩ := h.facts
  go_enter Try.func75, Try.ntmps75
  go_wp2
  go_ret
  exact ⟨rfl, rfl⟩

theorem rleft_any (p : Nat) (b : List UInt8) (x : Int) (w : World) (h : Rd w p b x) :
    Calls Try.prog 76 #[.pointer (some ⟨p, 0, none⟩)] w fun e w' => e = .returned (.int .i64 (b.length : Int)) ∧ w = w' := by
  obtain ⟨a, n, c, hc0, hc1, hf0, hf1, hp, hb⟩ := h.facts
  have hn := hb.len
  have Hn := hid hn
  clear hn
  go_enter Try.func76, Try.ntmps76
  go_wp2
  go_ret
  exact ⟨ret_int (by have := Hn.out; omega), rfl⟩

/-- How a reader fails. -/
def PFail (p : Nat) (b : List UInt8) (x : Int) (w : World) (e : Ending) (w' : World) : Prop := e = .returned (.tuple #[]) ∧ Rd w' p b x ∧ Keeps (Only p) w w'

theorem rfail_any (p : Nat) (b : List UInt8) (x : Int) (w : World) (h : Rd w p b 0) :
    Calls Try.prog 79 #[.pointer (some ⟨p, 0, none⟩), .int .i64 x] w (PFail p b x w) := by
  obtain ⟨a, n, c, hc0, hc1, hf0, hf1, hp, hb⟩ := h.facts
  go_enter Try.func79, Try.ntmps79
  go_wp2
  go_end0
  exact ⟨rfl, h.set1, (Keeps.refl _ _).only _ _⟩

/-- How many bytes the next number has, and what is wrong. -/
def rdSize (b : List UInt8) : Nat × Int := if Wn.cl 8 b < min b.length 8 then (Wn.cl 8 b + 1, 0) else (0, if 8 ≤ b.length then 11 else 10)
def PSize (b : List UInt8) (w : World) (e : Ending) (w' : World) : Prop := e = .returned (.tuple #[.int .i64 ((rdSize b).1 : Int), .int .i64 (rdSize b).2]) ∧ w = w'

theorem cl_le (f : Nat) : ∀ b : List UInt8, Wn.cl f b ≤ f ∧ Wn.cl f b ≤ b.length := by
  induction f with
  | zero => intro b; simp [Wn.cl]
  | succ f ih =>
    intro b
    cases b with
    | nil => simp [Wn.cl]
    | cons c l =>
      have := ih l
      simp only [Wn.cl, List.length_cons]
      split <;> omega
/-- The bytes ahead are at least 128, the next one is below it. -/
theorem cl_at (f : Nat) : ∀ (b : List UInt8) (k : Nat) (hk : k < b.length), k < f → (∀ i (hi : i < k), 128 ≤ (b[i]'(by omega)).toNat) → b[k].toNat < 128 → Wn.cl f b = k := by
  induction f with
  | zero => intro b k _ h; omega
  | succ f ih =>
    intro b k hk hf hall hlt
    cases b with
    | nil => simp at hk
    | cons c l =>
      cases k with
      | zero => simp at hlt; simp [Wn.cl, hlt]
      | succ k =>
        have h0 := hall 0 (by omega)
        simp at h0
        rw [Wn.cl, if_neg (by omega), ih l k (by simpa using hk) (by omega) (fun i hi => by have := hall (i + 1) (by omega); simpa using this) (by simpa using hlt)]
theorem cl_all (f : Nat) : ∀ (b : List UInt8) (k : Nat) (hk : k ≤ b.length), k ≤ f → (∀ i (hi : i < k), 128 ≤ (b[i]'(by omega)).toNat) → k ≤ Wn.cl f b := by
  induction f with
  | zero => intro b k _ h _; omega
  | succ f ih =>
    intro b k hk hf hall
    cases b with
    | nil => simp at hk; omega
    | cons c l =>
      cases k with
      | zero => omega
      | succ k =>
        have h0 := hall 0 (by omega)
        simp at h0
        have := ih l k (by simpa using hk) (by omega) (fun i hi => by have := hall (i + 1) (by omega); simpa using this)
        rw [Wn.cl, if_neg (by omega)]; omega

set_option maxRecDepth 20000 in
set_option maxHeartbeats 1000000 in
theorem rsize_any (p : Nat) (b : List UInt8) (x : Int) (w : World) (h : Rd w p b x) :
    Calls Try.prog 78 #[.pointer (some ⟨p, 0, none⟩)] w (PSize b w) := by
  obtain ⟨a, n, c, hc0, hc1, hf0, hf1, hp, hb⟩ := h.facts
  have hn := hb.len
  have hcc := hb.cap
  unfold maxLen at hcc
  obtain ⟨hnc, hcm⟩ := hcc
  obtain ⟨mn, hmn⟩ : ∃ mn, min n 8 = mn := ⟨_, rfl⟩
  have hmn1 : mn ≤ 8 := by omega
  have hmn2 : mn ≤ n := by omega
  have Hmn := hid hmn
  have Hn := hid hn
  have hmin : ∀ ts t wx, (Builtin.min_ ts t #[.int .i64 (n : Int), .int .i64 8]).run Try.prog wx = .ok (.int .i64 (mn : Int)) wx := by
    intro ts t wx
    rw [run_min_int2]
    congr 2
    split <;> omega
  clear hn hmn
  go_enter Try.func78, Try.ntmps78
  go_wp2
  clear hmin
  go_loop [11] (fun i => ∃ k : Nat, k ≤ mn ∧ i = .int .i64 k ∧ ∀ i (hi : i < k), ∀ y, b[i]? = some y → 128 ≤ y.toNat) (fun i => mn - (intOf i).toNat)
  case atStart => exact ⟨0, Nat.zero_le _, rfl, fun i hi => by omega⟩
  case round =>
    obtain ⟨k, hk, rfl, hall⟩ := hrel
    have Hall := hid hall
    clear hall
    by_cases hlt : k < mn
    · obtain ⟨b2, off2, rfl, _, hat⟩ := hb.at_ (by omega)
      have hkl : k < b.length := by have := Hn.out; omega
      have hcell := hat k b[k] (List.getElem?_eq_getElem hkl)
      have hlow : b[k].toNat < 128 → Wn.cl 8 b = k := fun hl => cl_at 8 b k hkl (by omega) (fun i hi => Hall.out i hi _ (List.getElem?_eq_getElem (by omega))) hl
      have hhigh : 128 ≤ b[k].toNat → ∀ i (hi : i < k + 1), ∀ y, b[i]? = some y → 128 ≤ y.toNat := by
        intro hh i hi y hy
        rcases Nat.lt_succ_iff_lt_or_eq.1 hi with h1 | rfl
        · exact Hall.out i h1 y hy
        · rw [List.getElem?_eq_getElem hkl] at hy; injection hy with hy; rw [← hy]; exact hh
      have Hlow := hid hlow
      have Hhigh := hid hhigh
      clear hat hlow hhigh
      generalize b[k] = y at *
      by_cases hy : y.toNat < 128
      · have hfin : rdSize b = (k + 1, 0) := by
          unfold rdSize; rw [Hlow.out hy, if_pos (by have := Hn.out; have := Hmn.out; omega)]
        have Hfin := hid hfin
        clear hfin
        go_wp2
        go_ret2
        unfold PSize
        rw [Hfin.out]
        exact ⟨rfl, rfl⟩
      · go_wp2
        go_round
        case rel => exact ⟨k + 1, by omega, by go_num, Hhigh.out (by omega)⟩
        case measure => simp [intOf]; omega
    · have hke : k = mn := by omega
      subst hke
      have hcl := cl_all 8 b k (by have := Hn.out; omega) hmn1 (fun i hi => Hall.out i hi _ (List.getElem?_eq_getElem (by have := Hn.out; omega)))
      have hfin : rdSize b = (0, if 8 ≤ n then 11 else 10) := by
        unfold rdSize; rw [if_neg (by have := Hn.out; have := Hmn.out; omega), ← Hn.out]
      have Hfin := hid hfin
      clear hfin hcl
      by_cases h8 : 8 ≤ n
      · go_wp2
        go_ret2
        unfold PSize
        rw [Hfin.out, if_pos h8]
        exact ⟨rfl, rfl⟩
      · go_wp2
        go_ret2
        unfold PSize
        rw [Hfin.out, if_neg h8]
        exact ⟨rfl, rfl⟩

theorem rdSize_cases (b : List UInt8) :
    (∃ x : Nat, (x = 10 ∨ x = 11) ∧ rdSize b = (0, (x : Int)) ∧ Wn.rdNum b = (0, 0, x)) ∨
    (∃ k : Nat, k < 8 ∧ ∃ hk : k < b.length, rdSize b = (k + 1, 0) ∧
      ((((0 < k ∧ b[k] = 0) ∨ 281474976710656 < Wn.num7 (b.take (k + 1))) ∧ Wn.rdNum b = (0, 0, 11)) ∨
       (¬ ((0 < k ∧ b[k] = 0) ∨ 281474976710656 < Wn.num7 (b.take (k + 1))) ∧ Wn.rdNum b = (Wn.num7 (b.take (k + 1)), k + 1, 0)))) := by
  have hle := cl_le 8 b
  by_cases h : Wn.cl 8 b < min b.length 8
  · right
    have hk : Wn.cl 8 b < b.length := by omega
    refine ⟨Wn.cl 8 b, by omega, hk, by unfold rdSize; rw [if_pos h], ?_⟩
    have hg : b[Wn.cl 8 b]? = some b[Wn.cl 8 b] := List.getElem?_eq_getElem hk
    by_cases hc : (0 < Wn.cl 8 b ∧ b[Wn.cl 8 b] = 0) ∨ 281474976710656 < Wn.num7 (b.take (Wn.cl 8 b + 1))
    · refine .inl ⟨hc, ?_⟩
      unfold Wn.rdNum
      rw [if_neg (by omega), if_neg (by omega), if_pos]
      rw [hg]; simpa using hc
    · refine .inr ⟨hc, ?_⟩
      unfold Wn.rdNum
      rw [if_neg (by omega), if_neg (by omega), if_neg]
      rw [hg]; simpa using hc
  · left
    by_cases h8 : 8 ≤ b.length
    · refine ⟨11, .inr rfl, by unfold rdSize; rw [if_neg h, if_pos h8]; rfl, ?_⟩
      unfold Wn.rdNum; rw [if_pos (by omega)]
    · refine ⟨10, .inl rfl, by unfold rdSize; rw [if_neg h, if_neg h8]; rfl, ?_⟩
      unfold Wn.rdNum; rw [if_neg (by omega), if_pos (by omega)]

theorem num7_lt (l : List UInt8) : Wn.num7 l < 128 ^ l.length := by
  induction l with
  | nil => simp [Wn.num7]
  | cons c l ih => rw [List.length_cons, Nat.pow_succ]; simp only [Wn.num7]; omega
theorem num7_bd {l : List UInt8} (h : l.length ≤ 8) : Wn.num7 l < 72057594037927936 := by
  have h1 := num7_lt l
  have h2 : 128 ^ l.length ≤ 128 ^ 8 := Nat.pow_le_pow_right (by omega) h
  have h3 : 128 ^ 8 = 72057594037927936 := by decide
  omega

/-- What Number leaves. -/
def PNum (p : Nat) (b : List UInt8) (w : World) (e : Ending) (w' : World) : Prop :=
  e = .returned (.int .i64 ((Wn.rdNum b).1 : Int)) ∧ Rd w' p (b.drop (Wn.rdNum b).2.1) ((Wn.rdNum b).2.2 : Int) ∧ Keeps (Only p) w w'

set_option maxRecDepth 20000 in
set_option maxHeartbeats 2000000 in
theorem rnum_any (p : Nat) (b : List UInt8) (w : World) (h : Rd w p b 0) :
    Calls Try.prog 74 #[.pointer (some ⟨p, 0, none⟩)] w (PNum p b w) := by
  obtain ⟨a, n, c, hc0, hc1, hf0, hf1, hp, hb⟩ := h.facts
  have hn := hb.len
  have hcc := hb.cap
  unfold maxLen at hcc
  obtain ⟨hnc, hcm⟩ := hcc
  have Hn := hid hn
  clear hn
  rcases rdSize_cases b with ⟨x, hx, hsz, hrd⟩ | ⟨k, hk8, hkb, hsz, hrd⟩
  · have Hsz := hid hsz
    have Hrd := hid hrd
    have hxb : (((x : Nat) : Int) != 0) = true := by rw [bne_iff_ne]; omega
    clear hsz hrd hx
    go_enter Try.func74, Try.ntmps74
    go_wp2_with fail
    refine (rerr_any p b 0 _ h).mono ?_
    rintro e w1 ⟨rfl, rfl⟩
    go_wp2_with fail
    refine (rsize_any p b 0 _ h).mono ?_
    rintro e w1 ⟨rfl, rfl⟩
    rw [Hsz.out]
    go_wp2_with fail
    refine (rfail_any p b x _ h).mono ?_
    rintro e w1 ⟨rfl, hr1, hk1⟩
    go_wp2_with fail
    go_ret
    refine ⟨?_, ?_, hk1⟩
    · rw [Hrd.out]; rfl
    · rw [Hrd.out]; exact hr1
  · have Hsz := hid hsz
    have Hrd := hid hrd
    have htl : (b.take (k + 1)).length = k + 1 := by rw [List.length_take]; omega
    have Htl := hid htl
    have hkn : k < n := by have := Hn.out; omega
    clear hsz hrd htl
    obtain ⟨b2, off2, rfl, hb2, hat⟩ := hb.at_ (by omega)
    have Hat := hid hat
    clear hat
    go_enter Try.func74, Try.ntmps74
    go_wp2_with fail
    refine (rerr_any p b 0 _ h).mono ?_
    rintro e w1 ⟨rfl, rfl⟩
    go_wp2_with fail
    refine (rsize_any p b 0 _ h).mono ?_
    rintro e w1 ⟨rfl, rfl⟩
    rw [Hsz.out]
    go_wp2_with fail
    go_loop [5, 6] (fun s i => ∃ j : Nat, j ≤ k + 1 ∧ i = .int .i64 ((j : Int) - 1) ∧ s = .int .i64 (Wn.num7 ((b.take (k + 1)).drop j) : Nat)) (fun _ i => (intOf i + 1).toNat)
    case atStart =>
      refine ⟨k + 1, Nat.le_refl _, by go_num, ?_⟩
      rw [List.drop_of_length_le (by rw [Htl.out]; omega)]
      first | done | rfl
    case round =>
      obtain ⟨j, hj, rfl, rfl⟩ := hrel
      rcases Nat.eq_zero_or_pos j with rfl | hj0
      · rw [List.drop_zero]
        have hV := num7_bd (l := b.take (k + 1)) (by rw [Htl.out]; omega)
        have hcell := Hat.out k b[k] (List.getElem?_eq_getElem hkb)
        have hy0 : (((b[k].toNat : Nat) : Int) == 0) = decide (b[k] = 0) := by
          rw [Bool.eq_iff_iff, beq_iff_eq, decide_eq_true_iff, ← UInt8.toNat_inj]
          show _ ↔ b[k].toNat = 0
          omega
        have hdrop : SB (Only p) w (.slice (some ⟨b2, off2 + (k + 1), none⟩) (n - (k + 1)) (c - (k + 1))) (b.drop (k + 1)) := by
          have := SV.drop hb (k := k + 1) (by omega) (a' := some ⟨b2, off2 + (k + 1), none⟩) (fun _ b off e => by cases e; rfl)
          rw [← List.map_drop] at this; exact this
        have hdrop2 : c = k + 1 → SB (Only p) w (.slice (some ⟨b2, off2, none⟩) 0 0) (b.drop (k + 1)) := by
          intro hc
          rw [List.drop_of_length_le (by have := Hn.out; omega)]
          exact SV.nil_ _ _ _ _ (Nat.zero_le _)
        have Hd := hid hdrop
        have Hd2 := hid hdrop2
        have H := hid h
        clear hdrop hdrop2 h
        generalize Wn.num7 (b.take (k + 1)) = V at *
        generalize b[k] = y at *
        by_cases hbad : (0 < k ∧ y = 0) ∨ 281474976710656 < V
        · have hrd : Wn.rdNum b = (0, 0, 11) := by
            rcases Hrd.out with ⟨_, h1⟩ | ⟨h1, _⟩
            · exact h1
            · exact absurd hbad h1
          have Hr := hid hrd
          have hcs : (0 < k ∧ y = 0) ∨ (k ≤ 0 ∧ 281474976710656 < V) ∨ (0 < k ∧ y ≠ 0 ∧ 281474976710656 < V) := by
            by_cases g1 : 0 < k <;> by_cases g2 : y = 0 <;> simp [g1, g2] at hbad ⊢ <;> omega
          clear hrd hbad Hrd
          rcases hcs with ⟨g1, g2⟩ | ⟨g1, g2⟩ | ⟨g1, g2, g3⟩
          focus
            have hyb : (((y.toNat : Nat) : Int) == 0) = true := by rw [hy0]; simp [g2]
            clear hy0 g2
          rotate_left
          focus
            clear hy0
          rotate_left
          focus
            have hyb : (((y.toNat : Nat) : Int) == 0) = false := by rw [hy0]; simp [g2]
            clear hy0 g2
          all_goals
            go_wp2_with fail
            refine (rfail_any p b 11 _ H.out).mono ?_
            rintro e w1 ⟨rfl, hr1, hk1⟩
            go_wp2_with fail
            go_ret
            refine ⟨?_, ?_, hk1⟩
            · rw [Hr.out]; first | done | rfl
            · rw [Hr.out]; exact hr1
        · have hrd : Wn.rdNum b = (V, k + 1, 0) := by
            rcases Hrd.out with ⟨h1, _⟩ | ⟨_, h1⟩
            · exact absurd h1 hbad
            · exact h1
          have Hr := hid hrd
          have hcs : V ≤ 281474976710656 ∧ (k ≤ 0 ∨ (0 < k ∧ y ≠ 0)) := by
            by_cases g1 : 0 < k <;> by_cases g2 : y = 0 <;> simp [g1, g2] at hbad ⊢ <;> omega
          obtain ⟨hVs, hcs⟩ := hcs
          clear hrd hbad Hrd
          rcases hcs with g1 | ⟨g1, g2⟩
          focus
            clear hy0
          rotate_left
          focus
            have hyb : (((y.toNat : Nat) : Int) == 0) = false := by rw [hy0]; simp [g2]
            clear hy0 g2
          all_goals
            by_cases hcap : c = k + 1
            · have hd3 := Hd2.out hcap
              subst hcap
              go_wp2_with fail
              go_ret
              refine ⟨?_, ?_, ?_⟩
              · rw [Hr.out]; first | done | rfl
              · rw [Hr.out]; exact H.out.set0 hd3
              · exact (Keeps.refl _ _).only _ _
            · go_wp2_with fail
              go_ret
              refine ⟨?_, ?_, ?_⟩
              · rw [Hr.out]; first | done | rfl
              · rw [Hr.out]; exact H.out.set0 Hd.out
              · exact (Keeps.refl _ _).only _ _
      · obtain ⟨i, rfl⟩ : ∃ i, j = i + 1 := ⟨j - 1, by omega⟩
        have hib : i < b.length := by omega
        have hil : i < (b.take (k + 1)).length := by rw [Htl.out]; omega
        have hcell := Hat.out i b[i] (List.getElem?_eq_getElem hib)
        have hst : Wn.num7 ((b.take (k + 1)).drop i) = b[i].toNat % 128 + 128 * Wn.num7 ((b.take (k + 1)).drop (i + 1)) := by
          rw [List.drop_eq_getElem_cons hil, List.getElem_take]; rfl
        have hbd := num7_bd (l := (b.take (k + 1)).drop (i + 1)) (by rw [List.length_drop, Htl.out]; omega)
        have hbd2 := num7_bd (l := (b.take (k + 1)).drop i) (by rw [List.length_drop, Htl.out]; omega)
        have Hst := hid hst
        have hbd3 : Wn.num7 ((b.take (k + 1)).drop (i + 1)) * 128 ≤ 72057594037927936 := by omega
        have hy := b[i].toNat_lt
        clear hst
        generalize b[i] = y at *
        generalize Wn.num7 ((b.take (k + 1)).drop (i + 1)) = acc at *
        go_wp2
        go_round
        case rel => exact ⟨i, by omega, by go_num, by rw [Hst.out]; go_num⟩
        case measure => simp [intOf]

/-- A new reader of bytes. -/
def PReader (b : List UInt8) (w : World) (e : Ending) (w' : World) : Prop := ∃ p, e = .returned (.pointer (some ⟨p, 0, none⟩)) ∧ w.heap.size ≤ p ∧ Rd w' p b 0 ∧ Keeps No w w'

set_option maxRecDepth 20000 in
set_option maxHeartbeats 1000000 in
theorem rnew_any (M : Blocks) (v : Value) (b : List UInt8) (w : World) (h : SB M w v b) (hsz : b.length ≤ 16777216) :
    Calls Try.prog 66 #[v] w (PReader b w) := by
  obtain ⟨i0, hi, hz0, hz1, hz2⟩ := info_parts info5
  obtain ⟨a, n, c, rfl, hn, hnc, hcm⟩ := h.opened
  unfold maxLen at hcm
  have hm : (b.map bv).length = n := by rw [List.length_map]; exact hn.symm
  have hn24 : n ≤ 16777216 := by omega
  have Hm := hid hm
  clear hm hn
  go_enter Try.func66, Try.ntmps66
  go_wp2_with (at_builtin; go_must (refine wpList_copy _ rfl (.tmp 3) (.tmp 4) _ rfl 5 i0 _ 1 Try.underlying24 hi hz0 hz1 hz2 rfl rfl M _ (b.map bv) rfl h (one_bv _) n Hm.out (by unfold maxLen; omega) (by omega) ?_); intro a1 c1 w1 hown1 hk1)
  go_ret
  refine ⟨w1.heap.size, rfl, hk1.size, ?_, hk1.alloc _⟩
  refine ⟨a1, n, c1, heap_alloc_new w1 _, SV.alloc (SV.of_own hown1 fun g hg => ?_) _⟩
  have := (hown1.lt g hg).2
  unfold Only
  omega

theorem rnumber_any (p : Nat) (b : List UInt8) (w : World) (h : Rd w p b 0) : Calls Try.prog 67 #[.pointer (some ⟨p, 0, none⟩)] w (PNum p b w) := by
  have hp : p < w.heap.size := h.facts.elim fun _ ⟨_, _, _, _, _, _, hp, _⟩ => hp
  have H := hid h
  clear h
  go_enter Try.func67, Try.ntmps67
  go_wp2_with (go_at_call 73; go_in)
  refine (rnum_any p b _ H.out).mono ?_
  rintro e w1 ⟨rfl, hr, hk⟩
  go_wp2
  go_ret
  exact ⟨rfl, hr, hk⟩
theorem rerror_any (p : Nat) (b : List UInt8) (x : Int) (w : World) (h : Rd w p b x) :
    Calls Try.prog 68 #[.pointer (some ⟨p, 0, none⟩)] w fun e w' => e = .returned (.int .i64 x) ∧ w = w' := by
  have H := hid h
  clear h
  go_enter Try.func68, Try.ntmps68
  go_wp2_with (go_at_call 73; go_in)
  refine (rerr_any p b x _ H.out).mono ?_
  rintro e w1 ⟨rfl, rfl⟩
  go_wp2
  go_ret
  exact ⟨rfl, rfl⟩
theorem rlefts_any (p : Nat) (b : List UInt8) (x : Int) (w : World) (h : Rd w p b x) :
    Calls Try.prog 69 #[.pointer (some ⟨p, 0, none⟩)] w fun e w' => e = .returned (.int .i64 (b.length : Int)) ∧ w = w' := by
  have H := hid h
  clear h
  go_enter Try.func69, Try.ntmps69
  go_wp2_with (go_at_call 73; go_in)
  refine (rleft_any p b x _ H.out).mono ?_
  rintro e w1 ⟨rfl, rfl⟩
  go_wp2
  go_ret
  exact ⟨rfl, rfl⟩
end Go.Proofs.Ytkblcdjkabiliaa
