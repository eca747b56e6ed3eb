/- FrameTurned: the plain law of turned loads, and the law's walk. -/
import Derived.Test.YtkblcdjkabiliaaWL
import Derived.RegionTactic
namespace Wn
theorem le_append (p l : List UInt8) : le (p ++ l) = le p ^^^ 2 ^ (8 * p.length) * le l := by
  induction p with
  | nil => simp [le]
  | cons c p ih =>
    rw [List.cons_append]
    simp only [le]
    rw [ih, xor_mul256 _ _ (by have := c.toNat_lt; omega), xor_mul256 _ _ (by have := c.toNat_lt; omega), mul_xor_256, Nat.xor_assoc]
    congr 2
    rw [List.length_cons, show 8 * (p.length + 1) = 8 + 8 * p.length by omega, Nat.pow_add, ← Nat.mul_assoc]
theorem le_inj : ∀ (l m : List UInt8), l.length = m.length → le l = le m → l = m := by
  intro l
  induction l with
  | nil => intro m h _; exact (List.eq_nil_of_length_eq_zero h.symm).symm
  | cons c l ih =>
    intro m h he
    cases m with
    | nil => simp at h
    | cons d m =>
      simp only [le] at he
      have hc := c.toNat_lt
      have hd := d.toNat_lt
      have h1 : c.toNat = d.toNat := by omega
      have h2 : le l = le m := by omega
      rw [ih m (by simpa using h) h2, UInt8.toNat_inj.1 h1]
/-- A frame of which some bits of the load are turned. -/
theorem opFrame_turned (load l : List UInt8) (first w : Nat) (hl : l.length = load.length) (h : load.length ≤ 32768) (hf : first ≤ 8 * load.length) (hw : w < 4294967296) (he : le l = le load ^^^ 2 ^ first * w) :
    (w = 0 → l = load ∧ opFrame (vb load.length ++ (l ++ le4 (crc (hdFrame load)))) = (load, 0)) ∧
    (w ≠ 0 → opFrame (vb load.length ++ (l ++ le4 (crc (hdFrame load)))) = ([], 13)) := by
  constructor
  · intro h0
    have hll : l = load := by
      apply le_inj _ _ hl
      rw [he, h0, Nat.mul_zero, Nat.xor_zero]
    subst hll
    refine ⟨rfl, ?_⟩
    have := opFrame_mk l h
    unfold mkFrame hdFrame at this
    rw [List.append_assoc] at this
    exact this
  · intro h0
    have hcrc : crc (vb load.length ++ l) ≠ crc (hdFrame load) := by
      intro e
      have hb := crc_burst (hdFrame load) (vb load.length ++ l) (by unfold hdFrame; simp [hl]) (8 * (vb load.length).length + first) w (by unfold hdFrame; rw [List.length_append]; omega) hw (by
        unfold hdFrame
        rw [le_append, le_append, he, mul_xor_pow, Nat.xor_assoc, Nat.pow_add, Nat.mul_assoc])
      exact h0 (hb.1 e.symm)
    have hn : rdNum (vb load.length ++ (l ++ le4 (crc (hdFrame load)))) = (load.length, (vb load.length).length, 0) := rdNum_vb _ (by omega) _
    have hlen : (vb load.length ++ (l ++ le4 (crc (hdFrame load)))).length = (vb load.length).length + load.length + 4 := by
      simp [le4_length, hl]; omega
    have hwh : whole (vb load.length ++ (l ++ le4 (crc (hdFrame load)))) = false := by
      unfold whole
      rw [hlen, show (vb load.length).length + load.length + 4 - 4 = (vb load.length ++ l).length by simp [hl], ← List.append_assoc, List.drop_left, List.take_left]
      rw [decide_eq_false_iff_not]
      rintro ⟨_, h1⟩
      exact hcrc (le4_inj (crc_lt _) (crc_lt _) h1.symm)
    have hfr : rdFrame (vb load.length ++ (l ++ le4 (crc (hdFrame load)))) = ([], 0, 13) := by
      unfold rdFrame
      simp only [hn]
      rw [if_neg (by simp), if_neg (by omega), if_neg (by rw [hlen]; omega), List.take_of_length_le (by rw [hlen]; omega), hwh]
      simp
    unfold opFrame
    rw [hfr]
    simp
end Wn
namespace Go.Proofs.Ytkblcdjkabiliaa
open Go.RowKit Wm

theorem own_form {w : World} {base : Nat} {e : TypeId} {size : Nat} {v : Value} {n : Nat} {xs : List Value} (h : w.ownsRow base e size v n xs) (h0 : 0 < n) :
    ∃ g cap, v = .slice (some ⟨g, 0, none⟩) n cap ∧ base ≤ g ∧ n ≤ cap ∧ cap ≤ maxLen := by
  rcases h.2 with ⟨_, hn⟩ | ⟨g, cap, cur, hv, hg, _, hc, hm, _, _⟩
  · omega
  · exact ⟨g, cap, hv, hg, hc, hm⟩
theorem mod_succ_eq {w i : Nat} (h : ¬ w / 2 ^ i % 2 = 1) : w % 2 ^ (i + 1) = w % 2 ^ i := by
  rw [Wn.mod_two_pow_succ, if_neg h, Nat.xor_zero]
theorem mod_succ_ne {w i : Nat} (h : w / 2 ^ i % 2 = 1) : w % 2 ^ (i + 1) ≠ 0 := by
  intro h0
  have hb : (w % 2 ^ (i + 1)).testBit i = true := by
    rw [Nat.testBit_mod_two_pow, Nat.testBit_eq_decide_div_mod_eq]
    simp [h]
  rw [h0] at hb; simp at hb
theorem turn_u8 {x : Nat} {m : Nat} (hx : x < 256) (hm : m < 8) : bits .xor .u8 (x : Int) ((2 : Int) ^ m % 256) = ((x ^^^ 2 ^ m : Nat) : Int) := by
  have hp : 2 ^ m < 256 := Nat.lt_of_lt_of_le (Nat.pow_lt_pow_right (by omega) hm) (by omega)
  have e : (2 : Int) ^ m % 256 = ((2 ^ m : Nat) : Int) := by
    rw [show (2 : Int) ^ m = ((2 ^ m : Nat) : Int) by simp]
    have h0 : (0 : Int) ≤ ((2 ^ m : Nat) : Int) := Int.natCast_nonneg _
    exact Int.emod_eq_of_lt h0 (by omega)
  rw [e]
  exact u8_xor_nat x (2 ^ m) hx hp
/-- A frame's bytes with another load in it. -/
def fram (p l t : List UInt8) : List UInt8 := p ++ (l ++ t)
theorem fram_set (p l t : List UInt8) (j : Nat) (hj : j < l.length) (x : UInt8) : (fram p l t).set (p.length + j) x = fram p (l.set j x) t := by
  unfold fram
  rw [List.set_append_right _ _ (by omega), Nat.add_sub_cancel_left, List.set_append_left _ _ hj]
theorem fram_at (p l t : List UInt8) (j : Nat) (hj : j < l.length) : (fram p l t)[p.length + j]? = some l[j] := by
  unfold fram
  rw [List.getElem?_append_right (by omega), Nat.add_sub_cancel_left, List.getElem?_append_left hj, List.getElem?_eq_getElem hj]

set_option maxRecDepth 100000 in
set_option maxHeartbeats 4000000 in
theorem frameTurned_any (v : Value) (b : List UInt8) (at_ turn : Int) (w : World) (h : SB No w v b) (hat : 0 ≤ at_ ∧ at_ ≤ 65535) (htu : 0 ≤ turn ∧ turn ≤ 4294967295) :
    Calls Try.prog 12 #[v, .int .u16 at_, .int .u32 turn] w (PTrue w) := by
  obtain ⟨a, n, c, rfl, hn, hnc, hcm⟩ := h.opened
  obtain ⟨at0, rfl⟩ := Int.eq_ofNat_of_zero_le hat.1
  obtain ⟨tu, rfl⟩ := Int.eq_ofNat_of_zero_le htu.1
  obtain ⟨-, hat⟩ := hat
  obtain ⟨-, htu⟩ := htu
  unfold maxLen at hcm
  have Hn := hid hn
  clear hn
  go_enter Try.func12, Try.ntmps12
  go_wp2_with fail
  refine (awake4_any w).mono ?_
  rintro e w1 ⟨rfl, hk1⟩
  have h1 : SB No w1 (.slice a n c) b := SV.keep h hk1 fun _ _ hk => hk.elim
  by_cases h400 : n ≤ 400
  · by_cases hn0 : n = 0
    · subst hn0
      go_wp2_with fail
      go_ret
      exact ⟨rfl, hk1⟩
    · have hnb : (((n : Nat) : Int) == 0) = false := by rw [beq_eq_false_iff_ne]; omega
      have hnpos : 0 < n := by omega
      clear hn0
      have hlen : b.length ≤ 32768 := by have := Hn.out; omega
      have hml := Wn.mk_length b
      obtain ⟨hd, hhd⟩ : ∃ hd, (Wn.vb n).length = hd := ⟨_, rfl⟩
      have hhd3 : hd ≤ 3 := by have := Wn.vb_len3 (n := n) (by omega); omega
      have hhd1 : 1 ≤ hd := by have := (Wn.vb_pos n (Nat.lt_of_le_of_lt (show n ≤ 400 by omega) (by decide))).1; omega
      rw [← Hn.out, hhd] at hml
      have Hml := hid hml
      have Hhd := hid hhd
      clear hml hhd
      go_wp2_with fail
      refine (make_ok No _ [b] _ (SL.one_new h1) (by simpa using hlen)).mono ?_
      rintro e w2 ⟨ab, r, cb, rfl, hown2, hk2⟩
      rw [List.flatten_singleton] at hown2
      have hr : r = hd + n + 4 := by have := hown2.1; rw [List.length_map, Hml.out] at this; omega
      subst hr
      obtain ⟨g, cap, hv1, hg, hncap, hcap⟩ := own_form hown2 (by omega)
      simp only [Value.slice.injEq, true_and] at hv1
      obtain ⟨rfl, rfl⟩ := hv1
      unfold maxLen at hcap
      rw [World.size_alloc] at hown2 hg
      have hfr : Wn.mkFrame b = fram (Wn.vb n) b (Wn.le4 (Wn.crc (Wn.hdFrame b))) := by
        unfold fram Wn.mkFrame
        rw [show Wn.hdFrame b = Wn.vb n ++ b by unfold Wn.hdFrame; rw [← Hn.out], List.append_assoc]
      rw [hfr] at hown2
      obtain ⟨t, ht⟩ : ∃ t, Wn.le4 (Wn.crc (Wn.hdFrame b)) = t := ⟨_, rfl⟩
      rw [ht] at hown2
      have htl : t.length = 4 := by rw [← ht]; rfl
      have Ht := hid ht
      clear hfr ht
      obtain ⟨first, hf, hfirst⟩ : ∃ first : Nat, first < 8 * n ∧ (at0 : Int) % (8 * (n : Int)) = (first : Int) := ⟨at0 % (8 * n), Nat.mod_lt _ (by omega), by simp⟩
      have Hfirst := hid hfirst
      have hK2 : Keeps No w1 w2 := ((Keeps.refl _ _).alloc _).then_ hk2
      have hsub : ((hd + n + 4 : Nat) : Int) - 4 - (n : Int) = (hd : Int) := by omega
      go_wp2_with fail
      rw [Hfirst.out]
      clear hfirst hsub
      go_loopw [11, 12] (fun q i wr => ∃ (k : Nat) (l : List UInt8), k ≤ 32 ∧ first + k ≤ 8 * n ∧ i = .int .i64 k ∧ l.length = n ∧ wr.ownsRow (w1.heap.size + 1) 5 1 (.slice (some ⟨g, 0, none⟩) (hd + n + 4) cb) (hd + n + 4) ((fram (Wn.vb n) l t).map bv) ∧ Wn.le l = Wn.le b ^^^ 2 ^ first * (tu % 2 ^ k) ∧ q = .bool (decide (tu % 2 ^ k ≠ 0)) ∧ Keeps No w1 wr) (fun _ i _ => 32 - (intOf i).toNat)
      case atStart => exact ⟨0, b, by omega, by omega, rfl, Hn.out.symm, hown2, by rw [Nat.pow_zero, Nat.mod_one, Nat.mul_zero, Nat.xor_zero], by simp [Nat.mod_one], hK2⟩
      case round =>
        obtain ⟨k, l, hk, hfk, rfl, hll, hown, hle, rfl, hkr⟩ := hrel
        by_cases hgo : k < 32 ∧ first + k < 8 * n
        · obtain ⟨hlt, hend⟩ := hgo
          have hbit : bits .and .u32 ((tu : Int) / 2 ^ k) 1 = ((tu / 2 ^ k % 2 : Nat) : Int) := by
            have h1 : tu / 2 ^ k ≤ tu := Nat.div_le_self _ _
            have := u32_and_nat (tu / 2 ^ k) 1 (by omega) (by omega)
            rw [Nat.and_one_is_mod] at this
            simpa using this
          have hj : (first + k) / 8 < l.length := by omega
          have hcell : wr.cell? ⟨g, hd + (first + k) / 8, none⟩ = some (bv l[(first + k) / 8]) := by
            rw [hown.cellAt _ (by omega), List.getElem?_map, ← Hhd.out, fram_at _ _ _ _ hj]; rfl
          have hfz := hown.frozenAt (hd + (first + k) / 8)
          have hro := Wn.le_round b l first k tu _ hle (List.getElem?_eq_getElem hj)
          have hro' := Wn.le_round_no b l first k tu hle
          have hset : ∀ x : UInt8, ((fram (Wn.vb n) l t).map bv).set (hd + (first + k) / 8) (bv x) = (fram (Wn.vb n) (l.set ((first + k) / 8) x) t).map bv := by
            intro x
            rw [← List.map_set, ← Hhd.out, fram_set _ _ _ _ hj]
          unfold bv at hcell
          have Hll := hid hll
          have Hro := hid hro
          have Hro' := hid hro'
          have Hset := hid hset
          clear hle hll hro hro' hset
          generalize l[(first + k) / 8] = x at *
          have hx := x.toNat_lt
          rcases Nat.mod_two_eq_zero_or_one (tu / 2 ^ k) with hb0 | hb0
          · have ht : (bits .and .u32 ((tu : Int) / 2 ^ k) 1 == 1) = false := by rw [hbit, hb0]; rfl
            have Hb0 := hid hb0
            clear hbit hb0
            go_wp2
            go_roundw
            case rel => exact ⟨k + 1, l, by omega, by omega, by go_num, Hll.out, hown, Hro'.out (by rw [Hb0.out]; omega), by rw [mod_succ_eq (by rw [Hb0.out]; omega)]; simp, hkr⟩
            case measure => simp [intOf]; omega
          · have ht : (bits .and .u32 ((tu : Int) / 2 ^ k) 1 == 1) = true := by rw [hbit, hb0]; rfl
            have Hb0 := hid hb0
            clear hbit hb0
            go_wp2
            go_region
            go_wp2
            have hst := hown.stored (hd + (first + k) / 8) (bv (UInt8.ofNat (x.toNat ^^^ 2 ^ ((first + k) % 8))))
            have hval : bits .xor .u8 (x.toNat : Int) ((2 : Int) ^ ((first + k) % 8) % 256) = ((x.toNat ^^^ 2 ^ ((first + k) % 8) : Nat) : Int) := turn_u8 (by omega) (by omega)
            have hlt256 : x.toNat ^^^ 2 ^ ((first + k) % 8) < 256 := Nat.xor_lt_two_pow (n := 8) (by omega) (Nat.pow_lt_pow_right (by omega) (by omega))
            have hbv : bv (UInt8.ofNat (x.toNat ^^^ 2 ^ ((first + k) % 8))) = .int .u8 (bits .xor .u8 (x.toNat : Int) ((2 : Int) ^ ((first + k) % 8) % 256)) := by
              rw [hval]; exact bv_of (by omega)
            rw [Hset.out, hbv] at hst
            go_roundw
            case rel => exact ⟨k + 1, _, by omega, by omega, by go_num, by rw [List.length_set]; exact Hll.out, hst.1, Hro.out Hb0.out, by rw [decide_eq_true (mod_succ_ne Hb0.out)], (hkr.setCell (fun hl => absurd hg (by simp at hl; omega)) _).drew⟩
            case measure => simp [intOf]; omega
        · have hw32 : tu % 2 ^ k < 4294967296 := Nat.lt_of_le_of_lt (Nat.mod_le _ _) (by omega)
          have hturn := Wn.opFrame_turned b l first (tu % 2 ^ k) (by rw [hll]; exact Hn.out) hlen (by have := Hn.out; omega) hw32 hle
          rw [← Hn.out, Ht.out] at hturn
          have hvc : SB No wr (.slice (some ⟨g, 0, none⟩) (hd + n + 4) cb) (fram (Wn.vb n) l t) := SV.of_own hown (fun _ _ hk => hk)
          have h2 : SB No wr (.slice a n c) b := SV.keep h1 hkr fun _ _ hk => hk.elim
          have hfl : (fram (Wn.vb n) l t).length ≤ 16777216 := by unfold fram; simp; have := Hhd.out; omega
          unfold fram at hvc hfl
          generalize tu % 2 ^ k = wd at *
          have Hturn := hid hturn
          clear hturn hle hw32 hll hown2 hown
          have hcases : (32 ≤ k) ∨ (k < 32 ∧ 8 * n ≤ first + k) := by omega
          rcases hcases with hk32 | ⟨hk32, hend⟩
          all_goals
            clear hgo
            by_cases hw0 : wd = 0
            · obtain ⟨hlb, hop⟩ := Hturn.out.1 hw0
              subst hw0
              have Hop := hid hop
              have Hlb := hid hlb
              clear hop hlb
              go_wp2_with fail
              refine (open_any No _ _ _ hvc hfl).mono ?_
              rintro e w3 ⟨r3, rfl, ht3, hk3⟩
              rw [Hop.out] at ht3 ⊢
              obtain ⟨a3, n3, c3, rfl, -, -, -⟩ := ht3.opened
              have h3 : SB No w3 (.slice a n c) b := SV.keep h2 hk3 fun _ _ hk => hk.elim
              go_wp2_with fail
              refine (bytes_any _ No _ _ _ _ _ ht3 h3).mono ?_
              rintro e w4 ⟨rfl, d4, rfl⟩
              rw [eqB_self]
              go_wp2_with fail
              go_ret
              exact ⟨rfl, ((hk1.then_ hkr).then_ hk3).drewN _⟩
            · have hop := Hturn.out.2 hw0
              have Hop := hid hop
              have hwb : decide (wd = 0) = false := by simp [hw0]
              clear hop
              go_wp2_with fail
              refine (open_any No _ _ _ hvc hfl).mono ?_
              rintro e w3 ⟨r3, rfl, ht3, hk3⟩
              rw [Hop.out] at ht3 ⊢
              obtain ⟨a3, n3, c3, rfl, hn3, -, -⟩ := ht3.opened
              simp at hn3
              subst hn3
              go_wp2_with fail
              go_ret
              exact ⟨rfl, (hk1.then_ hkr).then_ hk3⟩
  · go_wp2_with fail
    go_ret
    exact ⟨rfl, hk1⟩
end Go.Proofs.Ytkblcdjkabiliaa
