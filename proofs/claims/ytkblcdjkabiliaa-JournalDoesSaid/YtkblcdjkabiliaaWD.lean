/- The walks through crc.Tail, crc.Whole and the reference's. -/
import Derived.Test.YtkblcdjkabiliaaWB
import Derived.Test.YtkblcdjkabiliaaWC
import Derived.Deep.DeepMust
namespace Go.Proofs.Ytkblcdjkabiliaa
open Go.RowKit Wm

theorem info5 : (Try.prog.info? 5).map (fun i => (i.zero, i.size, i.bytes)) = some (some (.int .u8 0), 1, 1) := by kernel_rfl
theorem info24 : (Try.prog.info? 24).map (fun i => (i.zero, i.size, i.bytes)) = some (some (.slice none 0 0), 1, 24) := by kernel_rfl

set_option maxHeartbeats 400000 in
theorem tail_any (s : Nat) (w : World) (hs : s < 4294967296) :
    Calls Try.prog 19 #[.int .u32 (s : Int)] w fun e w' => ∃ v, e = .returned v ∧ SB (Old w) w' v (Wn.le4 s) ∧ Keeps No w w' := by
  have hmk : ∀ w, (Instr.makeSlice 24 (.int .i64 4) (.int .i64 4)).run Try.prog w = .ok (.slice (some ⟨w.heap.size, 0, none⟩) 4 4) (w.alloc (.cells #[.int .u8 0, .int .u8 0, .int .u8 0, .int .u8 0] 5)) := fun _ => by kernel_rfl
  go_enter Try.func19, Try.ntmps19
  go_wp2
  go_rounds 5
  go_ret
  refine ⟨_, rfl, SV.new _ _ _ _ _ _ _ rfl (by omega) (by unfold maxLen; omega) ?_, (Keeps.refl _ _).alloc _⟩
  intro i u hu
  have e1 : (↑s % 256 : Int) = ((s % 256 : Nat) : Int) := by omega
  have e2 : (↑s / 256 % 256 : Int) = ((s / 256 % 256 : Nat) : Int) := by omega
  have e3 : (↑s / 65536 % 256 : Int) = ((s / 65536 % 256 : Nat) : Int) := by omega
  have e4 : (↑s / 16777216 : Int) = ((s / 16777216 % 256 : Nat) : Int) := by omega
  rw [e1, e2, e3, e4]
  match i, hu with
  | 0, hu => simpa [Wn.le4, bv] using hu
  | 1, hu => simpa [Wn.le4, bv] using hu
  | 2, hu => simpa [Wn.le4, bv] using hu
  | 3, hu => simpa [Wn.le4, bv] using hu
  | i + 4, hu => simp [Wn.le4] at hu

set_option maxRecDepth 20000 in
set_option maxHeartbeats 1000000 in
theorem rtail_any (s : Nat) (w : World) (hs : s < 4294967296) :
    Calls Try.prog 20 #[.int .u32 (s : Int)] w fun e w' => ∃ v, e = .returned v ∧ SB (Old w) w' v (Wn.le4 s) ∧ Keeps No w w' := by
  obtain ⟨i0, hi, hz0, hz1, hz2⟩ := info_parts info5
  go_enter Try.func20, Try.ntmps20
  go_wp2
  go_loopw [0, 3, 4] (fun x v i wr => ∃ k : Nat, k ≤ 4 ∧ i = .int .i64 k ∧ x = .int .u32 (s / 256 ^ k : Nat) ∧ wr.ownsRow w.heap.size 5 1 v k (((Wn.le4 s).take k).map bv) ∧ Keeps No w wr) (fun _ _ i _ => 4 - (intOf i).toNat)
  case atStart => exact ⟨0, by omega, rfl, by simp, World.ownsRow_nil _ _ _ _, Keeps.refl _ _⟩
  case round =>
    obtain ⟨k, hk, rfl, rfl, hown, hkeep⟩ := hrel
    have hpow : k < 4 → (Wn.le4 s).take (k + 1) = (Wn.le4 s).take k ++ [UInt8.ofNat (s / 256 ^ k)] := by
      intro h
      match k, h with
      | 0, _ => simp [Wn.le4]
      | 1, _ => simp [Wn.le4]
      | 2, _ => simp [Wn.le4]
      | 3, _ => simp [Wn.le4]
    have Hp := hid hpow
    have hdiv : s / 256 ^ (k + 1) = s / 256 ^ k / 256 := by rw [Nat.pow_succ, Nat.div_div_eq_div_mul]
    have Hd := hid hdiv
    have hy : s / 256 ^ k < 4294967296 := Nat.lt_of_le_of_lt (Nat.div_le_self _ _) hs
    clear hpow hdiv
    generalize s / 256 ^ k = y at *
    have hks := hkeep.size
    by_cases hlt : k < 4
    · go_wp2_with (at_builtin; go_must (refine wpList_append_any _ rfl (.tmp 9) (.tmp 13) _ rfl w.heap.size 5 i0 _ 1 Try.underlying24 hi hz0 hz1 hz2 rfl _ _ _ rfl (hown.alloc _) (Old wr) _ [bv (UInt8.ofNat y)] rfl (SV.new _ _ _ _ _ _ _ rfl (by simp) (by unfold maxLen; omega) (one_at (bv_of (by omega)))) (one_cell rfl) (by unfold maxLen; simp; omega) (by simp; omega) (by simp; omega) ?_); intro v1 w1 hown1 hg1 hat1)
      go_roundw
      case rel =>
        refine ⟨k + 1, by omega, by go_num, by rw [Hd.out]; go_num, ?_, ?_⟩
        · rw [Hp.out hlt, List.map_append]; exact hown1
        · exact (hkeep.alloc _).app (hown.alloc _) (Nat.le_refl _) hg1
      case measure => simp [intOf]; omega
    · have : k = 4 := by omega
      subst this
      go_wp2
      go_ret
      exact ⟨_, rfl, SV.fresh hown (Nat.le_refl _), hkeep⟩

/-- Do bytes end in their sum? -/
def wholeB (b : List UInt8) : Bool := decide (4 ≤ b.length ∧ b.drop (b.length - 4) = Wn.le4 (Wn.crc (b.take (b.length - 4))))

theorem list_eq_of_takes {l m : List UInt8} (h : l.length = m.length) (n : Nat) (hn : l.length ≤ n) (ht : l.take n = m.take n) : l = m := by
  rwa [List.take_of_length_le hn, List.take_of_length_le (by omega)] at ht

/-- What crc.Whole leaves. -/
def PWhole (w : World) (b : List UInt8) (e : Ending) (w' : World) : Prop :=
  ∃ r, e = .returned (.tuple #[r, .bool (wholeB b)]) ∧ SB (Old w) w' r (if wholeB b = true then b.take (b.length - 4) else []) ∧ Keeps No w w'

set_option maxRecDepth 20000 in
set_option maxHeartbeats 1000000 in
theorem whole_any (M : Blocks) (v : Value) (b : List UInt8) (w : World) (h : SB M w v b) (hsz : b.length ≤ 16777216) :
    Calls Try.prog 21 #[v] w (PWhole w b) := by
  obtain ⟨i0, hi, hz0, hz1, hz2⟩ := info_parts info5
  obtain ⟨a, n, c, rfl, hn, hnc, hcm⟩ := h.opened
  unfold maxLen at hcm
  by_cases h4 : n < 4
  · have hw : wholeB b = false := by unfold wholeB; rw [decide_eq_false_iff_not]; omega
    have Hw := hid hw
    clear hw hn
    go_enter Try.func21, Try.ntmps21
    go_wp2
    go_ret2
    unfold PWhole
    rw [Hw.out]
    exact ⟨_, rfl, SV.nil_ _ _ _ _ (by omega), Keeps.refl _ _⟩
  · obtain ⟨k, rfl⟩ : ∃ k, n = k + 4 := ⟨n - 4, by omega⟩
    have hk : b.length - 4 = k := by omega
    have hkb : k ≤ 16777216 := by omega
    have Hn := hid hn
    have Hk := hid hk
    clear hk hn h4
    have htk : SB M w (.slice a k c) (b.take k) := by
      have := SV.take h (k := k) (by omega)
      rw [← List.map_take] at this; exact this
    have HT := hid htk
    have hcl := Wn.crc_lt (b.take k)
    have hlast : wholeB b = decide (b.drop k = Wn.le4 (Wn.crc (b.take k))) := by
      unfold wholeB; rw [Hk.out]; have := Hn.out; congr 1; simp only [eq_iff_iff]; constructor
      · exact fun h => h.2
      · exact fun h => ⟨by omega, h⟩
    have Hlast := hid hlast
    clear htk hlast
    go_enter Try.func21, Try.ntmps21
    go_wp2_with fail
    refine (sum_any No _ [b.take k] _ (SL.one_new HT.out)).mono ?_
    rintro e w1 ⟨rfl, rfl⟩
    simp only [List.flatten_singleton]
    generalize Wn.crc (b.take k) = cs at *
    go_wp2_with fail
    refine (tail_any _ _ hcl).mono ?_
    rintro e w1 ⟨v1, rfl, ht1, hkeep1⟩
    obtain ⟨a2, n2, c2, rfl, hn2, hnc2, hcm2⟩ := ht1.opened
    unfold maxLen at hcm2
    rw [Wn.le4_length] at hn2
    subst hn2
    go_wp2_with fail
    have h1 : SB M w1 (.slice a (k + 4) c) b := (SV.alloc h _).keep hkeep1 (fun _ _ hk => hk.elim)
    go_loop [19] (fun i => ∃ j : Nat, j ≤ 4 ∧ i = .int .i64 j ∧ (b.drop k).take j = (Wn.le4 cs).take j) (fun i => 4 - (intOf i).toNat)
    case atStart => exact ⟨0, by omega, rfl, by simp⟩
    case round =>
      obtain ⟨j, hj, rfl, heq⟩ := hrel
      have Heq := hid heq
      clear heq
      by_cases hlt : j < 4
      · obtain ⟨b1, off1, rfl, _, hat1⟩ := h1.at_ (by omega)
        obtain ⟨b2, off2, rfl, _, hat2⟩ := ht1.at_ (by omega)
        have hkl : k + j < b.length := by have := Hn.out; omega
        have hkm : j < (Wn.le4 cs).length := by rw [Wn.le4_length]; omega
        have hc1 := hat1 (k + j) b[k + j] (List.getElem?_eq_getElem hkl)
        have hc2 := hat2 j (Wn.le4 cs)[j] (List.getElem?_eq_getElem hkm)
        clear hat1 hat2
        have hjd : j < (b.drop k).length := by rw [List.length_drop]; omega
        have hst : b[k + j] = (Wn.le4 cs)[j] → (b.drop k).take (j + 1) = (Wn.le4 cs).take (j + 1) := by
          intro e
          rw [List.take_succ_eq_append_getElem hjd, List.take_succ_eq_append_getElem hkm, Heq.out, List.getElem_drop, e]
        have Hst := hid hst
        have hno : b[k + j] ≠ (Wn.le4 cs)[j] → b.drop k ≠ Wn.le4 cs := by
          intro hne e
          apply hne
          have : (b.drop k)[j]? = (Wn.le4 cs)[j]? := by rw [e]
          rw [List.getElem?_drop, List.getElem?_eq_getElem hkl, List.getElem?_eq_getElem hkm] at this
          exact Option.some.inj this
        have Hno := hid hno
        clear hst hno
        have hxy := @u8_ne b[k + j] (Wn.le4 cs)[j]
        generalize b[k + j] = x at *
        generalize (Wn.le4 cs)[j] = y at *
        by_cases hxe : x = y
        · have ht : (((x.toNat : Nat) : Int) == ((y.toNat : Nat) : Int)) = true := by rw [hxy]; simp [hxe]
          have Hx := hid hxe
          clear hxy hxe
          go_wp2
          go_round
          case rel => exact ⟨j + 1, by omega, by go_num, Hst.out Hx.out⟩
          case measure => simp [intOf]; omega
        · have ht : (((x.toNat : Nat) : Int) == ((y.toNat : Nat) : Int)) = false := by rw [hxy]; simp [hxe]
          have Hx := hid hxe
          clear hxy hxe
          go_wp2
          go_ret2
          unfold PWhole
          rw [Hlast.out, decide_eq_false (Hno.out Hx.out)]
          exact ⟨_, rfl, SV.nil_ _ _ _ _ (by omega), ((Keeps.refl _ _).alloc _).then_ hkeep1⟩
      · have hje : j = 4 := by omega
        subst hje
        have hall : b.drop k = Wn.le4 cs := list_eq_of_takes (by rw [List.length_drop, Wn.le4_length]; have := Hn.out; omega) 4 (by rw [List.length_drop]; have := Hn.out; omega) Heq.out
        have Hall := hid hall
        clear hall
        have htk1 : SB M w1 (.slice a k c) (b.take k) := (SV.alloc HT.out _).keep hkeep1 (fun _ _ hk => hk.elim)
        have hl : (b.take k).length = k := by rw [List.length_take]; have := Hn.out; omega
        have hw : PWhole w b = fun e w' => ∃ r, e = .returned (.tuple #[r, .bool true]) ∧ SB (Old w) w' r (b.take k) ∧ Keeps No w w' := by
          unfold PWhole
          rw [Hlast.out, decide_eq_true Hall.out, Hk.out, if_pos rfl]
        have Hw := hid hw
        clear hw HT
        generalize hp : b.take k = p at *
        have hl1 : p.length ≤ k := by omega
        clear hl hp
        have hm : (p.map bv).length = p.length := List.length_map _
        go_wp2_with (at_builtin; go_must (refine wpList_append_copy _ rfl (.tmp 33) (.tmp 36) _ rfl 5 i0 _ 1 Try.underlying24 hi hz0 hz1 hz2 rfl rfl M _ (p.map bv) rfl htk1 (one_bv _) (by rw [hm]; unfold maxLen; omega) (by rw [hm]; omega) ?_); intro v2 w2 hown2 hkeep2)
        go_ret2
        rw [Hw.out]
        exact ⟨_, rfl, SV.fresh hown2 (by have := hkeep1.size; simp at this; omega), ((Keeps.refl _ _).alloc _).then_ (hkeep1.then_ hkeep2)⟩
end Go.Proofs.Ytkblcdjkabiliaa
