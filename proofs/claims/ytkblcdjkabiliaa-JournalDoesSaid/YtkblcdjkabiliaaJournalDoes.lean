/- JournalDoes: the law's walk. -/
import Derived.Test.YtkblcdjkabiliaaJJ
import Derived.BigGuardPart
namespace Go.Proofs.Ytkblcdjkabiliaa
open Go.RowKit Wm

theorem drewN_of {w : World} {a : Addr} {u : Value} {n : Nat} (h : w.cell? a = some u) : (w.drewN n).cell? a = some u := h
set_option maxRecDepth 100000 in
set_option maxHeartbeats 4000000 in
theorem journalDoes_any (z : Int) (v : Value) (l : List DoS) (w : World) (hz : 0 ≤ z ∧ z ≤ 65535) (h : SD No w v l) :
    Calls Try.prog 6 #[.int .u16 z, v] w (PTrue w) := by
  obtain ⟨a, n, c, rfl, hn, hnc, hcm⟩ := h.opened
  unfold maxLen at hcm
  have Hn := hid hn
  obtain ⟨zn, rfl⟩ := Int.eq_ofNat_of_zero_le hz.1
  have hzn : zn ≤ 65535 := by omega
  clear hn hz
  have hdd : (Wn.dNew zn).down = false := rfl
  have hbd := Bd.open_ 0 (Wn.dNew_wf (n := zn) (by omega))
  go_enter Try.func6, Try.ntmps6
  go_wp2_with fail
  refine (awake28_any _).mono ?_
  rintro e w1 ⟨rfl, hk1⟩
  have h1 := h.shift hk1 (M' := No) (fun _ _ hk => hk.elim) (fun _ _ hk => hk)
  go_wp2_with fail
  refine (long28_any No _ l _ h1).mono ?_
  rintro e w2 ⟨⟨r, rfl, hr⟩, hk2⟩
  have hK2 := hk1.then_ hk2
  clear h1 hk1 hk2
  have Hr := hid hr
  clear hr
  cases r with
  | true =>
    go_wp2_with fail
    go_ret
    exact ⟨rfl, hK2⟩
  | false =>
    go_wp2_with fail
    refine (dnew_any zn _ (by omega)).mono ?_
    rintro e w3 ⟨d, rfl, hp, hd3, hk3⟩
    have hf3 : ∀ k, Foot d (.slice none 0 0) k → w.heap.size ≤ k := by
      have := hK2.size
      rintro k (rfl | hk)
      · omega
      · cases hk
    have hK3 := hK2.then_ hk3
    go_wp2_with fail
    refine (jopen_any No d _ _ _ hd3 hdd (fun _ hk => hk.elim)).mono ?_
    intro e w4 hpo
    obtain ⟨p, rfl, v4, vl4, hjl4, -⟩ := JL.first hK3 hf3 hpo
    have hwf0 := Wn.dNew_wf (n := zn) (by omega)
    have hq0 : RDisk (w4.alloc (.cells #[.slice none 0 0, .int .i64 (zn : Int), .int .i64 0, .bool false, .bool false, .int .i64 0, .int .i64 0] 50)) w4.heap.size (U (Only w4.heap.size) (JB d v4 p vl4)) (Wn.dNew zn) :=
      ⟨none, 0, 0, heap_alloc_new w4 _, SV.nil_ _ _ _ _ (Nat.zero_le _), .inl rfl, by simp [Wn.dNew], hwf0⟩
    have hro := ropen_any' _ _ _ _ hq0
    have hr2 := Hr.out trivial
    have Hr2 := hid hr2
    have Hro := hid hro
    clear hr2 hp hd3 hk3 hK2 hK3 hf3 hpo hdd hwf0 hq0 hro
    generalize Wn.jOpen (Wn.dNew zn) = jo at *
    obtain ⟨j0, s0⟩ := jo
    simp only at hjl4 Hro hbd
    go_wp2_with fail
    refine Hro.out.mono ?_
    rintro e w5 ⟨m, rfl, vm, hrs5, hk5, hfr5⟩
    have hq1 : WJ w d v4 p vl4 w4.heap.size m vm s0 j0 s0 j0 w5 := by
      have hka : Keeps No w4 (w4.alloc (.cells #[.slice none 0 0, .int .i64 (zn : Int), .int .i64 0, .bool false, .bool false, .int .i64 0, .int .i64 0] 50)) := (Keeps.refl _ _).alloc _
      have hk45 : Keeps No w4 w5 := hka.trans hk5 fun k hl e => by unfold Only at e; omega
      have hR : ∀ k, RB w4.heap.size m vm k → w4.heap.size ≤ k := by
        rintro k (hk | hk)
        · have := hfr5 k hk; simp at this; omega
        · unfold Only at hk; omega
      have hsz := hjl4.2.2.size
      refine ⟨⟨hjl4.1.keep hk45 (fun _ _ hk => hk) (fun _ _ hk => hk.elim) (fun k hl hk => by have := hR k hk; omega), hjl4.2.1, hjl4.2.2.then_ hk45⟩, hrs5, fun k hk => ⟨fun hj => ?_, Nat.le_trans hsz (hR k hk)⟩⟩
      have h1 := hjl4.1.lt k hj; have h2 := hR k hk; omega
    have Hq1 := hid (show _ ∧ _ from ⟨hq1, hbd⟩)
    clear hq1 hbd hjl4 hrs5 hk5 hfr5 Hro
    generalize w4.heap.size = q at *
    go_wp2_with fail
    go_loopw [7, 9, 42] (fun uj um i wr => ∃ (k : Nat) (s : Wn.Dsk) (j : Wn.Jrn) (v : Value) (p : Nat) (vl : Value) (m : Nat) (vm : Value), k ≤ n ∧ i = .int .i64 k ∧ uj = .pointer (some ⟨p, 0, none⟩) ∧ um = .pointer (some ⟨m, 0, none⟩) ∧
      WJ w d v p vl q m vm s j s j wr ∧ Bd k j) (fun _ _ i _ => n - (intOf i).toNat)
    case atStart => exact ⟨0, s0, j0, v4, p, vl4, m, vm, Nat.zero_le _, rfl, rfl, rfl, Hq1.out.1, Hq1.out.2⟩
    case round =>
      obtain ⟨k, s, j, v, p, vl, m, vm, hk, rfl, rfl, rfl, hwj, hbd⟩ := hrel
      by_cases hlt : k < n
      · have hM := hwj.lt
        have h' := h.shift hwj.1.2.2 (M' := WB d v p vl q m vm) (fun _ _ hk => hk.elim) (fun k hl hk => by have := (hM k hk).2; omega)
        obtain ⟨b, off, rfl, _, hat⟩ := h'.at_ (by omega)
        have hkl : k < l.length := by have := Hn.out; omega
        have hy3 := Hr2.out.2 l[k] (List.getElem_mem hkl)
        have hok := h'.ok l[k] (List.getElem_mem hkl)
        obtain ⟨hd0, hd1, hd2, u, hd3, hub⟩ := hat k l[k] (List.getElem?_eq_getElem hkl)
        clear hat
        generalize l[k] = y at *
        obtain ⟨a2, n2, c2, rfl, hn2, hnc2, hcm2⟩ := hub.opened
        unfold maxLen at hcm2
        have hwx : WX w d p q m wr.heap.size y (.slice a2 n2 c2) s j s j (wr.alloc (.cells #[.int .i64 y.kind, .int .i64 y.n, .int .i64 y.keep, .slice a2 n2 c2] 52)) :=
          ⟨v, vl, vm, hwj.keepNo ((Keeps.refl _ _).alloc _), DX8.new (fun k hk => (hM k hk).1) hub⟩
        have hkn40 : k ≤ 40 := by have := Hn.out; have := Hr2.out.1; omega
        have hjl : j.l.length ≤ 1048576 := by have := hbd.2; omega
        have hyb : y.b.length ≤ 32768 := by omega
        have hNb : y.n ≤ 9223372036854775807 := hok.2.1.2
        have hwf := hwj.1.1.1.wf
        have HH := hid (show _ ∧ _ ∧ _ ∧ _ ∧ _ from ⟨hbd, hjl, hyb, hNb, hwf⟩)
        clear hn2 hok hy3 h' hub hM hwj hbd hjl hyb hNb hwf
        by_cases hk1 : y.kind = 1
        · have e1 : (y.kind == 1) = true := by rw [hk1]; rfl
          clear hk1
          go_wp2_with fail
          generalize (wr.alloc _) = wx at *
          clear hd0 hd1 hd2 hd3
          obtain ⟨-, -, -, hc3⟩ := hwx.cells
          have p28 : ∀ (s2 : Wn.Dsk) (j2 : Wn.Jrn) (pv : Value) (wy : World), WXL w d p q m wr.heap.size y (.slice a2 n2 c2) s j s2 j2 pv wy →
              Calls Try.prog 28 #[.pointer (some ⟨p, 0, none⟩), pv] wy (QW w d p q m wr.heap.size y (.slice a2 n2 c2) (.int .i64 ((Wn.jAdd j s y.b).1 : Int)) (Wn.jAdd j s y.b).2.2 (Wn.jAdd j s y.b).2.1 s2 j2) :=
            fun s2 j2 pv wy hl => wxl_add hl HH.out.2.2.1 HH.out.2.1
          have p29 : ∀ (s1 : Wn.Dsk) (j1 : Wn.Jrn) (wy : World), WX w d p q m wr.heap.size y (.slice a2 n2 c2) s1 j1 s j wy →
              Calls Try.prog 29 #[.pointer (some ⟨m, 0, none⟩), .slice a2 n2 c2] wy (QW w d p q m wr.heap.size y (.slice a2 n2 c2) (.int .i64 ((Wn.jAdd j s y.b).1 : Int)) s1 j1 (Wn.jAdd j s y.b).2.2 (Wn.jAdd j s y.b).2.1) :=
            fun s1 j1 wy hl => wx_radd hl HH.out.2.2.1 HH.out.2.1
          have p29l : ∀ (s1 : Wn.Dsk) (j1 : Wn.Jrn) (pv : Value) (wy : World), WXL w d p q m wr.heap.size y (.slice a2 n2 c2) s1 j1 s j pv wy →
              Calls Try.prog 29 #[.pointer (some ⟨m, 0, none⟩), .slice a2 n2 c2] wy (QWL w d p q m wr.heap.size y (.slice a2 n2 c2) (.int .i64 ((Wn.jAdd j s y.b).1 : Int)) s1 j1 (Wn.jAdd j s y.b).2.2 (Wn.jAdd j s y.b).2.1 pv) :=
            fun s1 j1 pv wy hl => wxl_radd hl HH.out.2.2.1 HH.out.2.1
          have part : ∀ (s1 s2 : Wn.Dsk) (j1 j2 : Wn.Jrn) (wy : World), WX w d p q m wr.heap.size y (.slice a2 n2 c2) s1 j1 s2 j2 wy →
              WXL w d p q m wr.heap.size y (.slice a2 n2 c2) s1 j1 s2 j2 (.slice (some ⟨wy.heap.size, 0, none⟩) 1 1) (wy.alloc (.cells #[.slice a2 n2 c2] 24)) :=
            fun s1 s2 j1 j2 wy hl => hl.part
          have p0 := hwx
          go_region_held3 (fun wy => wy.cell? ⟨wr.heap.size, 3, none⟩ = some (.slice a2 n2 c2))
            (first | exact hc3 | exact alloc_cell hc3 | exact (WX.c3 (by assumption)) | exact alloc_cell (WX.c3 (by assumption)) | exact (WXL.c3 (by assumption)) | exact WX.c3 (WX.drew (by assumption)) | exact alloc_cell (WX.c3 (WX.drew (by assumption))) | exact WXL.c3 (WXL.drew (by assumption)))
            (first
              | (go_at_call 28; refine (p28 _ _ _ _ (WXL.drew (part _ _ _ _ _ (by assumption)))).mono ?_; rintro e w5 ⟨rfl, hwx5⟩)
              | (go_at_call 28; refine (p28 _ _ _ _ (part _ _ _ _ _ (by assumption))).mono ?_; rintro e w5 ⟨rfl, hwx5⟩)
              | (go_at_call 28; refine (p28 _ _ _ _ (part _ _ _ _ _ (WX.drew (by assumption)))).mono ?_; rintro e w5 ⟨rfl, hwx5⟩)
              | (go_at_call 28; refine (p28 _ _ _ _ (WXL.drew (by assumption))).mono ?_; rintro e w5 ⟨rfl, hwx5⟩)
              | (go_at_call 28; refine (p28 _ _ _ _ (by assumption)).mono ?_; rintro e w5 ⟨rfl, hwx5⟩)
              | (go_at_call 29; refine (p29l _ _ _ _ (WXL.drew (part _ _ _ _ _ (by assumption)))).mono ?_; rintro e w5 ⟨rfl, hwx5⟩)
              | (go_at_call 29; refine (p29l _ _ _ _ (part _ _ _ _ _ (by assumption))).mono ?_; rintro e w5 ⟨rfl, hwx5⟩)
              | (go_at_call 29; refine (p29 _ _ _ (WX.drew (by assumption))).mono ?_; rintro e w5 ⟨rfl, hwx5⟩)
              | (go_at_call 29; refine (p29 _ _ _ (by assumption)).mono ?_; rintro e w5 ⟨rfl, hwx5⟩))
          all_goals
            clear p28 p29 p29l part p0 hc3
            obtain ⟨v9, vl9, vm9, hwj9, -⟩ := hwx5
            have hbd9 : Bd (k + 1) ((Wn.jAdd j s y.b).2.1) := HH.out.1.add HH.out.2.2.1
            generalize hst9 : ((Wn.jAdd j s y.b).2.2) = s9 at *
            generalize hjt9 : ((Wn.jAdd j s y.b).2.1) = j9 at *
            have hx9 : j9.l.length ≤ 1048576 ∧ ∀ x ∈ j9.l, x.length ≤ 16777216 := ⟨by have := hbd9.2; omega, fun x hx => by have := hbd9.1 x hx; omega⟩
            clear hst9 hjt9
            obtain ⟨am, nm, cm, usm, rfl, hmn, hmnc, hmcm, -, -, -, hcm1, -, -, -, -⟩ := hwj9.2.1.2.facts
            have hslm := hwj9.2.1.2.sl
            have hrec := fun W (hW : JnlAt 84 (U (Foot p vl9) (U (Foot d v9) (RB q m (.slice am nm cm)))) W p d vl9 j9) => jrecs_any 84 _ p d vl9 j9 W hW hx9.2 hx9.1
            have hlen := fun W (hW : JnlAt 84 (U (Foot p vl9) (U (Foot d v9) (RB q m (.slice am nm cm)))) W p d vl9 j9) => jlen_any 84 _ p d vl9 j9 W hW
            have hse := fun W a c => same_eq No No (.slice a j9.l.length c) (.slice am nm cm) j9.l W
            unfold PRecs at hrec
            rw [← hmn] at hrec hlen hse
            have hj9 := hwj9.1.1.2
            have HX := hid (show _ ∧ _ from ⟨hslm, hj9⟩)
            have Hrec := hid hrec
            have Hlen := hid hlen
            have Hse := hid hse
            clear hrec hlen hse hslm hj9 hmn hx9
            go_wp2_with fail
            go_region_held3 (fun wy => wy.cell? ⟨m, 1, none⟩ = some (.slice am nm cm))
              (first | exact hcm1 | exact drew_of hcm1 | exact kept_of (by assumption) hcm1 | exact drewN_of (kept_of (by assumption) hcm1) | exact drew_of (kept_of (by assumption) hcm1) | exact drew_of (drewN_of (kept_of (by assumption) hcm1)))
              (first
                | (go_at_call 35; refine (Hrec.out _ (by exact HX.out.2)).mono ?_; rintro e w6 ⟨a6, c6, rfl, hsl6, hk6⟩; replace hk6 : Keeps No w5 w6 := ((Keeps.refl No w5).drew).then_ hk6; have hs6 := hsl6.mono (M' := No) (fun _ _ hk => hk.elim); have hm6 := HX.out.1.keep hk6 (fun _ _ hk => hk.elim); have hj6 := HX.out.2.keep hk6 (fun _ _ hk => hk) (fun _ _ hk => hk.elim) (fun _ _ hk => hk))
                | (go_at_call 34; refine (Hse.out _ _ _ (by exact hs6) (by exact hm6)).mono ?_; rintro e w7 ⟨rfl, d7, rfl⟩)
                | (go_at_call 36; refine (Hlen.out _ (by exact hj6)).mono ?_; rintro e w8 ⟨rfl, rfl⟩))
            go_wp2_with fail
            go_roundw
            case rel => exact ⟨k + 1, s9, j9, v9, p, vl9, m, .slice am nm cm, by omega, by go_num, rfl, rfl, hwj9.keepNo (by first | exact hk6.drewN _ | exact (hk6.drewN _).drew | exact hk6.drew.drewN _), hbd9⟩
            case measure => simp [intOf]; omega
        · have e1 : (y.kind == 1) = false := by rw [beq_eq_false_iff_ne]; exact hk1
          clear hk1
          by_cases hk2 : y.kind = 2
          · have e2 : (y.kind == 2) = true := by rw [hk2]; rfl
            clear hk2
            go_wp2_with fail
            generalize (wr.alloc _) = wx at *
            clear hd0 hd1 hd2 hd3
            obtain ⟨-, hc1, hc2, -⟩ := hwx.cells
            refine (wx_disk hwx fun v hd => darm_any d v s y.n y.keep _ hd HH.out.2.2.2.1).mono ?_
            rintro e w4 ⟨rfl, hwx4⟩
            clear hc1 hc2 hwx
            have hm0 := hwx4.mptr
            obtain ⟨-, hg1, hg2, -⟩ := hwx4.cells
            have p31 : ∀ wy, WX w d p q m wr.heap.size y (.slice a2 n2 c2) (Wn.dArm s y.n y.keep) j s j wy →
                Calls Try.prog 31 #[.pointer (some ⟨q, 0, none⟩), .int .i64 y.n, .int .i64 y.keep] wy (QW w d p q m wr.heap.size y (.slice a2 n2 c2) (.tuple #[]) (Wn.dArm s y.n y.keep) j (Wn.dArm s y.n y.keep) j) :=
              fun wy hl => wx_rdisk hl fun M hr => rarm_any q M s y.n y.keep _ hr HH.out.2.2.2.1
            go_wp2_with fail
            go_region_held3 (fun wy => wy.cell? ⟨m, 0, none⟩ = some (.pointer (some ⟨q, 0, none⟩)) ∧ wy.cell? ⟨wr.heap.size, 1, none⟩ = some (.int .i64 y.n) ∧ wy.cell? ⟨wr.heap.size, 2, none⟩ = some (.int .i64 y.keep))
              (first | exact ⟨hm0, hg1, hg2⟩ | exact ⟨WX.mptr (by assumption), (WX.cells (by assumption)).2.1, (WX.cells (by assumption)).2.2.1⟩)
              (first
                | (go_at_call 31; refine (p31 _ (WX.drew (by assumption))).mono ?_; rintro e w5 ⟨rfl, hwx5⟩)
                | (go_at_call 31; refine (p31 _ (by assumption)).mono ?_; rintro e w5 ⟨rfl, hwx5⟩))
            clear p31 hm0 hg1 hg2 hwx4
            obtain ⟨v9, vl9, vm9, hwj9, -⟩ := hwx5
            have hbd9 : Bd (k + 1) (j) := HH.out.1.more
            generalize hst9 : (Wn.dArm s y.n y.keep) = s9 at *
            generalize hjt9 : (j) = j9 at *
            have hx9 : j9.l.length ≤ 1048576 ∧ ∀ x ∈ j9.l, x.length ≤ 16777216 := ⟨by have := hbd9.2; omega, fun x hx => by have := hbd9.1 x hx; omega⟩
            clear hst9 hjt9
            obtain ⟨am, nm, cm, usm, rfl, hmn, hmnc, hmcm, -, -, -, hcm1, -, -, -, -⟩ := hwj9.2.1.2.facts
            have hslm := hwj9.2.1.2.sl
            have hrec := fun W (hW : JnlAt 84 (U (Foot p vl9) (U (Foot d v9) (RB q m (.slice am nm cm)))) W p d vl9 j9) => jrecs_any 84 _ p d vl9 j9 W hW hx9.2 hx9.1
            have hlen := fun W (hW : JnlAt 84 (U (Foot p vl9) (U (Foot d v9) (RB q m (.slice am nm cm)))) W p d vl9 j9) => jlen_any 84 _ p d vl9 j9 W hW
            have hse := fun W a c => same_eq No No (.slice a j9.l.length c) (.slice am nm cm) j9.l W
            unfold PRecs at hrec
            rw [← hmn] at hrec hlen hse
            have hj9 := hwj9.1.1.2
            have HX := hid (show _ ∧ _ from ⟨hslm, hj9⟩)
            have Hrec := hid hrec
            have Hlen := hid hlen
            have Hse := hid hse
            clear hrec hlen hse hslm hj9 hmn hx9
            go_wp2_with fail
            go_region_held3 (fun wy => wy.cell? ⟨m, 1, none⟩ = some (.slice am nm cm))
              (first | exact hcm1 | exact drew_of hcm1 | exact kept_of (by assumption) hcm1 | exact drewN_of (kept_of (by assumption) hcm1) | exact drew_of (kept_of (by assumption) hcm1) | exact drew_of (drewN_of (kept_of (by assumption) hcm1)))
              (first
                | (go_at_call 35; refine (Hrec.out _ (by exact HX.out.2)).mono ?_; rintro e w6 ⟨a6, c6, rfl, hsl6, hk6⟩; replace hk6 : Keeps No w5 w6 := ((Keeps.refl No w5).drew).then_ hk6; have hs6 := hsl6.mono (M' := No) (fun _ _ hk => hk.elim); have hm6 := HX.out.1.keep hk6 (fun _ _ hk => hk.elim); have hj6 := HX.out.2.keep hk6 (fun _ _ hk => hk) (fun _ _ hk => hk.elim) (fun _ _ hk => hk))
                | (go_at_call 34; refine (Hse.out _ _ _ (by exact hs6) (by exact hm6)).mono ?_; rintro e w7 ⟨rfl, d7, rfl⟩)
                | (go_at_call 36; refine (Hlen.out _ (by exact hj6)).mono ?_; rintro e w8 ⟨rfl, rfl⟩))
            go_wp2_with fail
            go_roundw
            case rel => exact ⟨k + 1, s9, j9, v9, p, vl9, m, .slice am nm cm, by omega, by go_num, rfl, rfl, hwj9.keepNo (by first | exact hk6.drewN _ | exact (hk6.drewN _).drew | exact hk6.drew.drewN _), hbd9⟩
            case measure => simp [intOf]; omega
          · have e2 : (y.kind == 2) = false := by rw [beq_eq_false_iff_ne]; exact hk2
            clear hk2
            go_wp2_with fail
            generalize (wr.alloc _) = wx at *
            clear hd0 hd1 hd2 hd3
            refine (wx_disk hwx fun v hd => dup_any d v s _ hd).mono ?_
            rintro e w4 ⟨rfl, hwx4⟩
            have hm0 := hwx4.mptr
            clear hwx
            go_wp2_with fail
            refine (wx_rdisk hwx4 fun M hr => rup_any q M s _ hr).mono ?_
            rintro e w5 ⟨rfl, hwx5⟩
            clear hwx4 hm0
            have ho := wx_open hwx5 (Wn.dUp_down s)
            have Ho := hid ho
            clear ho
            go_wp2_with fail
            refine Ho.out.mono ?_
            rintro e w6 ⟨p6, rfl, hwx6⟩
            have hm0 := hwx6.mptr
            clear hwx5 Ho
            go_wp2_with fail
            refine (wx_ropen hwx6).mono ?_
            rintro e w7 ⟨m7, rfl, hwx7⟩
            clear hwx6 hm0
            obtain ⟨v9, vl9, vm9, hwj9, -⟩ := hwx7
            have hbd9 : Bd (k + 1) ((Wn.jOpen (Wn.dUp s)).1) := Bd.open_ (k + 1) (Wn.dUp_wf HH.out.2.2.2.2)
            generalize hst9 : ((Wn.jOpen (Wn.dUp s)).2) = s9 at *
            generalize hjt9 : ((Wn.jOpen (Wn.dUp s)).1) = j9 at *
            have hx9 : j9.l.length ≤ 1048576 ∧ ∀ x ∈ j9.l, x.length ≤ 16777216 := ⟨by have := hbd9.2; omega, fun x hx => by have := hbd9.1 x hx; omega⟩
            clear hst9 hjt9
            obtain ⟨am, nm, cm, usm, rfl, hmn, hmnc, hmcm, -, -, -, hcm1, -, -, -, -⟩ := hwj9.2.1.2.facts
            have hslm := hwj9.2.1.2.sl
            have hrec := fun W (hW : JnlAt 84 (U (Foot p6 vl9) (U (Foot d v9) (RB q m7 (.slice am nm cm)))) W p6 d vl9 j9) => jrecs_any 84 _ p6 d vl9 j9 W hW hx9.2 hx9.1
            have hlen := fun W (hW : JnlAt 84 (U (Foot p6 vl9) (U (Foot d v9) (RB q m7 (.slice am nm cm)))) W p6 d vl9 j9) => jlen_any 84 _ p6 d vl9 j9 W hW
            have hse := fun W a c => same_eq No No (.slice a j9.l.length c) (.slice am nm cm) j9.l W
            unfold PRecs at hrec
            rw [← hmn] at hrec hlen hse
            have hj9 := hwj9.1.1.2
            have HX := hid (show _ ∧ _ from ⟨hslm, hj9⟩)
            have Hrec := hid hrec
            have Hlen := hid hlen
            have Hse := hid hse
            clear hrec hlen hse hslm hj9 hmn hx9
            go_wp2_with fail
            go_region_held3 (fun wy => wy.cell? ⟨m7, 1, none⟩ = some (.slice am nm cm))
              (first | exact hcm1 | exact drew_of hcm1 | exact kept_of (by assumption) hcm1 | exact drewN_of (kept_of (by assumption) hcm1) | exact drew_of (kept_of (by assumption) hcm1) | exact drew_of (drewN_of (kept_of (by assumption) hcm1)))
              (first
                | (go_at_call 35; refine (Hrec.out _ (by exact HX.out.2)).mono ?_; rintro e w6 ⟨a6, c6, rfl, hsl6, hk6⟩; replace hk6 : Keeps No w7 w6 := ((Keeps.refl No w7).drew).then_ hk6; have hs6 := hsl6.mono (M' := No) (fun _ _ hk => hk.elim); have hm6 := HX.out.1.keep hk6 (fun _ _ hk => hk.elim); have hj6 := HX.out.2.keep hk6 (fun _ _ hk => hk) (fun _ _ hk => hk.elim) (fun _ _ hk => hk))
                | (go_at_call 34; refine (Hse.out _ _ _ (by exact hs6) (by exact hm6)).mono ?_; rintro e w7 ⟨rfl, d7, rfl⟩)
                | (go_at_call 36; refine (Hlen.out _ (by exact hj6)).mono ?_; rintro e w8 ⟨rfl, rfl⟩))
            go_wp2_with fail
            go_roundw
            case rel => exact ⟨k + 1, s9, j9, v9, p6, vl9, m7, .slice am nm cm, by omega, by go_num, rfl, rfl, hwj9.keepNo (by first | exact hk6.drewN _ | exact (hk6.drewN _).drew | exact hk6.drew.drewN _), hbd9⟩
            case measure => simp [intOf]; omega
      · have hK := hwj.1.2.2
        clear hwj hbd
        go_wp2_with fail
        go_ret
        exact ⟨rfl, hK⟩
end Go.Proofs.Ytkblcdjkabiliaa

