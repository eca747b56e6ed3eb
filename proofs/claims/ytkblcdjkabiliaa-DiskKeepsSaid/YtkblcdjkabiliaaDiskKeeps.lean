/- DiskKeeps: the law's walk. -/
import Derived.Test.YtkblcdjkabiliaaWX
import Derived.BigGuardPart
namespace Go.Proofs.Ytkblcdjkabiliaa
open Go.RowKit Wm

theorem drew_of {w : World} {a : Addr} {u : Value} (h : w.cell? a = some u) : w.drew.cell? a = some u := h
theorem drewN_of {w : World} {a : Addr} {u : Value} {n : Nat} (h : w.cell? a = some u) : (w.drewN n).cell? a = some u := h
theorem alloc_cell {w : World} {a : Addr} {u : Value} {o : Obj} (h : w.cell? a = some u) : (w.alloc o).cell? a = some u :=
  (((Keeps.refl No w).alloc o).cell (cell_lt h) fun hk => hk).trans h
theorem kept_of {w w' : World} {a : Addr} {u : Value} (hk : Keeps No w w') (h : w.cell? a = some u) : w'.cell? a = some u := (hk.cell (cell_lt h) fun hk => hk).trans h
set_option maxRecDepth 100000 in
set_option maxHeartbeats 4000000 in
theorem diskKeeps_any (v : Value) (l : List DoS) (w : World) (h : SD No w v l) :
    Calls Try.prog 9 #[v] w (PTrue w) := by
  obtain ⟨i0, hi, hz0, hz1, hz2⟩ := info_parts info5
  obtain ⟨a, n, c, rfl, hn, hnc, hcm⟩ := h.opened
  unfold maxLen at hcm
  have Hn := hid hn
  clear hn
  go_enter Try.func9, Try.ntmps9
  go_wp2_with fail
  refine (awake27_any _).mono ?_
  rintro e w1 ⟨rfl, hk1⟩
  have h1 := h.shift hk1 (M' := No) (fun _ _ hk => hk.elim) (fun _ _ hk => hk)
  go_wp2_with fail
  refine (long27_any No _ l _ h1).mono ?_
  rintro e w2 ⟨⟨r, rfl, hr⟩, hk2⟩
  have hK2 := hk1.then_ hk2
  have h2 := h1.shift hk2 (M' := No) (fun _ _ hk => hk.elim) (fun _ _ hk => hk)
  clear h1 hk1 hk2
  have Hr := hid hr
  clear hr
  cases r with
  | true =>
    go_wp2_with fail
    go_ret
    exact ⟨rfl, hK2⟩
  | false =>
    go_wp2_with fail
    refine (dnew_any 100000 _ (by omega)).mono ?_
    rintro e w3 ⟨p, rfl, hp, hd3, hk3⟩
    have hps := hd3.lt
    have hq1 : KX w p (.slice none 0 0) (Wn.dNew 100000) (.slice none 0 0) (.slice none 0 0) [] [] w3 := by
      have hs2 := hK2.size
      refine ⟨hd3, ?_, hK2.then_ hk3, SV.nil_ _ _ _ _ (Nat.zero_le _), SV.nil_ _ _ _ _ (Nat.zero_le _)⟩
      rintro k (rfl | hk)
      · omega
      · cases hk
    have hki := Wn.KI.new 100000
    have hr2 := Hr.out trivial
    have Hr2 := hid hr2
    clear hr2 hp hd3 hk3 hK2 h2 hps
    generalize Wn.dNew 100000 = s0 at *
    have Hq1 := hid hq1
    have Hki := hid hki
    clear hq1 hki
    go_wp2_with fail
    go_loopw [5, 6, 29] (fun va vs i wr => ∃ (k : Nat) (s : Wn.Dsk) (v : Value) (all sure : List UInt8), k ≤ n ∧ i = .int .i64 k ∧ KX w p v s va vs all sure wr ∧ Wn.KI s all sure) (fun _ _ i _ => n - (intOf i).toNat)
    case atStart => exact ⟨0, _, _, _, _, Nat.zero_le _, rfl, Hq1.out, Hki.out⟩
    case round =>
      obtain ⟨k, s, v, all, sure, hk, rfl, hkx, hki⟩ := hrel
      obtain ⟨aa, na, ca, az, ns, cs, rfl, rfl⟩ := hkx.opened
      by_cases hlt : k < n
      · have h' := h.shift hkx.2.2.1 (M' := Foot p v) (fun _ _ hk => hk.elim) (fun k hl hk => by have := hkx.2.1 k hk; omega)
        obtain ⟨b, off, rfl, _, hat⟩ := h'.at_ (by omega)
        have hkl : k < l.length := by have := Hn.out; omega
        have hy3 := Hr2.out.2 l[k] (List.getElem_mem hkl)
        have hok := h'.ok l[k] (List.getElem_mem hkl)
        obtain ⟨hd0, hd1, hd2, u, hd3, hub⟩ := hat k l[k] (List.getElem?_eq_getElem hkl)
        clear hat
        generalize l[k] = y at *
        obtain ⟨a2, n2, c2, rfl, hn2, hnc2, hcm2⟩ := hub.opened
        unfold maxLen at hcm2
        have hKD := KD.new hkx hub
        have hn3 : n2 ≤ 300 := by omega
        have Hn2 := hid hn2
        have Hok := hid hok
        have Hki := hid hki
        have hlens := hkx.lens
        have Hlens := hid hlens
        have hwf := hkx.1.wf
        have Hwf := hid hwf
        clear hn2 hok hy3 h' hub hki hlens hwf
        by_cases hk1 : y.kind = 1
        · have e1 : (y.kind == 1) = true := by rw [hk1]; rfl
          clear hk1
          go_wp2_with fail
          generalize (wr.alloc _) = wx at *
          obtain ⟨hc0, hc1, hc2, hc3⟩ := hKD.cells
          clear hkx hd0 hd1 hd2 hd3
          obtain ⟨v4, hkx4, hdx4⟩ := hKD
          have hdn := ddown_any p v4 s _ hkx4.1
          cases hsd : s.down with
          | true =>
            rw [hsd] at hdn
            have Hdn := hid hdn
            have hKD : KD w p wr.heap.size y (.slice a2 n2 c2) s (.slice aa na ca) (.slice az ns cs) all sure wx := ⟨v4, hkx4, hdx4⟩
            have hput := Hki.out.noput y.b (.inl hsd)
            have Hput := hid hput
            clear hdn hsd hput hkx4 hdx4
            go_wp2_with fail
            refine Hdn.out.mono ?_
            rintro e w4 ⟨rfl, rfl⟩
            go_wp2_with fail
            refine (kd_put hKD _ rfl).mono ?_
            rintro e w5 ⟨rfl, hkd5⟩
            generalize (Wn.dPut s y.b).1 = fv at *
            generalize (Wn.dPut s y.b).2 = s5 at *
            go_wp2_with fail
            go_roundw
            case rel => 
              obtain ⟨v5, h5⟩ := KX.of hkd5
              exact ⟨k + 1, s5, v5, all, sure, by omega, by go_num, h5, Hput.out⟩
            case measure => simp [intOf]; omega
          | false =>
            rw [hsd] at hdn
            have Hdn := hid hdn
            have hKD : KD w p wr.heap.size y (.slice a2 n2 c2) s (.slice aa na ca) (.slice az ns cs) all sure wx := ⟨v4, hkx4, hdx4⟩
            have hput1 := fun h => Hki.out.noput y.b (.inr h)
            have hput2 := fun h => Hki.out.put y.b hsd h
            have Hput1 := hid hput1
            have Hput2 := hid hput2
            clear hdn hsd hput1 hput2 hkx4 hdx4
            go_wp2_with fail
            refine Hdn.out.mono ?_
            rintro e w4 ⟨rfl, rfl⟩
            go_wp2_with fail
            refine (kd_put hKD _ rfl).mono ?_
            rintro e w5 ⟨rfl, hkd5⟩
            generalize (Wn.dPut s y.b).1 = fv at *
            generalize (Wn.dPut s y.b).2 = s5 at *
            by_cases hfv : fv = 40
            · have hput := Hput1.out hfv
              have Hput := hid hput
              subst hfv
              clear Hput1 Hput2 hput
              go_wp2_with fail
              go_roundw
              case rel =>
                obtain ⟨v5, h5⟩ := KX.of hkd5
                exact ⟨k + 1, s5, v5, all, sure, by omega, by go_num, h5, Hput.out⟩
              case measure => simp [intOf]; omega
            · have hput := Hput2.out hfv
              have Hput := hid hput
              have hf40 : ((fv : Int) == 40) = false := by rw [beq_eq_false_iff_ne]; omega
              clear hfv Hput1 Hput2 hput hKD hc0 hc1 hc2 hc3
              obtain ⟨-, -, -, hc3⟩ := hkd5.cells
              obtain ⟨v5, hkx5, hdx5⟩ := hkd5
              go_wp2_with fail
              have Wsz := hkx5.2.1
              have hlt5 := hkx5.1.lt
              have hva := hkx5.2.2.2.1
              have hna := (Hlens.out).1
              have hallm : all.length ≤ 1048576 := by
                have := Hki.out.1
                have h2 := Hwf.out
                unfold Wn.Dsk.wf at h2
                rw [← this]; omega
              have hy300 : y.b.length ≤ 300 := by have := Hn2.out; omega
              have hub5 := hdx5.2.1
              have lit := fun W : World => World.ownsRow_lit (base := W.heap.size) (e := 5) (size := 1) W #[] 0 (Nat.le_refl _) (Nat.zero_le _) rfl
              have HA := hid (show _ ∧ _ ∧ _ ∧ _ from ⟨hna, hallm, hy300, Wsz⟩)
              clear hna hallm hy300 Wsz
              go_region_held3 (fun wy => wy.cell? ⟨wr.heap.size, 3, none⟩ = some (.slice a2 n2 c2))
                (first | exact hc3 | exact alloc_cell hc3 | exact drew_of (alloc_cell hc3) | exact alloc_cell (drew_of hc3) | exact drew_of hc3 | exact kept_of (by assumption) hc3 | exact drew_of (kept_of (by assumption) hc3))
                (first
                  | (refine step_app _ (by rfl) (.tmp 87) (.tmp 88) _ (by rfl) w5.heap.size 5 i0 _ 1 Try.underlying24 hi hz0 hz1 hz2 (by rfl) _ 0 [] (by rfl) (by exact lit _) (Foot p v5) _ (all.map bv) (by rfl) (by exact SV.alloc hva _) (one_bv _) na (by rw [HA.out.1]; simp) (by unfold maxLen; have := HA.out.2.1; have := HA.out.1; omega) (by have := HA.out.2.1; have := HA.out.1; omega) (by simp) ?_; rintro a6 c6 w6 hown6 hg6 hb6; have hk6 : Keeps No w5 w6 := Keeps.app (by first | exact ((Keeps.refl No w5).drew).alloc _ | exact ((Keeps.refl No w5).alloc _).drew) (by exact lit _) (Nat.le_refl _) hg6)
                  | (refine step_app _ (by rfl) (.tmp 89) (.tmp 91) _ (by rfl) w5.heap.size 5 i0 _ 1 Try.underlying24 hi hz0 hz1 hz2 (by rfl) _ na (all.map bv) (by rfl) (by exact hown6) (Foot p v5) _ (y.b.map bv) (by rfl) (by exact SV.keep hub5 hk6 fun _ _ hk => hk.elim) (one_bv _) (na + n2) (by rw [Hn2.out]; simp) (by unfold maxLen; have := HA.out.2.1; have := HA.out.1; omega) (by have := HA.out.2.1; have := HA.out.1; omega) (by exact hk6.size) ?_; rintro a7 c7 w7 hown7 hg7 hb7; have hk7 : Keeps No w5 w7 := Keeps.app hk6 hown6 (Nat.le_refl _) hg7))
              have hkx7 := hkx5.keepNo hk7
              have hsb7 : SB (Foot p v5) w7 (.slice a7 (na + n2) c7) (all ++ y.b) := by
                unfold SB
                rw [List.map_append]
                exact SV.of_own hown7 fun g hg hf => by have := (hown7.lt g hg).1; have := hlt5 g hf; omega
              have hkx8 : KX w p v5 s5 (.slice a7 (na + n2) c7) (.slice az ns cs) (all ++ y.b) sure w7 := ⟨hkx7.1, hkx7.2.1, hkx7.2.2.1, hsb7, hkx7.2.2.2.2⟩
              clear hkx7 hsb7
              go_wp2_with fail
              go_roundw
              case rel => exact ⟨k + 1, s5, v5, all ++ y.b, sure, by omega, by go_num, hkx8, Hput.out⟩
              case measure => simp [intOf]; omega
        · have e1 : (y.kind == 1) = false := by rw [beq_eq_false_iff_ne]; exact hk1
          clear hk1
          by_cases hk2 : y.kind = 2
          · have e2 : (y.kind == 2) = true := by rw [hk2]; rfl
            clear hk2
            go_wp2_with fail
            generalize (wr.alloc _) = wx at *
            obtain ⟨hc0, hc1, hc2, hc3⟩ := hKD.cells
            clear hkx hd0 hd1 hd2 hd3
            refine (kd_disk hKD fun v hd => dflush_any p v s _ hd).mono ?_
            rintro e w4 ⟨rfl, hkd4⟩
            obtain ⟨v4, hkx4⟩ := KX.of hkd4
            have hfl1 := fun h => Hki.out.flush h
            have hfl2 := fun h => Hki.out.noflush h
            clear hkd4 hKD hc0 hc1 hc2 hc3
            generalize (Wn.dFlush s).1 = fv at *
            generalize (Wn.dFlush s).2 = s5 at *
            by_cases hfv : fv = 0
            · have hf1 := hfl1 hfv
              have Hf1 := hid hf1
              subst hfv
              clear hf1 hfl1 hfl2
              go_wp2_with fail
              go_roundw
              case rel => exact ⟨k + 1, s5, v4, all, all, by omega, by go_num, ⟨hkx4.1, hkx4.2.1, hkx4.2.2.1, hkx4.2.2.2.1, hkx4.2.2.2.1⟩, Hf1.out⟩
              case measure => simp [intOf]; omega
            · have hf1 := hfl2 hfv
              have Hf1 := hid hf1
              have hf0 : ((fv : Int) == 0) = false := by rw [beq_eq_false_iff_ne]; omega
              clear hf1 hfl1 hfl2 hfv
              go_wp2_with fail
              go_roundw
              case rel => exact ⟨k + 1, s5, v4, all, sure, by omega, by go_num, hkx4, Hf1.out⟩
              case measure => simp [intOf]; omega
          · have e2 : (y.kind == 2) = false := by rw [beq_eq_false_iff_ne]; exact hk2
            clear hk2
            have hNb : y.n ≤ 9223372036854775807 := Hok.out.2.1.2
            have Hnb := hid hNb
            clear hNb
            by_cases hk3 : y.kind = 3
            · have e3 : (y.kind == 3) = true := by rw [hk3]; rfl
              clear hk3
              go_wp2_with fail
              generalize (wr.alloc _) = wx at *
              obtain ⟨hc0, hc1, hc2, hc3⟩ := hKD.cells
              clear hkx hd0 hd1 hd2 hd3
              refine (kd_disk hKD fun v hd => darm_any p v s y.n y.keep _ hd Hnb.out).mono ?_
              rintro e w4 ⟨rfl, hkd4⟩
              obtain ⟨v4, hkx4⟩ := KX.of hkd4
              have hf1 := Hki.out.arm y.n y.keep
              have Hf1 := hid hf1
              clear hkd4 hKD hc0 hc1 hc2 hc3 hf1
              generalize (Wn.dArm s y.n y.keep) = s5 at *
              go_wp2_with fail
              go_roundw
              case rel => exact ⟨k + 1, s5, v4, all, sure, by omega, by go_num, hkx4, Hf1.out⟩
              case measure => simp [intOf]; omega
            · have e3 : (y.kind == 3) = false := by rw [beq_eq_false_iff_ne]; exact hk3
              clear hk3
              by_cases hk4 : y.kind = 4
              · have e4 : (y.kind == 4) = true := by rw [hk4]; rfl
                clear hk4
                go_wp2_with fail
                generalize (wr.alloc _) = wx at *
                obtain ⟨hc0, hc1, hc2, hc3⟩ := hKD.cells
                clear hkx hd0 hd1 hd2 hd3
                refine (kd_disk hKD fun v hd => darm_any p v s y.n y.keep _ hd Hnb.out).mono ?_
                rintro e w4 ⟨rfl, hkd4⟩
                obtain ⟨v4, hkx4⟩ := KX.of hkd4
                have hf1 := Hki.out.arm y.n y.keep
                have Hf1 := hid hf1
                clear hkd4 hKD hc0 hc1 hc2 hc3 hf1
                generalize (Wn.dArm s y.n y.keep) = s5 at *
                go_wp2_with fail
                go_roundw
                case rel => exact ⟨k + 1, s5, v4, all, sure, by omega, by go_num, hkx4, Hf1.out⟩
                case measure => simp [intOf]; omega
              · have e4 : (y.kind == 4) = false := by rw [beq_eq_false_iff_ne]; exact hk4
                clear hk4
                go_wp2_with fail
                generalize (wr.alloc _) = wx at *
                obtain ⟨hc0, hc1, hc2, hc3⟩ := hKD.cells
                clear hkx hd0 hd1 hd2 hd3
                refine (kd_disk hKD fun v hd => dup_any p v s _ hd).mono ?_
                rintro e w4 ⟨rfl, hkd4⟩
                obtain ⟨v4, hkx4⟩ := KX.of hkd4
                have hup := Hki.out.up Hwf.out
                have hdn := Wn.dUp_down s
                clear hkd4 hKD hc0 hc1 hc2 hc3
                generalize (Wn.dUp s) = s5 at *
                have Hup := hid hup
                have Hdn := hid hdn
                clear hup hdn
                go_wp2_with fail
                refine (dbytes_any p v4 s5 _ hkx4.1).mono ?_
                rintro e w6 (⟨hdn, -⟩ | ⟨-, a6, r6, c6, rfl, hown6, hk6⟩)
                · rw [Hdn.out] at hdn; cases hdn
                have hlt4 := hkx4.1.lt
                have hkx6 := hkx4.keepNo hk6
                have hb6 : SB (Foot p v4) w6 (.slice a6 r6 c6) s5.b := SV.of_own hown6 fun g hg hf => by have := (hown6.lt g hg).1; have := hlt4 g hf; omega
                have hr6 := hb6.len
                have hcap6 := hb6.cap
                have hlen := hkx6.lens
                obtain ⟨hu1, hu2, hu3, hu4, hu5⟩ := Hup.out
                unfold maxLen at hcap6 hlen
                obtain ⟨l1, l2, l3, l4, l5, l6⟩ := hlen
                have f1 : ns ≤ r6 := by omega
                have f2 : r6 ≤ na := by omega
                have f3 := hcap6.1
                have f4 := hcap6.2
                have hta : SB (Foot p v4) w6 (.slice aa r6 ca) s5.b := by
                  have := SV.take hkx6.2.2.2.1 (k := r6) f2
                  rw [← List.map_take, hr6, ← hu3] at this
                  rw [hr6]; exact this
                have hnew : KX w p v4 s5 (.slice a6 r6 c6) (.slice az ns cs) s5.b sure w6 := ⟨hkx6.1, hkx6.2.1, hkx6.2.2.1, hb6, hkx6.2.2.2.2⟩
                have hnew2 : KX w p v4 s5 (.slice a6 r6 c6) (.slice a6 r6 c6) s5.b s5.b w6 := ⟨hkx6.1, hkx6.2.1, hkx6.2.2.1, hb6, hb6⟩
                have hpe := fun m => dpend_any p v4 s5 (w6.drewN m) hkx6.1
                have Hu4 := hid hu4
                have Hu5 := hid hu5
                have Hpe := hid hpe
                clear hu1 hu2 hu3 hu4 hu5 l1 l4 hr6 hcap6 hpe hown6 hkx4 hkx6 hlt4
                go_wp2_with fail
                refine (bytes_any _ _ _ _ _ _ _ hb6 hta).mono ?_
                rintro e w7 ⟨rfl, d7, rfl⟩
                rw [eqB_self]
                go_wp2_with fail
                refine (Hpe.out _).mono ?_
                rintro e w8 ⟨rfl, d8, rfl⟩
                by_cases hz : s5.b.length - s5.sure = 0
                · have hz2 := Hu5.out hz
                  rw [hz]
                  have Hz2 := hid hz2
                  clear hz hz2
                  go_wp2_with fail
                  go_roundw
                  case rel => exact ⟨k + 1, s5, v4, s5.b, s5.b, by omega, by go_num, hnew2.keepNo ((Keeps.refl No _).drewN (d7 + d8)), Hz2.out⟩
                  case measure => simp [intOf]; omega
                · have hz0 : (((s5.b.length - s5.sure : Nat) : Int) == 0) = false := by rw [beq_eq_false_iff_ne]; omega
                  clear hz
                  generalize (((s5.b.length - s5.sure : Nat) : Int)) = zz at *
                  go_wp2_with fail
                  go_roundw
                  case rel => exact ⟨k + 1, s5, v4, s5.b, sure, by omega, by go_num, hnew.keepNo ((Keeps.refl No _).drewN (d7 + d8)), Hu4.out⟩
                  case measure => simp [intOf]; omega
      · have hK := hkx.2.2.1
        have cc : ∀ (C : Array Value) (i : Nat), (wr.alloc (.cells C 71)).cell? ⟨wr.heap.size, i, none⟩ = C[i]? := fun C i => cell_new wr C 71 (0, 0) i
        clear hkx hki
        go_wp2_with fail
        refine (up_nil _).mono ?_
        rintro e w4 ⟨rfl, rfl⟩
        go_wp2_with fail
        refine (arm_plain _ _ _ _ (by rw [cc]; rfl)).mono ?_
        rintro e w4 ⟨rfl, rfl⟩
        go_wp2_with fail
        refine (bytes_nil _).mono ?_
        rintro e w4 ⟨rfl, rfl⟩
        go_wp2_with fail
        refine (put_nil _ _).mono ?_
        rintro e w4 ⟨rfl, rfl⟩
        go_wp2_with fail
        refine (flush_plain _ _ (alloc_cell (by rw [cc]; rfl))).mono ?_
        rintro e w4 ⟨rfl, rfl⟩
        go_wp2_with fail
        refine (cut_plain _ _ _ (alloc_cell (by rw [cc]; rfl))).mono ?_
        rintro e w4 ⟨rfl, rfl⟩
        go_wp2_with fail
        refine (len_nil _).mono ?_
        rintro e w4 ⟨rfl, rfl⟩
        go_wp2_with fail
        refine (pend_plain _ _ (alloc_cell (by rw [cc]; rfl)) (alloc_cell (by rw [cc]; rfl))).mono ?_
        rintro e w4 ⟨rfl, m4, rfl⟩
        go_wp2_with fail
        refine (down_nil _).mono ?_
        rintro e w4 ⟨rfl, rfl⟩
        go_wp2_with fail
        refine (down_plain _ _ (drewN_of (alloc_cell (by rw [cc]; rfl)))).mono ?_
        rintro e w4 ⟨rfl, rfl⟩
        go_wp2_with fail
        go_ret
        exact ⟨rfl, ((hK.alloc _).alloc _).drewN m4⟩
end Go.Proofs.Ytkblcdjkabiliaa
