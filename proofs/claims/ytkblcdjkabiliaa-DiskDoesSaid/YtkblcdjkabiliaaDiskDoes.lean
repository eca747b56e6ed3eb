/- DiskDoes: the law's walk. -/
import Derived.Test.YtkblcdjkabiliaaWU
import Derived.BigGuardPart
namespace Go.Proofs.Ytkblcdjkabiliaa
open Go.RowKit Wm

set_option maxRecDepth 100000 in
set_option maxHeartbeats 4000000 in
theorem diskDoes_any (size : Int) (v : Value) (l : List DoS) (w : World) (h : SD No w v l) :
    Calls Try.prog 8 #[.int .i64 size, v] w (PTrue w) := by
  obtain ⟨a, n, c, rfl, hn, hnc, hcm⟩ := h.opened
  unfold maxLen at hcm
  have Hn := hid hn
  clear hn
  go_enter Try.func8, Try.ntmps8
  go_wp2_with fail
  refine (awake27_any _).mono ?_
  rintro e w1 ⟨rfl, hk1⟩
  have h1 := h.shift hk1 (M' := No) (fun _ _ hk => hk.elim) (fun _ _ hk => hk)
  go_wp2_with fail
  refine (long27_any No _ l _ h1).mono ?_
  rintro e w2 ⟨⟨r, rfl, hr⟩, hk2⟩
  have hK2 := hk1.then_ hk2
  have h2 := h1.shift hk2 (M' := No) (fun _ _ hk => hk.elim) (fun _ _ hk => hk)
  clear h1 hk1 hk2
  have Hr := hid hr
  clear hr
  cases r with
  | true =>
    go_wp2_with fail
    go_ret
    exact ⟨rfl, hK2⟩
  | false =>
    go_wp2_with fail
    by_cases hbad : size < 0 ∨ 1048576 < size
    · refine (dnew_bad size _ hbad).mono ?_
      rintro e w3 ⟨rfl, rfl⟩
      rcases hbad with hbad | hbad
      · go_wp2_with fail
        go_ret
        exact ⟨rfl, hK2⟩
      · go_wp2_with fail
        go_ret
        exact ⟨rfl, hK2⟩
    · obtain ⟨sz, rfl⟩ := Int.eq_ofNat_of_zero_le (a := size) (by omega)
      have hsz : sz ≤ 1048576 := by omega
      clear hbad
      refine (dnew_any sz _ hsz).mono ?_
      rintro e w3 ⟨p, rfl, hp, hd3, hk3⟩
      have hq1 : DB w p w3.heap.size (.slice none 0 0) (Wn.dNew sz) (Wn.dNew sz) (w3.alloc (.cells #[.slice none 0 0, .int .i64 (sz : Int), .int .i64 0, .bool false, .bool false, .int .i64 0, .int .i64 0] 50)) := by
        have hps := hd3.lt
        have hs3 := hk3.size
        have hs2 := hK2.size
        refine ⟨hd3.keep ((Keeps.refl No _).alloc _) fun _ _ hk => hk, ⟨none, 0, 0, heap_alloc_new w3 _, SV.nil_ _ _ _ _ (Nat.zero_le _), .inl rfl, by simp [Wn.dNew], Wn.dNew_wf hsz⟩, ?_, by omega, fun hk => ?_, (hK2.then_ hk3).alloc _⟩
        · rintro k (rfl | hk)
          · omega
          · cases hk
        · have := hps _ hk; omega
      have hr2 := Hr.out trivial
      have Hr2 := hid hr2
      clear hr2 hp hd3 hk3 hK2 h2
      generalize Wn.dNew sz = s0 at *
      have Hq1 := hid hq1
      clear hq1
      go_wp2_with fail
      go_loopw [42] (fun i wr => ∃ (k : Nat) (s : Wn.Dsk) (v : Value), k ≤ n ∧ i = .int .i64 k ∧ DB w p w3.heap.size v s s wr) (fun i _ => n - (intOf i).toNat)
      case atStart => exact ⟨0, _, _, Nat.zero_le _, rfl, Hq1.out⟩
      case round =>
        obtain ⟨k, s, v, hk, rfl, hdb⟩ := hrel
        by_cases hlt : k < n
        · have h' := h.shift hdb.2.2.2.2.2 (M' := Both p w3.heap.size v) (fun _ _ hk => hk.elim) (fun k hl hk => by have := (hdb.both k hk).1; omega)
          obtain ⟨b, off, rfl, _, hat⟩ := h'.at_ (by omega)
          have hkl : k < l.length := by have := Hn.out; omega
          have hy3 := Hr2.out.2 l[k] (List.getElem_mem hkl)
          have hok := h'.ok l[k] (List.getElem_mem hkl)
          obtain ⟨hd0, hd1, hd2, u, hd3, hub⟩ := hat k l[k] (List.getElem?_eq_getElem hkl)
          clear hat
          generalize l[k] = y at *
          obtain ⟨a2, n2, c2, rfl, hn2, hnc2, hcm2⟩ := hub.opened
          unfold maxLen at hcm2
          have hLX := LX.new hdb hub
          have hn3 : n2 ≤ 300 := by omega
          have Hn2 := hid hn2
          have Hok := hid hok
          clear hn2 hok hy3 h' hub
          by_cases hk1 : y.kind = 1
          · have e1 : (y.kind == 1) = true := by rw [hk1]; rfl
            clear hk1
            go_wp2_with fail
            have hm : ((n2 : Int) / 2) = ((n2 / 2 : Nat) : Int) := by omega
            have hmn : n2 / 2 ≤ n2 := by omega
            rw [hm]
            clear hm
            generalize n2 / 2 = m at *
            generalize (wr.alloc _) = wx at *
            obtain ⟨-, -, -, hc3⟩ := hLX.cells
            clear hdb hd0 hd1 hd2 hd3
            have hsl1 := fun wx => slice_front (a := a2) (n := n2) (c := c2) (m := m) hmn hnc2 wx
            have hsl2 := fun wx => slice_back (a := a2) (n := n2) (c := c2) (m := m) hmn wx
            have hyb : y.b.length ≤ 16777216 := by have := Hn2.out; omega
            have hfl : ([y.b.take m, y.b.drop m] : List (List UInt8)).flatten = y.b := by simp
            have p40 : ∀ (s1 s2 : Wn.Dsk) (pv : Value) (wy : World), LXL w p w3.heap.size wr.heap.size y (.slice a2 n2 c2) s1 s2 pv [y.b.take m, y.b.drop m] wy →
                Calls Try.prog 40 #[.pointer (some ⟨p, 0, none⟩), pv] wy (QX w p w3.heap.size wr.heap.size y (.slice a2 n2 c2) (.int .i64 ((Wn.dPut s1 y.b).1 : Int)) (Wn.dPut s1 y.b).2 s2) := by
              intro s1 s2 pv wy hl
              have := lxl_put hl
              rwa [hfl] at this
            have p41 : ∀ (s1 s2 : Wn.Dsk) (wy : World), LX w p w3.heap.size wr.heap.size y (.slice a2 n2 c2) s1 s2 wy →
                Calls Try.prog 41 #[.pointer (some ⟨w3.heap.size, 0, none⟩), .slice a2 n2 c2] wy (QX w p w3.heap.size wr.heap.size y (.slice a2 n2 c2) (.int .i64 ((Wn.dPut s2 y.b).1 : Int)) s1 (Wn.dPut s2 y.b).2) :=
              fun s1 s2 wy hl => lx_ref hl fun M hr hM hb => rput_any _ M M s2 _ y.b _ hr hb hyb hM
            have p41l : ∀ (s1 s2 : Wn.Dsk) (pv : Value) (wy : World), LXL w p w3.heap.size wr.heap.size y (.slice a2 n2 c2) s1 s2 pv [y.b.take m, y.b.drop m] wy →
                Calls Try.prog 41 #[.pointer (some ⟨w3.heap.size, 0, none⟩), .slice a2 n2 c2] wy (QXL w p w3.heap.size wr.heap.size y (.slice a2 n2 c2) (.int .i64 ((Wn.dPut s2 y.b).1 : Int)) s1 (Wn.dPut s2 y.b).2 pv [y.b.take m, y.b.drop m]) :=
              fun s1 s2 pv wy hl => lxl_ref hl fun M hr hM hb => rput_any _ M M s2 _ y.b _ hr hb hyb hM
            have part : ∀ (s1 s2 : Wn.Dsk) (wy : World), LX w p w3.heap.size wr.heap.size y (.slice a2 n2 c2) s1 s2 wy →
                LXL w p w3.heap.size wr.heap.size y (.slice a2 n2 c2) s1 s2 (.slice (some ⟨wy.heap.size, 0, none⟩) 2 2) [y.b.take m, y.b.drop m] (wy.alloc (.cells #[.slice a2 m c2, .slice (backAddr a2 c2 m) (n2 - m) (c2 - m)] 24)) :=
              fun s1 s2 wy hl => hl.parts hmn rfl (backAddr_at hnc2)
            have p0 := hLX
            clear hfl
            go_region_held3 (fun wy => wy.cell? ⟨wr.heap.size, 3, none⟩ = some (.slice a2 n2 c2))
              (first | exact hc3 | exact alloc_cell hc3 | exact (LX.c3 (by assumption)) | exact alloc_cell (LX.c3 (by assumption)) | exact (LXL.c3 (by assumption)) | exact LX.c3 (LX.drew (by assumption)) | exact alloc_cell (LX.c3 (LX.drew (by assumption))) | exact LXL.c3 (LXL.drew (by assumption)))
              (first
                | (go_at_call 40; refine (p40 _ _ _ _ (LXL.drew (part _ _ _ (by assumption)))).mono ?_; rintro e w5 ⟨rfl, hlx5⟩)
                | (go_at_call 40; refine (p40 _ _ _ _ (part _ _ _ (by assumption))).mono ?_; rintro e w5 ⟨rfl, hlx5⟩)
                | (go_at_call 40; refine (p40 _ _ _ _ (LXL.drew (by assumption))).mono ?_; rintro e w5 ⟨rfl, hlx5⟩)
                | (go_at_call 40; refine (p40 _ _ _ _ (by assumption)).mono ?_; rintro e w5 ⟨rfl, hlx5⟩)
                | (go_at_call 41; refine (p41l _ _ _ _ (LXL.drew (part _ _ _ (by assumption)))).mono ?_; rintro e w5 ⟨rfl, hlx5⟩)
                | (go_at_call 41; refine (p41l _ _ _ _ (part _ _ _ (by assumption))).mono ?_; rintro e w5 ⟨rfl, hlx5⟩)
                | (go_at_call 41; refine (p41 _ _ _ (LX.drew (by assumption))).mono ?_; rintro e w5 ⟨rfl, hlx5⟩)
                | (go_at_call 41; refine (p41 _ _ _ (by assumption)).mono ?_; rintro e w5 ⟨rfl, hlx5⟩))
            as_aux_lemma =>
              obtain ⟨v5, hdb5, -⟩ := hlx5
              generalize ((Wn.dPut s y.b).2) = s5 at *
              have hby := dbytes_any p v5 s5 _ hdb5.1
              have Hby := hid hby
              clear hby p40 p41 p41l part
              go_wp2_with fail
              refine Hby.out.mono ?_
              rintro e w6 (⟨hdn, rfl, rfl⟩ | ⟨hup, a6, r6, c6, rfl, hown6, hk6⟩)
              · obtain ⟨ra, rn, rc, hrn, hrnc, hrcm, hq, hqf, hq0, hq1, hq2, hq3, hq4, hq5, hq6, hqb, hMq, hops, hw1, hw2, hw3, hh⟩ := hdb5.2.1.facts
                have a37 := ask_down hdb5.1
                have a47 := ask_len hdb5.1
                have a48 := ask_pend hdb5.1
                rw [hdn] at hq4 a37
                rw [hrn] at hq0
                have hpe : (s5.b.length : Int) - (s5.sure : Int) = ((s5.b.length - s5.sure : Nat) : Int) := by omega
                have hbl : s5.b.length ≤ 1048576 := by omega
                clear hh hqb hMq hops hw1 hw2 hw3 hrn hq1 hq3 hq5 hq6 hqf
                go_wp2_with fail
                go_quiet ((first | (go_at_call 37; exact a37 _) | (go_at_call 47; exact a47 _) | (go_at_call 48; exact a48 _)))
                go_wp2_with fail
                go_roundw
                case rel => exact ⟨k + 1, s5, v5, by omega, by go_num, hdb5.keep ((Keeps.refl No _).drewN _)⟩
                case measure => simp [intOf]; omega
              · have hdb6 := hdb5.keep hk6
                have hb6 := SV.of_own (M := No) hown6 (fun _ _ hk => hk)
                obtain ⟨ra, rn, rc, hrn, hrnc, hrcm, hq, hqf, hq0, hq1, hq2, hq3, hq4, hq5, hq6, hqb, hMq, hops, hw1, hw2, hw3, hh⟩ := hdb6.2.1.facts
                have a18 := ask_eq hb6 hqb
                have a37 := ask_down hdb6.1
                have a47 := ask_len hdb6.1
                have a48 := ask_pend hdb6.1
                rw [hup] at hq4 a37
                rw [hrn] at hq0 a18
                have hpe : (s5.b.length : Int) - (s5.sure : Int) = ((s5.b.length - s5.sure : Nat) : Int) := by omega
                have hbl : s5.b.length ≤ 1048576 := by omega
                clear hh hqb hMq hops hw1 hw2 hw3 hrn hq1 hq3 hq5 hq6 hqf hb6 hown6 hdb5
                go_wp2_with fail
                go_quiet ((first | (go_at_call 37; exact a37 _) | (go_at_call 47; exact a47 _) | (go_at_call 48; exact a48 _) | (go_at_call 18; exact a18 _)))
                go_wp2_with fail
                go_roundw
                case rel => exact ⟨k + 1, s5, v5, by omega, by go_num, hdb6.keep ((Keeps.refl No _).drewN _)⟩
                case measure => simp [intOf]; omega
          · have e1 : (y.kind == 1) = false := by rw [beq_eq_false_iff_ne]; exact hk1
            clear hk1
            by_cases hk2 : y.kind = 2
            · have e2 : (y.kind == 2) = true := by rw [hk2]; rfl
              clear hk2
              go_wp2_with fail
              generalize (wr.alloc _) = wx at *
              obtain ⟨hc0, hc1, hc2, hc3⟩ := hLX.cells
              clear hdb hd0 hd1 hd2 hd3
              refine (lx_disk hLX fun v hd => dflush_any p v s _ hd).mono ?_
              rintro e w4 ⟨rfl, hlx4⟩
              go_wp2_with fail
              refine (lx_ref hlx4 fun M hr _ _ => rflush_any _ M s _ hr).mono ?_
              rintro e w5 ⟨rfl, hlx5⟩
              clear hlx4
              as_aux_lemma =>
                obtain ⟨v5, hdb5, -⟩ := hlx5
                generalize ((Wn.dFlush s).2) = s5 at *
                have hby := dbytes_any p v5 s5 _ hdb5.1
                have Hby := hid hby
                clear hby 
                go_wp2_with fail
                refine Hby.out.mono ?_
                rintro e w6 (⟨hdn, rfl, rfl⟩ | ⟨hup, a6, r6, c6, rfl, hown6, hk6⟩)
                · obtain ⟨ra, rn, rc, hrn, hrnc, hrcm, hq, hqf, hq0, hq1, hq2, hq3, hq4, hq5, hq6, hqb, hMq, hops, hw1, hw2, hw3, hh⟩ := hdb5.2.1.facts
                  have a37 := ask_down hdb5.1
                  have a47 := ask_len hdb5.1
                  have a48 := ask_pend hdb5.1
                  rw [hdn] at hq4 a37
                  rw [hrn] at hq0
                  have hpe : (s5.b.length : Int) - (s5.sure : Int) = ((s5.b.length - s5.sure : Nat) : Int) := by omega
                  have hbl : s5.b.length ≤ 1048576 := by omega
                  clear hh hqb hMq hops hw1 hw2 hw3 hrn hq1 hq3 hq5 hq6 hqf
                  go_wp2_with fail
                  go_quiet ((first | (go_at_call 37; exact a37 _) | (go_at_call 47; exact a47 _) | (go_at_call 48; exact a48 _)))
                  go_wp2_with fail
                  go_roundw
                  case rel => exact ⟨k + 1, s5, v5, by omega, by go_num, hdb5.keep ((Keeps.refl No _).drewN _)⟩
                  case measure => simp [intOf]; omega
                · have hdb6 := hdb5.keep hk6
                  have hb6 := SV.of_own (M := No) hown6 (fun _ _ hk => hk)
                  obtain ⟨ra, rn, rc, hrn, hrnc, hrcm, hq, hqf, hq0, hq1, hq2, hq3, hq4, hq5, hq6, hqb, hMq, hops, hw1, hw2, hw3, hh⟩ := hdb6.2.1.facts
                  have a18 := ask_eq hb6 hqb
                  have a37 := ask_down hdb6.1
                  have a47 := ask_len hdb6.1
                  have a48 := ask_pend hdb6.1
                  rw [hup] at hq4 a37
                  rw [hrn] at hq0 a18
                  have hpe : (s5.b.length : Int) - (s5.sure : Int) = ((s5.b.length - s5.sure : Nat) : Int) := by omega
                  have hbl : s5.b.length ≤ 1048576 := by omega
                  clear hh hqb hMq hops hw1 hw2 hw3 hrn hq1 hq3 hq5 hq6 hqf hb6 hown6 hdb5
                  go_wp2_with fail
                  go_quiet ((first | (go_at_call 37; exact a37 _) | (go_at_call 47; exact a47 _) | (go_at_call 48; exact a48 _) | (go_at_call 18; exact a18 _)))
                  go_wp2_with fail
                  go_roundw
                  case rel => exact ⟨k + 1, s5, v5, by omega, by go_num, hdb6.keep ((Keeps.refl No _).drewN _)⟩
                  case measure => simp [intOf]; omega
            · have e2 : (y.kind == 2) = false := by rw [beq_eq_false_iff_ne]; exact hk2
              clear hk2
              by_cases hk3 : y.kind = 3
              · have e3 : (y.kind == 3) = true := by rw [hk3]; rfl
                clear hk3
                go_wp2_with fail
                generalize (wr.alloc _) = wx at *
                obtain ⟨hc0, hc1, hc2, hc3⟩ := hLX.cells
                clear hdb hd0 hd1 hd2 hd3
                have p44 : ∀ (s1 s2 : Wn.Dsk) (wy : World), LX w p w3.heap.size wr.heap.size y (.slice a2 n2 c2) s1 s2 wy →
                    Calls Try.prog 44 #[.pointer (some ⟨p, 0, none⟩), .int .i64 y.n] wy (QX w p w3.heap.size wr.heap.size y (.slice a2 n2 c2) (.int .i64 ((Wn.dCut s1 y.n).1 : Int)) (Wn.dCut s1 y.n).2 s2) :=
                  fun s1 s2 wy hl => lx_disk hl fun v hd => dcut_any p v s1 y.n _ hd
                have p45 : ∀ (s1 s2 : Wn.Dsk) (wy : World), LX w p w3.heap.size wr.heap.size y (.slice a2 n2 c2) s1 s2 wy →
                    Calls Try.prog 45 #[.pointer (some ⟨w3.heap.size, 0, none⟩), .int .i64 y.n] wy (QX w p w3.heap.size wr.heap.size y (.slice a2 n2 c2) (.int .i64 ((Wn.dCut s2 y.n).1 : Int)) s1 (Wn.dCut s2 y.n).2) :=
                  fun s1 s2 wy hl => lx_ref hl fun M hr _ _ => rcut_any _ M s2 y.n _ hr
                have p0 := hLX
                go_region_held3 (fun wy => wy.cell? ⟨wr.heap.size, 1, none⟩ = some (.int .i64 y.n))
                  (first | exact hc1 | exact (LX.c1 (by assumption)) | exact LX.c1 (LX.drew (by assumption)))
                  (first
                    | (go_at_call 44; refine (p44 _ _ _ (LX.drew (by assumption))).mono ?_; rintro e w5 ⟨rfl, hlx5⟩)
                    | (go_at_call 44; refine (p44 _ _ _ (by assumption)).mono ?_; rintro e w5 ⟨rfl, hlx5⟩)
                    | (go_at_call 45; refine (p45 _ _ _ (LX.drew (by assumption))).mono ?_; rintro e w5 ⟨rfl, hlx5⟩)
                    | (go_at_call 45; refine (p45 _ _ _ (by assumption)).mono ?_; rintro e w5 ⟨rfl, hlx5⟩))
                as_aux_lemma =>
                  obtain ⟨v5, hdb5, -⟩ := hlx5
                  generalize ((Wn.dCut s y.n).2) = s5 at *
                  have hby := dbytes_any p v5 s5 _ hdb5.1
                  have Hby := hid hby
                  clear hby p44 p45
                  go_wp2_with fail
                  refine Hby.out.mono ?_
                  rintro e w6 (⟨hdn, rfl, rfl⟩ | ⟨hup, a6, r6, c6, rfl, hown6, hk6⟩)
                  · obtain ⟨ra, rn, rc, hrn, hrnc, hrcm, hq, hqf, hq0, hq1, hq2, hq3, hq4, hq5, hq6, hqb, hMq, hops, hw1, hw2, hw3, hh⟩ := hdb5.2.1.facts
                    have a37 := ask_down hdb5.1
                    have a47 := ask_len hdb5.1
                    have a48 := ask_pend hdb5.1
                    rw [hdn] at hq4 a37
                    rw [hrn] at hq0
                    have hpe : (s5.b.length : Int) - (s5.sure : Int) = ((s5.b.length - s5.sure : Nat) : Int) := by omega
                    have hbl : s5.b.length ≤ 1048576 := by omega
                    clear hh hqb hMq hops hw1 hw2 hw3 hrn hq1 hq3 hq5 hq6 hqf
                    go_wp2_with fail
                    go_quiet ((first | (go_at_call 37; exact a37 _) | (go_at_call 47; exact a47 _) | (go_at_call 48; exact a48 _)))
                    go_wp2_with fail
                    go_roundw
                    case rel => exact ⟨k + 1, s5, v5, by omega, by go_num, hdb5.keep ((Keeps.refl No _).drewN _)⟩
                    case measure => simp [intOf]; omega
                  · have hdb6 := hdb5.keep hk6
                    have hb6 := SV.of_own (M := No) hown6 (fun _ _ hk => hk)
                    obtain ⟨ra, rn, rc, hrn, hrnc, hrcm, hq, hqf, hq0, hq1, hq2, hq3, hq4, hq5, hq6, hqb, hMq, hops, hw1, hw2, hw3, hh⟩ := hdb6.2.1.facts
                    have a18 := ask_eq hb6 hqb
                    have a37 := ask_down hdb6.1
                    have a47 := ask_len hdb6.1
                    have a48 := ask_pend hdb6.1
                    rw [hup] at hq4 a37
                    rw [hrn] at hq0 a18
                    have hpe : (s5.b.length : Int) - (s5.sure : Int) = ((s5.b.length - s5.sure : Nat) : Int) := by omega
                    have hbl : s5.b.length ≤ 1048576 := by omega
                    clear hh hqb hMq hops hw1 hw2 hw3 hrn hq1 hq3 hq5 hq6 hqf hb6 hown6 hdb5
                    go_wp2_with fail
                    go_quiet ((first | (go_at_call 37; exact a37 _) | (go_at_call 47; exact a47 _) | (go_at_call 48; exact a48 _) | (go_at_call 18; exact a18 _)))
                    go_wp2_with fail
                    go_roundw
                    case rel => exact ⟨k + 1, s5, v5, by omega, by go_num, hdb6.keep ((Keeps.refl No _).drewN _)⟩
                    case measure => simp [intOf]; omega
              · have e3 : (y.kind == 3) = false := by rw [beq_eq_false_iff_ne]; exact hk3
                clear hk3
                by_cases hk4 : y.kind = 4
                · have e4 : (y.kind == 4) = true := by rw [hk4]; rfl
                  clear hk4
                  go_wp2_with fail
                  generalize (wr.alloc _) = wx at *
                  obtain ⟨hc0, hc1, hc2, hc3⟩ := hLX.cells
                  clear hdb hd0 hd1 hd2 hd3
                  have hNb : y.n ≤ 9223372036854775807 := Hok.out.2.1.2
                  refine (lx_disk hLX fun v hd => darm_any p v s y.n y.keep _ hd hNb).mono ?_
                  rintro e w4 ⟨rfl, hlx4⟩
                  obtain ⟨-, hg1, hg2, -⟩ := hlx4.cells
                  go_wp2_with fail
                  refine (lx_ref hlx4 fun M hr _ _ => rarm_any _ M s y.n y.keep _ hr hNb).mono ?_
                  rintro e w5 ⟨rfl, hlx5⟩
                  clear hlx4 hg1 hg2
                  as_aux_lemma =>
                    obtain ⟨v5, hdb5, -⟩ := hlx5
                    generalize (Wn.dArm s y.n y.keep) = s5 at *
                    have hby := dbytes_any p v5 s5 _ hdb5.1
                    have Hby := hid hby
                    clear hby 
                    go_wp2_with fail
                    refine Hby.out.mono ?_
                    rintro e w6 (⟨hdn, rfl, rfl⟩ | ⟨hup, a6, r6, c6, rfl, hown6, hk6⟩)
                    · obtain ⟨ra, rn, rc, hrn, hrnc, hrcm, hq, hqf, hq0, hq1, hq2, hq3, hq4, hq5, hq6, hqb, hMq, hops, hw1, hw2, hw3, hh⟩ := hdb5.2.1.facts
                      have a37 := ask_down hdb5.1
                      have a47 := ask_len hdb5.1
                      have a48 := ask_pend hdb5.1
                      rw [hdn] at hq4 a37
                      rw [hrn] at hq0
                      have hpe : (s5.b.length : Int) - (s5.sure : Int) = ((s5.b.length - s5.sure : Nat) : Int) := by omega
                      have hbl : s5.b.length ≤ 1048576 := by omega
                      clear hh hqb hMq hops hw1 hw2 hw3 hrn hq1 hq3 hq5 hq6 hqf
                      go_wp2_with fail
                      go_quiet ((first | (go_at_call 37; exact a37 _) | (go_at_call 47; exact a47 _) | (go_at_call 48; exact a48 _)))
                      go_wp2_with fail
                      go_roundw
                      case rel => exact ⟨k + 1, s5, v5, by omega, by go_num, hdb5.keep ((Keeps.refl No _).drewN _)⟩
                      case measure => simp [intOf]; omega
                    · have hdb6 := hdb5.keep hk6
                      have hb6 := SV.of_own (M := No) hown6 (fun _ _ hk => hk)
                      obtain ⟨ra, rn, rc, hrn, hrnc, hrcm, hq, hqf, hq0, hq1, hq2, hq3, hq4, hq5, hq6, hqb, hMq, hops, hw1, hw2, hw3, hh⟩ := hdb6.2.1.facts
                      have a18 := ask_eq hb6 hqb
                      have a37 := ask_down hdb6.1
                      have a47 := ask_len hdb6.1
                      have a48 := ask_pend hdb6.1
                      rw [hup] at hq4 a37
                      rw [hrn] at hq0 a18
                      have hpe : (s5.b.length : Int) - (s5.sure : Int) = ((s5.b.length - s5.sure : Nat) : Int) := by omega
                      have hbl : s5.b.length ≤ 1048576 := by omega
                      clear hh hqb hMq hops hw1 hw2 hw3 hrn hq1 hq3 hq5 hq6 hqf hb6 hown6 hdb5
                      go_wp2_with fail
                      go_quiet ((first | (go_at_call 37; exact a37 _) | (go_at_call 47; exact a47 _) | (go_at_call 48; exact a48 _) | (go_at_call 18; exact a18 _)))
                      go_wp2_with fail
                      go_roundw
                      case rel => exact ⟨k + 1, s5, v5, by omega, by go_num, hdb6.keep ((Keeps.refl No _).drewN _)⟩
                      case measure => simp [intOf]; omega
                · have e4 : (y.kind == 4) = false := by rw [beq_eq_false_iff_ne]; exact hk4
                  clear hk4
                  go_wp2_with fail
                  generalize (wr.alloc _) = wx at *
                  obtain ⟨hc0, hc1, hc2, hc3⟩ := hLX.cells
                  clear hdb hd0 hd1 hd2 hd3
                  refine (lx_disk hLX fun v hd => dup_any p v s _ hd).mono ?_
                  rintro e w4 ⟨rfl, hlx4⟩
                  go_wp2_with fail
                  refine (lx_ref hlx4 fun M hr _ _ => rup_any _ M s _ hr).mono ?_
                  rintro e w5 ⟨rfl, hlx5⟩
                  clear hlx4
                  as_aux_lemma =>
                    obtain ⟨v5, hdb5, -⟩ := hlx5
                    generalize (Wn.dUp s) = s5 at *
                    have hby := dbytes_any p v5 s5 _ hdb5.1
                    have Hby := hid hby
                    clear hby 
                    go_wp2_with fail
                    refine Hby.out.mono ?_
                    rintro e w6 (⟨hdn, rfl, rfl⟩ | ⟨hup, a6, r6, c6, rfl, hown6, hk6⟩)
                    · obtain ⟨ra, rn, rc, hrn, hrnc, hrcm, hq, hqf, hq0, hq1, hq2, hq3, hq4, hq5, hq6, hqb, hMq, hops, hw1, hw2, hw3, hh⟩ := hdb5.2.1.facts
                      have a37 := ask_down hdb5.1
                      have a47 := ask_len hdb5.1
                      have a48 := ask_pend hdb5.1
                      rw [hdn] at hq4 a37
                      rw [hrn] at hq0
                      have hpe : (s5.b.length : Int) - (s5.sure : Int) = ((s5.b.length - s5.sure : Nat) : Int) := by omega
                      have hbl : s5.b.length ≤ 1048576 := by omega
                      clear hh hqb hMq hops hw1 hw2 hw3 hrn hq1 hq3 hq5 hq6 hqf
                      go_wp2_with fail
                      go_quiet ((first | (go_at_call 37; exact a37 _) | (go_at_call 47; exact a47 _) | (go_at_call 48; exact a48 _)))
                      go_wp2_with fail
                      go_roundw
                      case rel => exact ⟨k + 1, s5, v5, by omega, by go_num, hdb5.keep ((Keeps.refl No _).drewN _)⟩
                      case measure => simp [intOf]; omega
                    · have hdb6 := hdb5.keep hk6
                      have hb6 := SV.of_own (M := No) hown6 (fun _ _ hk => hk)
                      obtain ⟨ra, rn, rc, hrn, hrnc, hrcm, hq, hqf, hq0, hq1, hq2, hq3, hq4, hq5, hq6, hqb, hMq, hops, hw1, hw2, hw3, hh⟩ := hdb6.2.1.facts
                      have a18 := ask_eq hb6 hqb
                      have a37 := ask_down hdb6.1
                      have a47 := ask_len hdb6.1
                      have a48 := ask_pend hdb6.1
                      rw [hup] at hq4 a37
                      rw [hrn] at hq0 a18
                      have hpe : (s5.b.length : Int) - (s5.sure : Int) = ((s5.b.length - s5.sure : Nat) : Int) := by omega
                      have hbl : s5.b.length ≤ 1048576 := by omega
                      clear hh hqb hMq hops hw1 hw2 hw3 hrn hq1 hq3 hq5 hq6 hqf hb6 hown6 hdb5
                      go_wp2_with fail
                      go_quiet ((first | (go_at_call 37; exact a37 _) | (go_at_call 47; exact a47 _) | (go_at_call 48; exact a48 _) | (go_at_call 18; exact a18 _)))
                      go_wp2_with fail
                      go_roundw
                      case rel => exact ⟨k + 1, s5, v5, by omega, by go_num, hdb6.keep ((Keeps.refl No _).drewN _)⟩
                      case measure => simp [intOf]; omega
        · go_wp2_with fail
          go_ret
          exact ⟨rfl, hdb.2.2.2.2.2⟩
end Go.Proofs.Ytkblcdjkabiliaa
