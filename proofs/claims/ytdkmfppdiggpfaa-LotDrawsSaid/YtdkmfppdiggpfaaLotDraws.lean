/- LotDraws: the law's walk. -/
import Derived.Test.YtdkmfppdiggpfaaLH
import Derived.Deep.RegionHeld3
namespace Go.Proofs.Ytdkmfppdiggpfaa
open Go.RowKit Wm

theorem field0 (w : World) : (Instr.field 49 (.agg #[.int .i64 0, .int .i64 0, .int .i64 0, .bool false, .slice none 0 0]) 0).run Try.prog w = .ok (.int .i64 0) w := by kernel_rfl
theorem same_any' (k a n : Int) (b : Bool) (w : World) : Calls Try.prog 25 #[.agg #[.int .i64 k, .int .i64 a, .int .i64 n, .bool b, .slice none 0 0], .agg #[.int .i64 k, .int .i64 a, .int .i64 n, .bool b, .slice none 0 0]] w fun e w' => e = .returned (.bool true) ∧ Keeps No w w' := same_any ⟨k, a, n, b⟩ w
theorem right_any' (k a n : Int) (b : Bool) (w : World) (h : Rt ⟨k, a, n, b⟩) : Calls Try.prog 26 #[.agg #[.int .i64 k, .int .i64 a, .int .i64 n, .bool b, .slice none 0 0]] w fun e w' => e = .returned (.bool true) ∧ Keeps No w w' := right_any ⟨k, a, n, b⟩ w h

theorem evL_get (x : Wn.Evt) (j : Nat) (hj : j < 5) : ∀ (l : List Wn.Evt) (k : Nat), l[k]? = some x → (evL l)[k * 5 + j]? = (evC x)[j]? := by
  intro l
  induction l with
  | nil => intro k h; simp at h
  | cons y l ih =>
    intro k h
    have hc : evL (y :: l) = (evC y).toList ++ evL l := by simp [evL]
    have h5 : (evC y).toList.length = 5 := by simp [evC]
    rw [hc]
    cases k with
    | zero =>
      simp at h; subst h
      rw [List.getElem?_append_left (by rw [h5]; omega)]
      simp
    | succ k =>
      have hi := ih k (by simpa using h)
      rw [List.getElem?_append_right (by rw [h5]; omega), h5, ← hi]
      congr 1; omega
theorem evs_get (s : Nat) : ∀ (K k : Nat), k < K → (Wn.evsF Wn.evOf K s).1[k]? = some (Wn.evOf (Wn.evsF Wn.evOf k s).2).1 := by
  intro K
  induction K with
  | zero => intro k h; omega
  | succ K ih =>
    intro k h
    rw [(Wn.evsF_succ Wn.evOf K s).1]
    by_cases hk : k < K
    · rw [List.getElem?_append_left (by rw [evs_length]; exact hk)]; exact ih k hk
    · obtain rfl : k = K := by omega
      rw [List.getElem?_append_right (by rw [evs_length]; exact Nat.le_refl _), evs_length, Nat.sub_self]
      rfl
/-- The cells of an event in the row. -/
theorem row_ev {w : World} {base K c k q s : Nat} (h : w.ownsRow base 49 5 (.slice (some ⟨q, 0, none⟩) K c) K (evL (Wn.evsF Wn.evOf K s).1)) (hk : k < K) :
    ∀ j, j < 5 → w.cell? ⟨q, k * 5 + j, none⟩ = (evC (Wn.evOf (Wn.evsF Wn.evOf k s).2).1)[j]? := by
  intro j hj
  have hg := evL_get _ j hj _ k (evs_get s K k hk)
  generalize (Wn.evOf (Wn.evsF Wn.evOf k s).2).1 = x at *
  obtain ⟨u, hu⟩ : ∃ u, (evC x)[j]? = some u := ⟨(evC x)[j]'(by simp [evC]; omega), by simp⟩
  rw [hu] at hg ⊢
  have := h.cells (g := q) rfl (k * 5 + j) u hg
  rwa [add_off', Nat.zero_add] at this
theorem row_some {w : World} {base K c : Nat} {a : Option Addr} {xs : List Value} (h : w.ownsRow base 49 5 (.slice a K c) K xs) (hK : 0 < K) : ∃ q, a = some ⟨q, 0, none⟩ ∧ base ≤ q ∧ q < w.heap.size := by
  have hlt := h.lt
  rcases h.2 with ⟨hv, hn⟩ | ⟨g, cap, cur, hv, hg, _⟩
  · omega
  · injection hv with h1 _ _
    subst h1
    exact ⟨g, rfl, hg, (hlt g rfl).2⟩

set_option maxRecDepth 100000 in
set_option maxHeartbeats 4000000 in
theorem lotDraws_any (z : Int) (v : Value) (l : List Int) (m : Int) (w : World) (hz : 0 ≤ z ∧ z ≤ 18446744073709551615) (h : SI No w v l ∧ I64 l) (_hm : -9223372036854775808 ≤ m ∧ m ≤ 9223372036854775807) :
    Calls Try.prog 8 #[.int .u64 z, v, .int .i64 m] w (PTrue w) := by
  obtain ⟨h, h64⟩ := h
  obtain ⟨a, n, c, rfl, hn, hnc, hcm⟩ := h.opened
  unfold maxLen at hcm
  have Hn := hid hn
  obtain ⟨zn, rfl⟩ := Int.eq_ofNat_of_zero_le hz.1
  have hzn : zn < 18446744073709551616 := by omega
  have H64 := hid h64
  clear hn hz h64
  go_enter Try.func8, Try.ntmps8
  go_wp2_with fail
  refine (awake44_any w).mono ?_
  rintro e w1 ⟨rfl, hk1⟩
  by_cases h100 : n ≤ 100
  · go_wp2_with fail
    refine (lnew_any zn _ hzn).mono ?_
    rintro e w2 ⟨ga, rfl, hga, hl2, hk2⟩
    have hq1 : L2 60 45 w ga w2.heap.size zn zn (w2.alloc (.cells #[.int .u64 (zn : Int)] 45)) := by
      have hka : Keeps No w2 (w2.alloc (.cells #[.int .u64 (zn : Int)] 45)) := (Keeps.refl _ _).alloc _
      have hal := hl2.facts.1
      have hs1 := hk1.size
      have hs2 := hk2.size
      exact ⟨hl2.keep hka fun hk => hk, ⟨heap_alloc_new w2 _, hzn⟩, by omega, by omega, by omega, (hk1.then_ hk2).then_ hka⟩
    have Hq1 := hid hq1
    clear hq1 hl2 hk2 hk1 hga hzn
    generalize hgb : w2.heap.size = gb at *
    go_wp2_with fail
    clear hgb
    generalize (w2.alloc _) = w3 at *
    go_loopw [30] (fun i wr => ∃ (k : Nat) (s : Nat), k ≤ n ∧ i = .int .i64 k ∧ L2 60 45 w ga gb s s wr) (fun i _ => n - (intOf i).toNat)
    case atStart => exact ⟨0, zn, Nat.zero_le _, rfl, Hq1.out⟩
    case round =>
      obtain ⟨k, s, hk, rfl, hL⟩ := hrel
      by_cases hlt : k < n
      · have h2 := SV.keep h hL.2.2.2.2.2 fun _ _ hk => hk.elim
        obtain ⟨b, off, rfl, _, hat⟩ := SI.at_ h2 (by omega)
        have hkl : k < l.length := by have := Hn.out; omega
        have hcell := hat k l[k] (List.getElem?_eq_getElem hkl)
        have hy := H64.out l[k] (List.getElem_mem hkl)
        clear hat h2
        generalize l[k] = y at *
        obtain ⟨hy1, hy2⟩ := hy
        by_cases hy0 : y = 0
        · subst hy0
          have hd1 := fun W hW => ldraw_any 60 ga s W hW
          have hd2 := fun W hW => rdraw_any 45 gb s W hW
          generalize Wn.dr s = x at *
          generalize Wn.nx s = s1 at *
          have Hd1 := hid hd1
          have Hd2 := hid hd2
          clear hd1 hd2
          go_wp2_with fail
          refine (Hd1.out _ hL.1).mono ?_
          rintro e w4 ⟨rfl, g1, g2⟩
          have hL4 := hL.left g1 g2
          clear g1 g2 hL hcell
          go_wp2_with fail
          refine (Hd2.out _ hL4.2.1).mono ?_
          rintro e w5 ⟨rfl, g1, g2⟩
          have hL5 := hL4.right g1 g2
          clear g1 g2 hL4
          go_wp2_with fail
          go_roundw
          case rel => exact ⟨k + 1, s1, by omega, by go_num, hL5⟩
          case measure => simp [intOf]; omega
        · have e0 : (y == 0) = false := by rw [beq_eq_false_iff_ne]; exact hy0
          clear hy0
          by_cases hy3 : Int.tmod y 3 = 0
          · have e3 : (Int.tmod y 3 == 0) = true := by rw [hy3]; rfl
            clear hy3
            have hd1 := fun W hW => levent_any ga s W hW
            have hd2 := fun W hW => revent_any gb s W hW
            have hrt := evOf_rt s
            generalize (Wn.evOf s).1 = x at *
            generalize (Wn.evOf s).2 = s1 at *
            have Hd1 := hid hd1
            have Hd2 := hid hd2
            clear hd1 hd2
            go_wp2_with fail
            refine (Hd1.out _ hL.1).mono ?_
            rintro e w4 ⟨rfl, g1, g2⟩
            have hL4 := hL.left g1 g2
            clear g1 g2 hL hcell
            go_wp2_with fail
            refine (Hd2.out _ hL4.2.1).mono ?_
            rintro e w5 ⟨rfl, g1, g2⟩
            have hL5 := hL4.right g1 g2
            clear g1 g2 hL4
            obtain ⟨xk, xa, xn, xb⟩ := x
            unfold evV evC
            simp only
            have hka : ∀ o1 o2, Keeps No w5 ((w5.alloc o1).alloc o2) := fun _ _ => ((Keeps.refl _ _).alloc _).alloc _
            have hL6 := fun o1 o2 => hL5.keepNo (hka o1 o2)
            have HL6 := hid hL6
            clear hL6 hka hL5
            go_wp2_with fail
            refine (same_any' _ _ _ _ _).mono ?_
            rintro e w6 ⟨rfl, hk6⟩
            have hL7 := (HL6.out _ _).keepNo hk6
            have hrow6 := (hk6.block (w5.heap.size + 1) (by simp) (fun hk => hk)).trans (heap_alloc2_new w5 _ _)
            obtain ⟨⟨c0, c1, c2, c3, c4⟩, -⟩ := row5 hrow6
            clear hrow6 hk6 HL6
            go_wp2_with fail
            refine (right_any' _ _ _ _ _ hrt).mono ?_
            rintro e w7 ⟨rfl, hk7⟩
            have hL8 := hL7.keepNo hk7
            clear hL7 hk7 c0 c1 c2 c3 c4
            go_wp2_with fail
            go_roundw
            case rel => exact ⟨k + 1, s1, by omega, by go_num, hL8⟩
            case measure => simp [intOf]; omega
          · have e3 : (Int.tmod y 3 == 0) = false := by rw [beq_eq_false_iff_ne]; exact hy3
            clear hy3
            have hd1 := fun W hW => lbelow_any 60 ga s y W hW hy2
            have hd2 := fun W hW => rbelow_any 45 gb s y W hW hy2
            generalize (Wn.below s y).1 = x at *
            generalize (Wn.below s y).2 = s1 at *
            have Hd1 := hid hd1
            have Hd2 := hid hd2
            clear hd1 hd2
            go_wp2_with fail
            refine (Hd1.out _ hL.1).mono ?_
            rintro e w4 ⟨rfl, g1, g2⟩
            have hL4 := hL.left g1 g2
            clear g1 g2 hL hcell
            go_wp2_with fail
            refine (Hd2.out _ hL4.2.1).mono ?_
            rintro e w5 ⟨rfl, g1, g2⟩
            have hL5 := hL4.right g1 g2
            clear g1 g2 hL4
            go_wp2_with fail
            go_roundw
            case rel => exact ⟨k + 1, s1, by omega, by go_num, hL5⟩
            case measure => simp [intOf]; omega
      · clear Hq1
        have hmax : ∀ (x : Int) ts t wx, (Builtin.max_ ts t #[.int .i64 0, .int .i64 x]).run Try.prog wx = .ok (.int .i64 (max 0 x)) wx := by
          intro x ts t wx
          rw [run_max_int2]
          congr 2
          split <;> omega
        have hev := fun r W hW => levents_any ga s r W hW
        have Hev := hid hev
        have Hmax := hid hmax
        clear hev hmax
        have hmb : -300 < m.tmod 300 ∧ m.tmod 300 < 300 := by
          have h1 := Int.natAbs_tmod m 300
          have h2 : (m.tmod 300).natAbs < 300 := by rw [h1]; exact Nat.mod_lt _ (by decide)
          omega
        obtain ⟨K, hK⟩ : ∃ K : Nat, (max 0 (min (m.tmod 300) 4096)).toNat = K := ⟨_, rfl⟩
        have hKm : ((K : Int) == max 0 (m.tmod 300)) = true := by rw [beq_iff_eq]; omega
        have hK3 : K ≤ 300 := by omega
        have hmx := Hmax.out (m.tmod 300)
        go_wp2_with fail
        refine (Hev.out _ _ hL.1).mono ?_
        rw [hK]
        rintro e w4 ⟨a4, c4, rfl, hown4, hl4, hk4⟩
        have hL4 := hL.left hl4 hk4
        have hgl := hL.2.1.facts.1
        have hga := hL.2.2.2.1
        have hgl2 := hL.1.facts.1
        generalize (Wn.evsF Wn.evOf K s).2 = sA at *
        have HL4 := hid hL4
        have hcap : K ≤ c4 ∧ c4 ≤ 9223372036854775807 := by
          rcases hown4.2 with ⟨hv, hn⟩ | ⟨g, cap, cur, hv, _, _, h1, h2, _⟩
          · injection hv with _ _ h3; omega
          · injection hv with _ _ h3; unfold maxLen at h2; omega
        obtain ⟨hcap1, hcap2⟩ := hcap
        have Hown4 := hid hown4
        clear hL hl4 hk4 hmb hK hL4 hown4
        have e76 : ((K : Int) != max 0 (m.tmod 300)) = false := by unfold bne; rw [hKm]; rfl
        go_wp2_with fail
        try rw [e76]
        clear hmx hKm e76
        go_loopw [79] (fun i wx => ∃ (k : Nat), k ≤ K ∧ i = .int .i64 k ∧ L2 60 45 w ga gb sA (Wn.evsF Wn.evOf k s).2 wx ∧ Keeps (Only gb) w4 wx) (fun i _ => K - (intOf i).toNat)
        case atStart => exact ⟨0, Nat.zero_le _, rfl, HL4.out, Keeps.refl _ _⟩
        case round =>
          obtain ⟨k, hk, rfl, hL, hKr⟩ := hrel
          by_cases hlt : k < K
          · obtain ⟨q, rfl, hq1, hq2⟩ := row_some Hown4.out (by omega)
            have hown5 := ownsRow_keep Hown4.out hKr fun g hg e => by
              have hg' : q = g := by simpa [Value.ownBlock] using hg
              unfold Only at e; omega
            have hcells := row_ev hown5 hlt
            have h0 := hcells 0 (by omega); have h1 := hcells 1 (by omega); have h2 := hcells 2 (by omega); have h3 := hcells 3 (by omega); have h4 := hcells 4 (by omega)
            have hd2 := fun W hW => revent_any gb (Wn.evsF Wn.evOf k s).2 W hW
            have hst := (Wn.evsF_succ Wn.evOf k s).2
            clear hcells hown5
            generalize (Wn.evOf (Wn.evsF Wn.evOf k s).2).1 = x at *
            rw [← hst] at hd2
            generalize hst2 : (Wn.evsF Wn.evOf (k + 1) s).2 = st2 at *
            have Hst2 := hid hst2
            clear hst2
            generalize (Wn.evsF Wn.evOf k s).2 = st at *
            obtain ⟨xk, xa, xn, xb⟩ := x
            unfold evC at h0 h1 h2 h3 h4
            simp only [List.getElem?_toArray, List.getElem?_cons_zero, List.getElem?_cons_succ, Nat.add_zero] at h0 h1 h2 h3 h4
            have Hd2 := hid hd2
            have Hst := hid hst
            clear hd2 hst
            have hbl := hL.2.1.facts.1
            have hrow0 : (wr.alloc (.cells #[.int .i64 xk, .int .i64 xa, .int .i64 xn, .bool xb, .slice none 0 0] 49)).heap[wr.heap.size]? = some (.cells #[.int .i64 xk, .int .i64 xa, .int .i64 xn, .bool xb, .slice none 0 0] 49 (0, 0)) := heap_alloc_new wr _
            have hLa := hL.keepNo ((Keeps.refl No wr).alloc (.cells #[.int .i64 xk, .int .i64 xa, .int .i64 xn, .bool xb, .slice none 0 0] 49))
            have hKa := hKr.alloc (.cells #[.int .i64 xk, .int .i64 xa, .int .i64 xn, .bool xb, .slice none 0 0] 49)
            have hasz : (wr.alloc (.cells #[.int .i64 xk, .int .i64 xa, .int .i64 xn, .bool xb, .slice none 0 0] 49)).heap.size = wr.heap.size + 1 := by simp
            clear hL hKr
            go_wp2_with fail
            clear h0 h1 h2 h3 h4
            generalize (wr.alloc _) = wz at *
            have hr0 := (row5 hrow0).1
            go_region_held3 (fun wy => wy.cell? ⟨wr.heap.size, 0, none⟩ = some (.int .i64 xk) ∧ wy.cell? ⟨wr.heap.size, 1, none⟩ = some (.int .i64 xa) ∧ wy.cell? ⟨wr.heap.size, 2, none⟩ = some (.int .i64 xn) ∧ wy.cell? ⟨wr.heap.size, 3, none⟩ = some (.bool xb) ∧ wy.cell? ⟨wr.heap.size, 4, none⟩ = some (.slice none 0 0))
              (first | exact hr0 | exact hr6 | exact hr7)
              (first
                | (go_at_call 24; refine (Hd2.out _ (by exact hLa.2.1)).mono ?_; rintro e w6 ⟨rfl, g1, g2⟩; replace g2 : Keeps (Only gb) wz w6 := ((Keeps.refl (Only gb) wz).drew).trans g2 (fun _ _ hk => hk); have hL6 := hLa.right g1 g2; have hrow6 := (g2.block wr.heap.size (by omega) (fun e => by unfold Only at e; omega)).trans hrow0; have hr6 := (row5 hrow6).1; unfold evV evC; simp only)
                | (go_at_call 25; refine (same_any' _ _ _ _ _).mono ?_; rintro e w7 ⟨rfl, hk7⟩; have hL7 := hL6.keepNo hk7; have hr7 := (row5 ((hk7.block wr.heap.size (by have := g2.size; omega) (fun hk => hk)).trans hrow6)).1))
            have hK7 := (hKa.trans g2 fun _ _ hk => hk).then_ hk7
            clear hr0 hr6 hr7
            go_wp2_with fail
            go_roundw
            case rel => exact ⟨k + 1, by omega, by go_num, by rw [Hst2.out]; exact hL7, hK7⟩
            case measure => simp [intOf]; omega
          · have hKw := hL.2.2.2.2.2
            clear hL hKr
            go_wp2_with fail
            have hka : Keeps No wr (wr.alloc (.cells #[.int .u64 0] 60)) := (Keeps.refl _ _).alloc _
            have hpl : LotAt 60 (wr.alloc (.cells #[.int .u64 0] 60)) wr.heap.size 0 := ⟨heap_alloc_new wr _, by omega⟩
            have hgz : wr.heap.size < (wr.alloc (.cells #[.int .u64 0] 60)).heap.size := by simp
            have hD : ∀ g s W, LotAt 60 W g s → Calls Try.prog 21 #[.pointer (some ⟨g, 0, none⟩)] W (PLot 60 g (.int .u64 (Wn.dr s : Nat)) (Wn.nx s) W) := fun g s W h => ldraw_any 60 g s W h
            have HD := hid hD
            have hkz := hKw.then_ hka
            have hsz := hkz.size
            clear hD hka
            generalize wr.alloc (.cells #[.int .u64 0] 60) = wz at *
            refine (ldraw_nil _).mono ?_
            rintro e w8 ⟨rfl, rfl⟩
            go_wp2_with fail
            refine (lbelow_nil _ _).mono ?_
            rintro e w8 ⟨rfl, rfl⟩
            go_wp2_with fail
            refine (levents_nil _ _).mono ?_
            rintro e w8 ⟨rfl, rfl⟩
            go_wp2_with fail
            refine (levent_nil _).mono ?_
            rintro e w8 ⟨rfl, hk8⟩
            unfold evV evC
            simp only
            have hpl8 := hpl.keep hk8 fun hk => hk
            have hf0 := field0
            have hkw8 := hkz.then_ hk8
            clear hpl hk8 hkz
            go_wp2_with fail
            refine (HD.out _ _ _ hpl8).mono ?_
            rintro e w9 ⟨rfl, g1, g2⟩
            have hK9 : Keeps No w w9 := hkw8.trans g2 fun k hl e => by unfold Only at e; have := hKw.size; omega
            clear g1 g2 hkw8 hpl8
            go_wp2_with fail
            refine (lnew_any 0 _ (by omega)).mono ?_
            rintro e w10 ⟨g10, rfl, hg10, hl10, hk10⟩
            go_wp2_with fail
            refine (HD.out _ _ _ hl10).mono ?_
            rintro e w11 ⟨rfl, g1, g2⟩
            have hK11 : Keeps No w w11 := (hK9.then_ hk10).trans g2 fun k hl e => by unfold Only at e; have := hK9.size; omega
            generalize Wn.dr 0 = d0 at *
            go_wp2_with fail
            go_ret
            exact ⟨rfl, hK11⟩
  · go_wp2_with fail
    go_ret
    exact ⟨rfl, hk1⟩
end Go.Proofs.Ytdkmfppdiggpfaa
