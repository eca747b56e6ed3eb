/- JournalKeeps: the law's walk. -/
import Derived.Test.YtkblcdjkabiliaaJG
import Derived.BigGuardPart
namespace Go.Proofs.Ytkblcdjkabiliaa
open Go.RowKit Wm

theorem row_take {M : Blocks} {w : World} {base n c k : Nat} {a : Option Addr} {us : List Value} {ls : List (List UInt8)} (ho : w.ownsRow base 24 1 (.slice a n c) n us) (hs : SLV M w us ls) (hk : k ≤ n) : SL No w (.slice a k c) (ls.take k) := by
  have hsv : SV No w (.slice a n c) us := SV.of_own ho fun _ _ hk => hk
  refine SL.of_vals (us := us.take k) (SV.take hsv hk) (by rw [List.length_take, List.length_take, hs.1]) fun i l hi => ?_
  rw [List.getElem?_take] at hi
  split at hi
  · rename_i hlt
    obtain ⟨u, hu, hb⟩ := hs.2 i l hi
    exact ⟨u, by rw [List.getElem?_take, if_pos hlt]; exact hu, SV.no hb⟩
  · cases hi
theorem row_all {M : Blocks} {w : World} {base n c : Nat} {a : Option Addr} {us : List Value} {ls : List (List UInt8)} (ho : w.ownsRow base 24 1 (.slice a n c) n us) (hs : SLV M w us ls) : SL No w (.slice a n c) ls := by
  have h := row_take ho hs (Nat.le_refl n)
  have hl : n = us.length := (SV.of_own (M := No) ho fun _ _ hk => hk).len
  rwa [List.take_of_length_le (by rw [hl, hs.1]; exact Nat.le_refl _)] at h

set_option maxRecDepth 100000 in
set_option maxHeartbeats 4000000 in
theorem journalKeeps_any (v : Value) (l : List DoS) (w : World) (h : SD No w v l) :
    Calls Try.prog 7 #[v] w (PTrue w) := by
  obtain ⟨i0, hi, hz0, hz1, hz2⟩ := info_parts info24
  obtain ⟨a, n, c, rfl, hn, hnc, hcm⟩ := h.opened
  unfold maxLen at hcm
  have Hn := hid hn
  clear hn
  have hdd : (Wn.dNew 100000).down = false := rfl
  have hjl0 : (Wn.jOpen (Wn.dNew 100000)).1.l = [] := by rfl
  have hjk0 := Wn.JK.new 100000 []
  go_enter Try.func7, Try.ntmps7
  go_wp2_with fail
  refine (awake28_any _).mono ?_
  rintro e w1 ⟨rfl, hk1⟩
  have h1 := h.shift hk1 (M' := No) (fun _ _ hk => hk.elim) (fun _ _ hk => hk)
  go_wp2_with fail
  refine (long28_any No _ l _ h1).mono ?_
  rintro e w2 ⟨⟨r, rfl, hr⟩, hk2⟩
  have hK2 := hk1.then_ hk2
  clear h1 hk1 hk2
  have Hr := hid hr
  clear hr
  cases r with
  | true =>
    go_wp2_with fail
    go_ret
    exact ⟨rfl, hK2⟩
  | false =>
    go_wp2_with fail
    refine (dnew_any 100000 _ (by omega)).mono ?_
    rintro e w3 ⟨d, rfl, hp, hd3, hk3⟩
    have hf3 : ∀ k, Foot d (.slice none 0 0) k → w.heap.size ≤ k := by
      have := hK2.size
      rintro k (rfl | hk)
      · omega
      · cases hk
    have hK3 := hK2.then_ hk3
    go_wp2_with fail
    refine (jopen_any (Ow (.slice none 0 0)) d _ _ _ hd3 hdd (fun _ hk => by cases hk)).mono ?_
    intro e w4 hpo
    obtain ⟨p, rfl, v4, vl4, hjl4, -⟩ := JL.first hK3 hf3 hpo
    have hq1 : KJ w d v4 p vl4 (Wn.jOpen (Wn.dNew 100000)).2 (Wn.jOpen (Wn.dNew 100000)).1 (.slice none 0 0) [] [] (.slice none 0 0) [] w4 :=
      ⟨hjl4, World.ownsRow_nil _ _ _ _, SLV.nil _ _, fun g hg => (by cases hg), SV.nil_ _ _ _ _ (Nat.zero_le _)⟩
    have hr2 := Hr.out trivial
    have Hr2 := hid hr2
    clear hr2 hp hd3 hk3 hK2 hK3 hf3 hpo hjl4 hdd
    generalize (Wn.jOpen (Wn.dNew 100000)).2 = s0 at *
    generalize (Wn.jOpen (Wn.dNew 100000)).1 = j0 at *
    have Hq1 := hid (show _ ∧ _ ∧ _ from ⟨hq1, hjl0, hjk0⟩)
    clear hq1 hjl0 hjk0
    go_wp2_with fail
    go_loopw [5, 7, 8, 9, 34] (fun uj vs vt ub i wr => ∃ (k : Nat) (s : Wn.Dsk) (j : Wn.Jrn) (v : Value) (p : Nat) (vl : Value) (us : List Value) (be : Bool) (torn : List UInt8), k ≤ n ∧ i = .int .i64 k ∧ uj = .pointer (some ⟨p, 0, none⟩) ∧ ub = .bool be ∧
      KJ w d v p vl s j vs us j.l vt torn wr ∧ Wn.JK s j be torn) (fun _ _ _ _ i _ => n - (intOf i).toNat)
    case atStart => exact ⟨0, s0, j0, v4, p, vl4, [], false, [], Nat.zero_le _, rfl, rfl, rfl, by rw [Hq1.out.2.1]; exact Hq1.out.1, Hq1.out.2.2⟩
    case round =>
      obtain ⟨k, s, j, v, p, vl, us, be, torn, hk, rfl, rfl, rfl, hkj, hjk⟩ := hrel
      obtain ⟨az, cs, rfl⟩ := own_shape hkj.2.1
      obtain ⟨at', nt, ct, rfl, -, -, -⟩ := hkj.2.2.2.2.opened
      by_cases hlt : k < n
      · have hM := hkj.lt
        have h' := h.shift hkj.1.2.2 (M' := U (JB d v p vl) (Ow (.slice az j.l.length cs))) (fun _ _ hk => hk.elim) (fun k hl hk => by have := (hM k hk).2; omega)
        obtain ⟨b, off, rfl, _, hat⟩ := h'.at_ (by omega)
        have hkl : k < l.length := by have := Hn.out; omega
        have hy3 := Hr2.out.2 l[k] (List.getElem_mem hkl)
        have hok := h'.ok l[k] (List.getElem_mem hkl)
        obtain ⟨hd0, hd1, hd2, u, hd3, hub⟩ := hat k l[k] (List.getElem?_eq_getElem hkl)
        clear hat
        generalize l[k] = y at *
        obtain ⟨a2, n2, c2, rfl, hn2, hnc2, hcm2⟩ := hub.opened
        unfold maxLen at hcm2
        have hdx := DX8.new (fun k hk => (hM k hk).1) hub
        have hkjx := hkj.keepNo ((Keeps.refl No wr).alloc (.cells #[.int .i64 y.kind, .int .i64 y.n, .int .i64 y.keep, .slice a2 n2 c2] 52))
        have hlen := JK_len hjk hkj.1.1.1.wf
        have hyb : y.b.length ≤ 200 := hy3
        have Hok := hid hok
        have Hjk := hid hjk
        have Hlen := hid hlen
        have Hyb := hid hyb
        clear hn2 hok hy3 h' hub hjk hlen hM hkj hyb
        by_cases hk1 : y.kind = 1
        · have e1 : (y.kind == 1) = true := by rw [hk1]; rfl
          clear hk1
          go_wp2_with fail
          generalize (wr.alloc _) = wx at *
          clear hd0 hd1 hd2 hd3
          refine (ddown_any d v s wx hkjx.1.1.1).mono ?_
          rintro e w4 ⟨rfl, rfl⟩
          have hM := hkjx.lt
          obtain ⟨hc0, hc1, hc2, hc3⟩ := hdx.cells
          have hka : Keeps No wx (wx.alloc (.cells #[.slice a2 n2 c2] 24)) := (Keeps.refl _ _).alloc _
          have hkja := hkjx.keepNo hka
          have hsl := one_part (M := JB d v p vl) (fun k hk => (hM k (.inl hk)).1) (SV.mono hdx.2.1 fun k _ hk => .inl hk) wx.heap.size rfl
          have hadd := jadd_any (Ow (.slice az j.l.length cs)) d v p vl s j _ [y.b] _ hkja.1.1 hsl (by simp; have := Hyb.out; omega) (fun k hk => by have := (hM k (.inr hk)).1; have := hka.size; omega) Hlen.out.1
          have hfl : ([y.b] : List (List UInt8)).flatten = y.b := by simp
          rw [hfl] at hadd
          have hdxa := hdx.step (St.no hka)
          have hJ := Hjk.out.add y.b (by have := Hyb.out; omega)
          have Hadd := hid hadd
          clear hadd hfl hsl hkjx hdx hka hM
          go_wp2_with fail
          refine Hadd.out.mono ?_
          intro e w5 hjp
          obtain ⟨rfl, v5, vl5, hkj5, hst5⟩ := hkja.op hjp
          have hdx5 := hdxa.step hst5
          obtain ⟨hg0, hg1, hg2, hg3⟩ := hdx5.cells
          clear hjp hkja hdxa hst5 hc0 hc1 hc2 hc3
          generalize Wn.jAdd j s y.b = q at *
          obtain ⟨f, j', s'⟩ := q
          simp only at hkj5 hJ ⊢
          by_cases hf0 : f = 0
          · subst hf0
            obtain ⟨hJ1, hJ2⟩ := hJ
            rw [if_neg (fun h => by simp at h), if_neg (fun h => by simp at h)] at hJ1
            rw [if_pos rfl] at hJ2
            have HJ := hid (show _ ∧ _ from ⟨hJ1, hJ2⟩)
            clear hJ1 hJ2 hg0 hg1 hg2
            have hnb := Hlen.out.1
            go_wp2_with (at_builtin; refine hold ?_)
            unfold Held
            refine wpList_app _ rfl (.tmp 97) (.tmp 100) _ rfl 0 24 i0 _ 24 Try.underlying22 hi hz0 hz1 hz2 rfl _ j.l.length us rfl (World.ownsRow.alloc hkj5.2.1 _) No _ [.slice a2 n2 c2] rfl (SV.no (SV.newAt w5 w5.heap.size _ _ _ 1 1 _ rfl rfl (by omega) (by unfold maxLen; omega) rfl)) (one_cell rfl) (j.l.length + 1) rfl (by unfold maxLen; omega) (by omega) (Nat.zero_le _) ?_
            intro a6 c6 w6 hown6 hg6 hb6
            have hkj6 := hkj5.push hdx5.2.1 rfl hown6 hg6 hb6
            clear hkj5 hdx5 hown6 hg6 hb6 hg3
            go_wp2_with fail
            go_roundw
            case rel => exact ⟨k + 1, s', j', v5, p, vl5, _, be, torn, by omega, by go_num, rfl, rfl, by rw [HJ.out.2]; exact hkj6, HJ.out.1⟩
            case measure => simp [intOf]; omega
          · have hfe : ((f : Int) == 0) = false := by rw [beq_eq_false_iff_ne]; omega
            obtain ⟨hJ1, hJ2⟩ := hJ
            rw [if_neg hf0] at hJ2
            have HJ2 := hid hJ2
            clear hf0
            by_cases hf42 : f = 42
            · subst hf42
              cases hsd : s.down with
              | true =>
                rw [if_neg (fun h => by rw [hsd] at h; simp at h), if_neg (fun h => by rw [hsd] at h; simp at h)] at hJ1
                have HJ := hid hJ1
                clear hJ1 hJ2 hsd hg0 hg1 hg2 hg3 hdx5
                go_wp2_with fail
                go_roundw
                case rel => exact ⟨k + 1, s', j', v5, p, vl5, _, be, torn, by omega, by go_num, rfl, rfl, by rw [HJ2.out]; exact hkj5, HJ.out⟩
                case measure => simp [intOf]; omega
              | false =>
                have hdn := ddown_any d v5 s' w5 hkj5.1.1.1
                cases hsd' : s'.down with
                | true =>
                  rw [hsd'] at hdn
                  rw [if_pos ⟨rfl, hsd, hsd'⟩, if_pos ⟨rfl, hsd, hsd'⟩] at hJ1
                  have HJ := hid hJ1
                  have Hdn := hid hdn
                  clear hJ1 hJ2 hsd hsd' hg0 hg1 hg2 hdn
                  go_wp2_with fail
                  refine Hdn.out.mono ?_
                  rintro e w6 ⟨rfl, rfl⟩
                  go_wp2_with fail
                  go_quiet (fail)
                  go_wp2_with fail
                  go_roundw
                  case rel => exact ⟨k + 1, s', j', v5, p, vl5, _, true, y.b, by omega, by go_num, rfl, rfl, by rw [HJ2.out]; exact (hkj5.torn_ hdx5.2.1).keepNo ((Keeps.refl No _).drewN _), HJ.out⟩
                  case measure => simp [intOf]; omega
                | false =>
                  rw [hsd'] at hdn
                  rw [if_neg (fun h => by rw [hsd'] at h; simp at h), if_neg (fun h => by rw [hsd'] at h; simp at h)] at hJ1
                  have HJ := hid hJ1
                  have Hdn := hid hdn
                  clear hJ1 hJ2 hsd hsd' hg0 hg1 hg2 hg3 hdn hdx5
                  go_wp2_with fail
                  refine Hdn.out.mono ?_
                  rintro e w6 ⟨rfl, rfl⟩
                  go_wp2_with fail
                  go_roundw
                  case rel => exact ⟨k + 1, s', j', v5, p, vl5, _, be, torn, by omega, by go_num, rfl, rfl, by rw [HJ2.out]; exact hkj5, HJ.out⟩
                  case measure => simp [intOf]; omega
            · have hfe2 : ((f : Int) == 42) = false := by rw [beq_eq_false_iff_ne]; omega
              rw [if_neg (fun h => hf42 h.1), if_neg (fun h => hf42 h.1)] at hJ1
              have HJ := hid hJ1
              clear hJ1 hJ2 hf42 hg0 hg1 hg2 hg3 hdx5
              go_wp2_with fail
              go_roundw
              case rel => exact ⟨k + 1, s', j', v5, p, vl5, _, be, torn, by omega, by go_num, rfl, rfl, by rw [HJ2.out]; exact hkj5, HJ.out⟩
              case measure => simp [intOf]; omega
        · have e1 : (y.kind == 1) = false := by rw [beq_eq_false_iff_ne]; exact hk1
          clear hk1
          by_cases hk2 : y.kind = 2
          · have e2 : (y.kind == 2) = true := by rw [hk2]; rfl
            clear hk2
            go_wp2_with fail
            generalize (wr.alloc _) = wx at *
            clear hd0 hd1 hd2 hd3
            obtain ⟨hc0, hc1, hc2, hc3⟩ := hdx.cells
            have hNb : y.n ≤ 9223372036854775807 := Hok.out.2.1.2
            refine (darm_any d v s y.n y.keep _ hkjx.1.1.1 hNb).mono ?_
            rintro e w4 ⟨rfl, hdk⟩
            obtain ⟨v4, hkj4, -⟩ := hkjx.disk hdk
            have hJ := Hjk.out.arm y.n y.keep
            have HJ := hid hJ
            clear hJ hdk hkjx hdx hc0 hc1 hc2 hc3 hNb
            generalize Wn.dArm s y.n y.keep = s5 at *
            go_wp2_with fail
            go_roundw
            case rel => exact ⟨k + 1, s5, j, v4, p, vl, us, be, torn, by omega, by go_num, rfl, rfl, hkj4, HJ.out⟩
            case measure => simp [intOf]; omega
          · have e2 : (y.kind == 2) = false := by rw [beq_eq_false_iff_ne]; exact hk2
            clear hk2
            go_wp2_with fail
            generalize (wr.alloc _) = wx at *
            clear hd0 hd1 hd2 hd3
            have hwf := hkjx.1.1.1.wf
            refine (dup_any d v s wx hkjx.1.1.1).mono ?_
            rintro e w4 ⟨rfl, hdk⟩
            obtain ⟨v4, hkj4, -⟩ := hkjx.disk hdk
            have hop := Hjk.out.open_ hwf
            have hdn := Wn.dUp_down s
            have hop26 := jopen_any (Ow (.slice az j.l.length cs)) d v4 (Wn.dUp s) w4 hkj4.1.1.1 hdn (fun k hk => (hkj4.lt k (.inr hk)).1)
            have Hop26 := hid hop26
            clear hdk hkjx hdx hwf hdn hop26
            go_wp2_with fail
            refine Hop26.out.mono ?_
            intro e w5 hpo
            obtain ⟨p5, rfl, v5, vl5, hkj5⟩ := hkj4.open_ hpo
            clear hpo hkj4 Hop26
            generalize (Wn.jOpen (Wn.dUp s)).2 = s5 at *
            generalize (Wn.jOpen (Wn.dUp s)).1 = j5 at *
            obtain ⟨hcase, hJ5⟩ := hop
            have hlen5 := JK_len hJ5 hkj5.1.1.1.wf
            have hrec := jrecs2_any 84 _ p5 d vl5 j5 w5 hkj5.1.1.2 hlen5.2 hlen5.1
            have HJ5 := hid hJ5
            have Hcase := hid hcase
            have Hrec := hid hrec
            have Hlen5 := hid hlen5
            clear hJ5 hcase hrec hlen5
            go_wp2_with fail
            refine Hrec.out.mono ?_
            rintro e w6 ⟨a6, c6, us6, rfl, hown6, hs6, hk6⟩
            have hkj6 := hkj5.anew hown6 hs6 hk6
            have hkj5' := hkj5.keepNo hk6
            have hs5 := row_all hkj5'.2.1 hkj5'.2.2.1
            have hnb5 := Hlen5.out.1
            have hnb := Hlen.out.1
            rcases Hcase.out with hl5 | ⟨hbe, hl5⟩
            · have hsl6 := row_all hown6 hs6
              rw [hl5] at hsl6 hkj6 ⊢
              have hse := same_eq _ _ _ _ _ w6 hsl6 hs5
              have Hse := hid hse
              have Hl5 := hid hl5
              clear hsl6 hse hown6 hs6 hs5 hkj5 hkj5' hl5
              go_wp2_with fail
              refine Hse.out.mono ?_
              rintro e w7 ⟨rfl, d7, rfl⟩
              go_wp2_with fail
              go_roundw
              case rel => exact ⟨k + 1, s5, j5, v5, p5, vl5, us6, false, torn, by omega, by go_num, rfl, rfl, by rw [Hl5.out]; exact hkj6.keepNo ((Keeps.refl No _).drewN _), HJ5.out⟩
              case measure => simp [intOf]; omega
            · have hN : j5.l.length = j.l.length + 1 := by rw [hl5, List.length_append]; rfl
              have hsl6 := row_all hown6 hs6
              have htk := row_take hown6 hs6 (k := j.l.length) (by omega)
              have htk2 : j5.l.take j.l.length = j.l := by rw [hl5, List.take_left]
              rw [htk2] at htk
              obtain ⟨b6, o6, rfl, -, hat6⟩ := hsl6.at_ (by omega)
              obtain ⟨u6, hcu6, hub6⟩ := hat6 j.l.length torn (by rw [hl5, List.getElem?_append_right (Nat.le_refl _), Nat.sub_self]; rfl)
              have hse := same_eq _ _ _ _ _ w6 htk hs5
              have hsn := same_ne _ _ _ _ _ _ w6 hsl6 hs5 (by omega)
              have hcap := hsl6.opened
              obtain ⟨_, _, _, ee, -, hcap1, hcap2⟩ := hcap
              injection ee with ee1 ee2 ee3
              subst ee2; subst ee3
              unfold maxLen at hcap2
              have Hse := hid hse
              have hkj5t := SV.no hkj5'.2.2.2.2
              clear hsl6 htk htk2 hse hown6 hs6 hs5 hkj5 hl5 hat6 hkj5' ee1
              generalize j5.l.length = N5 at *
              have Hsn := hid hsn
              subst hbe
              have hlt6 : (j.l.length : Int) < (N5 : Int) := by omega
              have hle6 : j.l.length ≤ N5 := by omega
              have hNb : ((N5 : Int) == (j.l.length : Int) + 1) = true := by rw [beq_iff_eq]; omega
              clear hsn hN
              go_wp2_with fail
              refine Hsn.out.mono ?_
              rintro e w7 ⟨rfl, rfl⟩
              go_wp2_with fail
              refine Hse.out.mono ?_
              rintro e w7 ⟨rfl, d7, rfl⟩
              have hcu7 : (w6.drewN d7).cell? ⟨b6, o6 + j.l.length, none⟩ = some u6 := hcu6
              have hub7 : SB No (w6.drewN d7) u6 torn := hub6
              have hvt7 : SB No (w6.drewN d7) (.slice at' nt ct) torn := hkj5t
              clear hcu6 hub6 hkj5t
              go_wp2_with fail
              refine (bytes_any _ _ _ _ _ _ _ hub7 hvt7).mono ?_
              rintro e w8 ⟨rfl, d8, rfl⟩
              rw [eqB_self]
              go_wp2_with fail
              go_roundw
              case rel => exact ⟨k + 1, s5, j5, v5, p5, vl5, us6, false, torn, by omega, by go_num, rfl, rfl, hkj6.keepNo ((Keeps.refl No _).drewN _), HJ5.out⟩
              case measure => simp [intOf]; omega
      · have hK := hkj.1.2.2
        clear hkj hjk
        go_wp2_with fail
        go_ret
        exact ⟨rfl, hK⟩
end Go.Proofs.Ytkblcdjkabiliaa
