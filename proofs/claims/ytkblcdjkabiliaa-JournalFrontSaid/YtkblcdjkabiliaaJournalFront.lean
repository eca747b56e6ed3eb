/- JournalFront: the law's walk. -/
import Derived.Test.YtkblcdjkabiliaaJF
import Derived.Test.YtkblcdjkabiliaaJfr
namespace Go.Proofs.Ytkblcdjkabiliaa
open Go.RowKit Wm

set_option maxRecDepth 100000 in
set_option maxHeartbeats 4000000 in
theorem journalFront_any (v : Value) (ls : List (List UInt8)) (z : Int) (w : World) (h : SL No w v ls) (hz : 0 ≤ z ∧ z ≤ 65535) :
    Calls Try.prog 14 #[v, .int .u16 z] w (PTrue w) := by
  obtain ⟨a, n, c, rfl, hn, hnc, hcm⟩ := h.opened
  unfold maxLen at hcm
  have Hn := hid hn
  obtain ⟨zn, rfl⟩ := Int.eq_ofNat_of_zero_le hz.1
  have hzn : zn ≤ 65535 := by omega
  clear hn hz
  have hdd : (Wn.dNew 9000).down = false := rfl
  have hjl0 : (Wn.jOpen (Wn.dNew 9000)).1.l = [] := by rfl
  have hjf0 := Wn.JF.new 9000
  go_enter Try.func14, Try.ntmps14
  go_wp2_with fail
  refine (awake28_any w).mono ?_
  rintro e w1 ⟨rfl, hk1⟩
  by_cases h12 : n ≤ 12
  · go_wp2_with fail
    refine (dnew_any 9000 _ (by omega)).mono ?_
    rintro e w2 ⟨p, rfl, hp, hd2, hk2⟩
    have hf2 : ∀ k, Foot p (.slice none 0 0) k → w.heap.size ≤ k := by
      have := hk1.size
      rintro k (rfl | hk)
      · omega
      · cases hk
    have hk12 := hk1.then_ hk2
    clear hp hk1 hk2
    go_wp2_with fail
    refine (jopen_any No p _ _ _ hd2 hdd (fun _ hk => hk.elim)).mono ?_
    intro e w3 hpo
    obtain ⟨pj, rfl, v3, vl3, hjl3, -⟩ := JL.first hk12 hf2 hpo
    clear hpo hd2 hk12 hf2 hdd
    generalize (Wn.jOpen (Wn.dNew 9000)).1 = j0 at *
    generalize (Wn.jOpen (Wn.dNew 9000)).2 = s0 at *
    have H0 := hid (show _ ∧ _ ∧ _ from ⟨hjl3, hjl0, hjf0⟩)
    clear hjl3 hjl0 hjf0
    go_wp2_with fail
    go_loopw [38] (fun i wr => ∃ (k : Nat) (s : Wn.Dsk) (j : Wn.Jrn) (v vl : Value), k ≤ n ∧ i = .int .i64 k ∧ JL w No p v pj vl s j wr ∧ Wn.JF s j 9000 ∧ j.l = ls.take k ∧ ∀ x ∈ ls.take k, x.length ≤ 200) (fun i _ => n - (intOf i).toNat)
    case atStart => exact ⟨0, s0, j0, _, _, Nat.zero_le _, rfl, H0.out.1, H0.out.2.2, by rw [H0.out.2.1]; rfl, by simp⟩
    case round =>
      obtain ⟨k, s, j, v, vl, hk, rfl, hjl, hjf, hjk, hsm⟩ := hrel
      by_cases hlt : k < n
      · have hJ : ∀ q, JB p v pj vl q → w.heap.size ≤ q := hjl.2.1
        have h' : SL (JB p v pj vl) wr (.slice a n c) ls := (h.mono fun q hq hJq => by have := hJ q hJq; omega).keep hjl.2.2 fun _ _ hk => hk.elim
        obtain ⟨b, off, rfl, _, hat⟩ := h'.at_ (by omega)
        have hkl : k < ls.length := by have := Hn.out; omega
        obtain ⟨u, hcell, hub⟩ := hat k ls[k] (List.getElem?_eq_getElem hkl)
        obtain ⟨a2, n2, c2, rfl, hn2, hnc2, hcm2⟩ := hub.opened
        unfold maxLen at hcm2
        have hst := List.take_succ_eq_append_getElem hkl
        generalize ls[k] = x at *
        by_cases h200 : n2 ≤ 200
        · have hsl : SL (JB p v pj vl) (wr.alloc (.cells #[.slice a2 n2 c2] 24)) (.slice (some ⟨wr.heap.size, 0, none⟩) 1 1) [x] :=
            SL.of_all ((SV.newAt wr wr.heap.size _ _ _ 1 1 _ rfl rfl (by omega) (by unfold maxLen; omega) rfl).mono fun k' _ hk' => hjl.1.lt k' hk') ⟨SV.alloc hub _, trivial⟩
          have hja := hjl.keepNo ((Keeps.refl No wr).alloc (.cells #[.slice a2 n2 c2] 24))
          have hjl12 : j.l.length ≤ 12 := by rw [hjk, List.length_take]; omega
          have hadd := jadd_any No p v pj vl s j _ [x] _ hja.1 hsl (by simp; omega) (fun _ hk => hk.elim) (by omega)
          have hfl : ([x] : List (List UInt8)).flatten = x := by simp
          rw [hfl] at hadd
          have hroom : (Wn.jAll j.l).length + (Wn.mkFrame x).length ≤ 9000 := by
            have h1 := Wn.jAll_le j.l (by rw [hjk]; exact hsm)
            have h2 := Wn.mk_length x
            have h3 := Wn.vb_len3 (n := x.length) (by omega)
            omega
          obtain ⟨g1, g2, g3⟩ := hjf.add x hroom
          have hs2 : ∀ y ∈ ls.take (k + 1), y.length ≤ 200 := by
            rw [hst]
            intro y hy
            simp only [List.mem_append, List.mem_singleton] at hy
            rcases hy with hy | rfl
            · exact hsm y hy
            · omega
          have hl2 : j.l ++ [x] = ls.take (k + 1) := by rw [hst, hjk]
          have HH := hid (show _ ∧ _ ∧ _ ∧ _ ∧ _ from ⟨g1, g2, g3, hs2, hl2⟩)
          have Hadd := hid hadd
          clear g1 g2 g3 hs2 hl2 hst hsm hjk hn2 hjl12 hroom hfl hadd hsl h' hat hjf hJ hub
          go_wp2_with fail
          refine Hadd.out.mono ?_
          intro e w4 hjp
          obtain ⟨rfl, v4, vl4, hjl4, -⟩ := hja.op hjp
          rw [HH.out.1]
          clear hjp hja
          go_wp2_with fail
          go_roundw
          case rel =>
            obtain ⟨g1, g2, g3, hs2, hl2⟩ := HH.out
            rw [g2] at hjl4 g3
            rw [hl2] at hjl4 g3
            exact ⟨k + 1, _, _, v4, vl4, by omega, by go_num, hjl4, g3, rfl, hs2⟩
          case measure => simp [intOf]; omega
        · go_wp2_with fail
          go_ret
          exact ⟨rfl, hjl.2.2⟩
      · have hkn : k = n := by omega
        have hall : ls.take k = ls := List.take_of_length_le (by have := Hn.out; omega)
        rw [hall] at hjk hsm
        have hln : ls.length ≤ 12 := by have := Hn.out; omega
        have hby := dbytes_any p v s wr hjl.1.1
        have hb := hjf.2.2.2.1
        rw [hjk] at hb
        have hdn := hjf.1
        have hK := hjl.2.2
        have HH := hid (show _ ∧ _ ∧ _ ∧ _ from ⟨hsm, hln, hb, hdn⟩)
        have Hby := hid hby
        have hbl := Wn.jAll_le ls hsm
        have hbl2 : s.b.length ≤ 2484 := by rw [hb]; omega
        clear hall hjk hsm hln hb hdn hby hjl hjf hbl H0
        go_wp2_with fail
        refine Hby.out.mono ?_
        rintro e w6 (⟨hdn, -⟩ | ⟨-, a6, r6, c6, rfl, hown6, hk6⟩)
        · rw [HH.out.2.2.2] at hdn; cases hdn
        have hb6 : SB No w6 (.slice a6 r6 c6) s.b := SV.of_own hown6 (fun _ _ hk => hk)
        have hr6 := hb6.len
        have hcap6 := hb6.cap
        unfold maxLen at hcap6
        obtain ⟨hcap6a, hcap6b⟩ := hcap6
        have hr6b : r6 ≤ 2484 := by omega
        have Hr6 := hid hr6
        clear hr6 hown6
        go_wp2_with fail
        have hm : ((zn : Int) % ((r6 : Int) + 1)) = ((zn % (r6 + 1) : Nat) : Int) := by push_cast; rfl
        have hNr : zn % (r6 + 1) ≤ r6 := Nat.lt_succ_iff.1 (Nat.mod_lt zn (Nat.succ_pos r6))
        rw [hm]
        clear hm
        generalize zn % (r6 + 1) = N at *
        obtain ⟨hsm, hln, hb, hdn⟩ := HH.out
        obtain ⟨m, sc, s2, f1, f2, f3, f4, f5, f6, f7, f8, f9⟩ := Wn.front_plain ls hsm hln N (by rw [← hb, ← Hr6.out]; exact hNr)
        rw [← hb] at f2 f3
        rw [← Hr6.out] at f2
        have hmn : m ≤ n := by have := Hn.out; omega
        have hmN : N = r6 → m = n := fun e => by have := Hn.out; have := f2 e; omega
        have hK6 := hK.then_ hk6
        have Hsm2 := hid hsm
        have FF := hid (show _ ∧ _ ∧ _ ∧ _ ∧ _ ∧ _ ∧ _ from ⟨f3, f4, f5, f6, f7, f8, f9⟩)
        have HmN := hid hmN
        clear hsm hln hb hdn f1 f2 f3 f4 f5 f6 f7 f8 f9 HH hK hk6 hmN
        refine (dnew_any 9000 _ (by omega)).mono ?_
        rintro e w7 ⟨pc, rfl, hpc, hd7, hk7⟩
        have hf7 : ∀ k, Foot pc (.slice none 0 0) k → w.heap.size ≤ k := by
          have := hK6.size
          rintro k (rfl | hk)
          · omega
          · cases hk
        have hK7 := hK6.then_ hk7
        have hb7 : SB (Foot pc (.slice none 0 0)) w7 (.slice a6 N c6) (s.b.take N) := by
          have h1 := SV.take hb6 (k := N) hNr
          rw [← List.map_take] at h1
          exact SV.keep (SV.mono h1 fun k hl hk => by
            rcases hk with rfl | hk
            · exact absurd hl (by omega)
            · cases hk) hk7 fun _ _ hk => hk.elim
        have hlt7 := hd7.lt
        have hsl : SL (Foot pc (.slice none 0 0)) (w7.alloc (.cells #[.slice a6 N c6] 24)) (.slice (some ⟨w7.heap.size, 0, none⟩) 1 1) [s.b.take N] :=
          SL.of_all ((SV.newAt w7 w7.heap.size _ _ _ 1 1 _ rfl rfl (by omega) (by unfold maxLen; omega) rfl).mono fun k' _ hk' => hlt7 k' hk') ⟨SV.alloc hb7 _, trivial⟩
        have hka : Keeps No w7 (w7.alloc (.cells #[.slice a6 N c6] 24)) := (Keeps.refl _ _).alloc _
        have hput := dput_any pc _ _ _ [s.b.take N] _ (hd7.keep hka fun _ _ hk => hk) hsl
        have hfl : ([s.b.take N] : List (List UInt8)).flatten = s.b.take N := by simp
        rw [hfl, FF.out.1] at hput
        have Hput := hid hput
        clear hput hfl hsl hlt7 hb7 hpc hd7 hb6
        go_wp2_with fail
        refine Hput.out.mono ?_
        rintro e w8 ⟨rfl, v8, hd8, hk8, hfr8⟩
        have hK8 : Keeps No w w8 := (hK7.then_ hka).trans hk8 fun k hl hk => by have := hf7 k hk; omega
        have hf8 : ∀ k, Foot pc v8 k → w.heap.size ≤ k := fun k hk => by
          rcases hfr8 k hk with h | h
          · exact hf7 k h
          · have := hK7.size; have := hka.size; omega
        clear hk8 hfr8 hka hf7 hK7 hk7 Hput
        go_wp2_with fail
        refine (jopen_any No pc _ _ _ hd8 FF.out.2.1 (fun _ hk => hk.elim)).mono ?_
        intro e w9 hpo
        obtain ⟨pk, rfl, v9, vl9, hjl9, -⟩ := JL.first hK8 hf8 hpo
        rw [FF.out.2.2.1, FF.out.2.2.2.1] at hjl9
        clear hpo hd8 hK8 hf8
        have hlm : (ls.take m).length = m := by rw [List.length_take]; have := Hn.out; omega
        have hlen := jlen_any 84 _ pk pc vl9 _ w9 hjl9.1.2
        rw [show ((⟨ls.take m, false⟩ : Wn.Jrn).l.length : Int) = (m : Int) by rw [hlm]] at hlen
        have hdl := dlen_any pc v9 s2 w9 hjl9.1.1
        have hs2 := FF.out.2.2.2.2.1
        have Hlen := hid hlen
        have Hdl := hid hdl
        have Hlm := hid hlm
        clear hlen hdl hlm
        have hrec := jrecs_any 84 _ pk pc vl9 { l := ls.take m, broken := false } w9 hjl9.1.2 (fun x hx => by have := Hsm2.out x (List.mem_of_mem_take hx); omega) (by show (ls.take m).length ≤ _; rw [Hlm.out]; omega)
        have hrec' : Calls Try.prog 35 #[.pointer (some ⟨pk, 0, none⟩)] w9 fun e w' => ∃ a c, e = .returned (.slice a m c) ∧ SL (Old w9) w' (.slice a m c) (ls.take m) ∧ Keeps No w9 w' := by
          refine hrec.mono ?_
          rintro e w' ⟨a', c', e1, e2, e3⟩
          have e4 : (⟨ls.take m, false⟩ : Wn.Jrn).l.length = m := Hlm.out
          rw [e4] at e1 e2
          exact ⟨a', c', e1, e2, e3⟩
        have Hrec := hid hrec'
        have hadd := fun pv W hW hx => jadd_any No pc v9 pk vl9 s2 { l := ls.take m, broken := false } pv [[109, 111, 114, 101]] W hW hx (by decide) (fun _ hk => hk.elim) (by show (ls.take m).length ≤ _; rw [Hlm.out]; omega)
        have hfl : ([[109, 111, 114, 101]] : List (List UInt8)).flatten = [109, 111, 114, 101] := by rfl
        rw [hfl] at hadd
        obtain ⟨-, -, -, -, -, f8, f9⟩ := FF.out
        generalize hq : Wn.jAdd { l := ls.take m, broken := false } s2 [109, 111, 114, 101] = q at *
        obtain ⟨x9, j9, s9⟩ := q
        simp only at f8 f9 hadd
        subst f8
        have Hadd := hid hadd
        have Hj9 := hid f9
        clear hrec hrec' hadd hfl f9 hq
        have hK9 := hjl9.2.2
        have m4 : (4 : Nat) ≤ maxLen := by unfold maxLen; omega
        go_wp2_with fail
        refine Hlen.out.mono ?_
        rintro e w10 ⟨rfl, rfl⟩
        have two : (N = r6 ∧ m = n) ∨ ((N : Int) == (r6 : Int)) = false := by
          by_cases hN : N = r6
          · exact .inl ⟨hN, HmN.out hN⟩
          · right; rw [beq_eq_false_iff_ne]; omega
        rcases two with ⟨hN, hmne⟩ | hNe
        · have hNe : ((N : Int) == (r6 : Int)) = true := by rw [beq_iff_eq]; omega
          have hme : ((m : Int) == (n : Int)) = true := by rw [beq_iff_eq]; omega
          clear hN hmne
          go_wp2_with fail
          refine Hlen.out.mono ?_
          rintro e w10 ⟨rfl, rfl⟩
          go_wp2_with fail
          refine Hdl.out.mono ?_
          rintro e w10 ⟨rfl, rfl⟩
          go_wp2_with fail
          rotate_left
          · exact absurd (beq_iff_eq.1 hme) (by assumption)
          refine Hrec.out.mono ?_
          rintro e w11 ⟨a11, c11, rfl, hsl11, hk11⟩
          have hc11 := hsl11.opened
          obtain ⟨_, _, _, e11, -, hmc11, hcm11⟩ := hc11
          injection e11 with e1 e2 e3
          subst e1; subst e2; subst e3
          unfold maxLen at hcm11
          go_wp2_with fail
          go_loopw [109] (fun i wr => ∃ q : Nat, q ≤ m ∧ i = .int .i64 q ∧ Keeps No w11 wr) (fun i _ => m - (intOf i).toNat)
          case atStart => exact ⟨0, Nat.zero_le _, rfl, Keeps.refl _ _⟩
          case round =>
            obtain ⟨q, hq, rfl, hkx⟩ := hrel
            have hKx : Keeps No w wr := (hK9.then_ hk11).then_ hkx
            by_cases hqm : q < m
            · have hx1 := hsl11.keep hkx fun _ _ hk => hk.elim
              have hx2 := h.keep hKx fun _ _ hk => hk.elim
              obtain ⟨b11, o11, rfl, -, hat1⟩ := hx1.at_ (by omega)
              obtain ⟨b12, o12, rfl, -, hat2⟩ := hx2.at_ (by omega)
              have hql : q < ls.length := by have := Hn.out; omega
              obtain ⟨u1, hcu1, hub1⟩ := hat1 q ls[q] (by rw [List.getElem?_take, if_pos hqm]; exact List.getElem?_eq_getElem hql)
              obtain ⟨u2, hcu2, hub2⟩ := hat2 q ls[q] (List.getElem?_eq_getElem hql)
              clear hat1 hat2
              generalize ls[q] = y at *
              go_wp2_with fail
              refine (bytes_any _ _ _ _ _ _ _ hub1 hub2).mono ?_
              rintro e w12 ⟨rfl, d12, rfl⟩
              rw [eqB_self]
              go_wp2_with fail
              go_roundw
              case rel => exact ⟨q + 1, by omega, by go_num, hkx.drewN _⟩
              case measure => simp [intOf]; omega
            · have kc := const_conv
              have hjx := (hjl9.keepNo hk11).keepNo hkx
              have hltx := hjx.1.lt
              have hal : ∀ o1 o2, Keeps No wr ((wr.alloc o1).alloc o2) := fun _ _ => ((Keeps.refl _ _).alloc _).alloc _
              have hjy := fun o1 o2 => hjx.keepNo (hal o1 o2)
              have Hjy := hid hjy
              clear hal hjy hjx
              go_wp2_with fail
              clear kc
              refine (Hadd.out _ _ (Hjy.out _ _).1 ?_).mono ?_
              · refine SL.mono (M := Old wr) ?_ (fun k _ hk => hltx k hk)
                refine SL.of_all ((SV.newAt _ _ _ _ _ 1 1 _ (by simp) rfl (by omega) (by unfold maxLen; omega) rfl).mono fun k _ hk => by unfold Old at *; simp; omega) ⟨?_, trivial⟩
                exact SV.alloc (SB.lit wr _ _ _ _ [109, 111, 114, 101] rfl m4 rfl) _
              intro e w13 hjp
              obtain ⟨rfl, v13, vl13, hjl13, -⟩ := (Hjy.out _ _).op hjp
              have hlen13 := jlen_any 84 _ pk pc vl13 j9 w13 hjl13.1.2
              rw [Hj9.out] at hlen13
              have Hlen13 := hid hlen13
              have hK13 := hjl13.2.2
              clear hjp hjl13 hlen13
              go_wp2_with fail
              refine Hlen13.out.mono ?_
              rintro e w14 ⟨rfl, rfl⟩
              go_wp2_with fail
              go_ret
              exact ⟨rfl, hK13⟩
        · go_wp2_with fail
          refine Hdl.out.mono ?_
          rintro e w10 ⟨rfl, rfl⟩
          go_wp2_with fail
          refine Hrec.out.mono ?_
          rintro e w11 ⟨a11, c11, rfl, hsl11, hk11⟩
          have hc11 := hsl11.opened
          obtain ⟨_, _, _, e11, -, hmc11, hcm11⟩ := hc11
          injection e11 with e1 e2 e3
          subst e1; subst e2; subst e3
          unfold maxLen at hcm11
          go_wp2_with fail
          go_loopw [109] (fun i wr => ∃ q : Nat, q ≤ m ∧ i = .int .i64 q ∧ Keeps No w11 wr) (fun i _ => m - (intOf i).toNat)
          case atStart => exact ⟨0, Nat.zero_le _, rfl, Keeps.refl _ _⟩
          case round =>
            obtain ⟨q, hq, rfl, hkx⟩ := hrel
            have hKx : Keeps No w wr := (hK9.then_ hk11).then_ hkx
            by_cases hqm : q < m
            · have hx1 := hsl11.keep hkx fun _ _ hk => hk.elim
              have hx2 := h.keep hKx fun _ _ hk => hk.elim
              obtain ⟨b11, o11, rfl, -, hat1⟩ := hx1.at_ (by omega)
              obtain ⟨b12, o12, rfl, -, hat2⟩ := hx2.at_ (by omega)
              have hql : q < ls.length := by have := Hn.out; omega
              obtain ⟨u1, hcu1, hub1⟩ := hat1 q ls[q] (by rw [List.getElem?_take, if_pos hqm]; exact List.getElem?_eq_getElem hql)
              obtain ⟨u2, hcu2, hub2⟩ := hat2 q ls[q] (List.getElem?_eq_getElem hql)
              clear hat1 hat2
              generalize ls[q] = y at *
              go_wp2_with fail
              refine (bytes_any _ _ _ _ _ _ _ hub1 hub2).mono ?_
              rintro e w12 ⟨rfl, d12, rfl⟩
              rw [eqB_self]
              go_wp2_with fail
              go_roundw
              case rel => exact ⟨q + 1, by omega, by go_num, hkx.drewN _⟩
              case measure => simp [intOf]; omega
            · have kc := const_conv
              have hjx := (hjl9.keepNo hk11).keepNo hkx
              have hltx := hjx.1.lt
              have hal : ∀ o1 o2, Keeps No wr ((wr.alloc o1).alloc o2) := fun _ _ => ((Keeps.refl _ _).alloc _).alloc _
              have hjy := fun o1 o2 => hjx.keepNo (hal o1 o2)
              have Hjy := hid hjy
              clear hal hjy hjx
              go_wp2_with fail
              clear kc
              refine (Hadd.out _ _ (Hjy.out _ _).1 ?_).mono ?_
              · refine SL.mono (M := Old wr) ?_ (fun k _ hk => hltx k hk)
                refine SL.of_all ((SV.newAt _ _ _ _ _ 1 1 _ (by simp) rfl (by omega) (by unfold maxLen; omega) rfl).mono fun k _ hk => by unfold Old at *; simp; omega) ⟨?_, trivial⟩
                exact SV.alloc (SB.lit wr _ _ _ _ [109, 111, 114, 101] rfl m4 rfl) _
              intro e w13 hjp
              obtain ⟨rfl, v13, vl13, hjl13, -⟩ := (Hjy.out _ _).op hjp
              have hlen13 := jlen_any 84 _ pk pc vl13 j9 w13 hjl13.1.2
              rw [Hj9.out] at hlen13
              have Hlen13 := hid hlen13
              have hK13 := hjl13.2.2
              clear hjp hjl13 hlen13
              go_wp2_with fail
              refine Hlen13.out.mono ?_
              rintro e w14 ⟨rfl, rfl⟩
              go_wp2_with fail
              go_ret
              exact ⟨rfl, hK13⟩
  · go_wp2_with fail
    go_ret
    exact ⟨rfl, hk1⟩
end Go.Proofs.Ytkblcdjkabiliaa
