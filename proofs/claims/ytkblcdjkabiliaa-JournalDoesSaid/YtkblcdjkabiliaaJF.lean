/- The walks through law 28's same, long and awake. -/
import Derived.Test.YtkblcdjkabiliaaJE
import Derived.BigQuiet
namespace Go.Proofs.Ytkblcdjkabiliaa
open Go.RowKit Wm

theorem same_ne (M M' : Blocks) (v v' : Value) (ls ms : List (List UInt8)) (w : World) (h : SL M w v ls) (h' : SL M' w v' ms) (hne : ls.length ≠ ms.length) :
    Calls Try.prog 34 #[v, v'] w fun e w' => e = .returned (.bool false) ∧ w = w' := by
  obtain ⟨a, n, c, rfl, hn, hnc, hcm⟩ := h.opened
  obtain ⟨a2, n2, c2, rfl, hn2, hnc2, hcm2⟩ := h'.opened
  have hd : ((n : Int) == n2) = false := by rw [beq_eq_false_iff_ne]; omega
  clear hn hn2 h h' hne
  go_enter Try.func34, Try.ntmps34
  go_wp2
  go_ret
  exact ⟨rfl, rfl⟩

set_option maxRecDepth 20000 in
set_option maxHeartbeats 2000000 in
theorem same_eq (M M' : Blocks) (v v' : Value) (ls : List (List UInt8)) (w : World) (h : SL M w v ls) (h' : SL M' w v' ls) :
    Calls Try.prog 34 #[v, v'] w fun e w' => e = .returned (.bool true) ∧ ∃ k, w' = w.drewN k := by
  obtain ⟨a, n, c, rfl, hn, hnc, hcm⟩ := h.opened
  obtain ⟨a2, n2, c2, rfl, hn2, hnc2, hcm2⟩ := h'.opened
  unfold maxLen at hcm hcm2
  obtain rfl : n2 = n := by omega
  have Hn := hid hn
  clear hn hn2
  go_enter Try.func34, Try.ntmps34
  go_wp2_with fail
  go_loopw [13] (fun i wr => ∃ k q : Nat, k ≤ n2 ∧ i = .int .i64 k ∧ wr = w.drewN q) (fun i _ => n2 - (intOf i).toNat)
  case atStart => exact ⟨0, 0, Nat.zero_le _, rfl, rfl⟩
  case round =>
    obtain ⟨k, q, hk, rfl, rfl⟩ := hrel
    by_cases hlt : k < n2
    · obtain ⟨b, off, rfl, _, hat⟩ := h.at_ (by omega)
      obtain ⟨b2, off2, rfl, _, hat2⟩ := h'.at_ (by omega)
      have hkl : k < ls.length := by have := Hn.out; omega
      obtain ⟨u, hcell, hub⟩ := hat k ls[k] (List.getElem?_eq_getElem hkl)
      obtain ⟨u2, hcell2, hub2⟩ := hat2 k ls[k] (List.getElem?_eq_getElem hkl)
      clear hat hat2
      generalize ls[k] = x at *
      have hq1 : (w.drewN q).cell? ⟨b, off + k, none⟩ = some u := hcell
      have hq2 : (w.drewN q).cell? ⟨b2, off2 + k, none⟩ = some u2 := hcell2
      have ha : ∀ m, Calls Try.prog 18 #[u, u2] ((w.drewN q).drewN m) fun e w' => e = .returned (.bool true) ∧ ∃ m', w' = (w.drewN q).drewN m' := by
        intro m
        have := bytes_any M M' u u2 x x ((w.drewN q).drewN m) hub hub2
        rw [eqB_self] at this
        exact Calls.quiet_of this
      have hi1 : (0 : Int) ≤ (k : Int) := by omega
      have hi2 : (k : Int) < (n2 : Int) := by omega
      clear hcell hcell2
      obtain ⟨wq, hwq⟩ : ∃ wq, w.drewN q = wq := ⟨_, rfl⟩
      rw [hwq] at hq1 hq2 ha ⊢
      have Hwq := hid hwq
      clear hwq
      go_wp2_with fail
      go_quiet ((go_at_call 18; exact ha _))
      go_wp2_with fail
      go_roundw
      case rel => exact ⟨k + 1, q + nq, by omega, by go_num, by rw [← Hwq.out]; simp⟩
      case measure => simp [intOf]; omega
    · go_wp2_with fail
      go_ret
      exact ⟨rfl, _, rfl⟩

set_option maxRecDepth 20000 in
set_option maxHeartbeats 2000000 in
theorem long28_any (M : Blocks) (v : Value) (l : List DoS) (w : World) (h : SD M w v l) :
    Calls Try.prog 24 #[v] w fun e w' => (∃ r, e = .returned (.bool r) ∧ (r = false → l.length ≤ 40 ∧ ∀ x ∈ l, x.b.length ≤ 200)) ∧ Keeps No w w' := by
  obtain ⟨a, n, c, rfl, hn, hnc, hcm⟩ := h.opened
  unfold maxLen at hcm
  have Hn := hid hn
  clear hn
  by_cases h60 : n ≤ 40
  · go_enter Try.func24, Try.ntmps24
    go_wp2
    go_loopw [10] (fun i wr => ∃ k : Nat, k ≤ n ∧ i = .int .i64 k ∧ (∀ j x, j < k → l[j]? = some x → x.b.length ≤ 200) ∧ Keeps No w wr) (fun i _ => n - (intOf i).toNat)
    case atStart => exact ⟨0, Nat.zero_le _, rfl, fun j x h => by omega, Keeps.refl _ _⟩
    case round =>
      obtain ⟨k, hk, rfl, hall, hK⟩ := hrel
      have Hall := hid hall
      clear hall
      by_cases hlt : k < n
      · have h' := h.shift hK (M' := M) (fun _ _ hk => hk.elim) (fun _ _ hk => hk)
        obtain ⟨b, off, rfl, _, hat⟩ := h'.at_ (by omega)
        have hkl : k < l.length := by have := Hn.out; omega
        obtain ⟨hd0, hd1, hd2, u, hd3, hub⟩ := hat k l[k] (List.getElem?_eq_getElem hkl)
        obtain ⟨a2, n2, c2, rfl, hn2, hnc2, hcm2⟩ := hub.opened
        unfold maxLen at hcm2
        clear hat
        have Hn2 := hid hn2
        have hx : l[k]? = some l[k] := List.getElem?_eq_getElem hkl
        have Hx := hid hx
        clear hn2 hx
        generalize l[k] = y at *
        by_cases h300 : n2 ≤ 200
        · go_wp2_with fail
          go_roundw
          case rel =>
            refine ⟨k + 1, by omega, by go_num, fun j x hj hx => ?_, hK.alloc _⟩
            rcases Nat.lt_succ_iff_lt_or_eq.1 hj with h1 | rfl
            · exact Hall.out j x h1 hx
            · have e := Hx.out
              rw [hx] at e; injection e with e; subst e
              have := Hn2.out; omega
          case measure => simp [intOf]; omega
        · go_wp2_with fail
          go_ret
          exact ⟨⟨true, rfl, fun h => by cases h⟩, hK.alloc _⟩
      · go_wp2_with fail
        go_ret
        refine ⟨⟨false, rfl, fun _ => ⟨by have := Hn.out; omega, fun x hx => ?_⟩⟩, hK⟩
        obtain ⟨j, hj, rfl⟩ := List.getElem_of_mem hx
        exact Hall.out j _ (by have := Hn.out; omega) (List.getElem?_eq_getElem hj)
  · go_enter Try.func24, Try.ntmps24
    go_wp2
    go_ret
    exact ⟨⟨true, rfl, fun h => by cases h⟩, Keeps.refl _ _⟩

/-- A journal and its disk, made since w0; nothing of w0 has turned. -/
def JL (w0 : World) (R : Blocks) (d : Nat) (v : Value) (p : Nat) (vl : Value) (s : Wn.Dsk) (j : Wn.Jrn) (w : World) : Prop :=
  JS R w d v p vl s j ∧ (∀ k, JB d v p vl k → w0.heap.size ≤ k) ∧ Keeps No w0 w
theorem JL.keepNo {w0 w w' : World} {R : Blocks} {d p : Nat} {v vl : Value} {s : Wn.Dsk} {j : Wn.Jrn} (h : JL w0 R d v p vl s j w) (hk : Keeps No w w') : JL w0 R d v p vl s j w' :=
  ⟨h.1.keepNo hk, h.2.1, h.2.2.then_ hk⟩
theorem JL.to {w0 w w' : World} {R : Blocks} {d p p' : Nat} {v vl v' vl' : Value} {s s' : Wn.Dsk} {j j' : Wn.Jrn} (h : JL w0 R d v p vl s j w) (h1 : JS R w' d v' p' vl' s' j') (h2 : Keeps (JB d v p vl) w w') (h3 : ∀ k, JB d v' p' vl' k → JB d v p vl k ∨ w.heap.size ≤ k) : JL w0 R d v' p' vl' s' j' w' := by
  obtain ⟨g1, g2, g3⟩ := h
  refine ⟨h1, fun k hk => ?_, g3.trans h2 fun k hl hk => ?_⟩
  · rcases h3 k hk with h | h
    · exact g2 k h
    · exact Nat.le_trans g3.size h
  · have := g2 k hk; omega
theorem JL.op {w0 w w' : World} {R : Blocks} {d p : Nat} {v vl : Value} {s s' : Wn.Dsk} {j j' : Wn.Jrn} {r : Value} {e : Ending} (h : JL w0 R d v p vl s j w) (hp : JP R d v p vl r s' j' w e w') : e = .returned r ∧ ∃ v' vl', JL w0 R d v' p vl' s' j' w' ∧ St (U (JB d v p vl) R) (U (JB d v' p vl') R) w w' := by
  obtain ⟨he, v', vl', h1, h2, h3⟩ := hp
  refine ⟨he, v', vl', h.to h1 h2 h3, h2.mono fun _ _ hk => .inl hk, fun k hk => ?_⟩
  rcases hk with hk | hk
  · exact (h3 k hk).imp .inl id
  · exact .inl (.inr hk)
theorem JL.disk {w0 w w' : World} {R : Blocks} {d p : Nat} {v vl : Value} {s s' : Wn.Dsk} {j : Wn.Jrn} (h : JL w0 R d v p vl s j w) (hd : DK d v s' w w') : ∃ v', JL w0 R d v' p vl s' j w' ∧ St (U (JB d v p vl) R) (U (JB d v' p vl) R) w w' := by
  obtain ⟨v', h1, h2, h3⟩ := h.1.disk hd
  refine ⟨v', h.to h1 (h2.mono fun _ _ hk => .inl hk) h3, h2.mono fun _ _ hk => .inl (.inl hk), fun k hk => ?_⟩
  rcases hk with hk | hk
  · exact (h3 k hk).imp .inl id
  · exact .inl (.inr hk)
/-- Opened anew: the elder journal is let go. -/
theorem JL.open_ {w0 w w' : World} {R : Blocks} {d p : Nat} {v vl : Value} {s s' : Wn.Dsk} {j j' : Wn.Jrn} {e : Ending} (h : JL w0 R d v p vl s j w) (hp : PJOpen R d v s' j' w e w') :
    ∃ p', e = .returned (.tuple #[.pointer (some ⟨p', 0, none⟩), .int .i64 0]) ∧ ∃ v' vl', JL w0 R d v' p' vl' s' j' w' ∧ St (U (JB d v p vl) R) (U (JB d v' p' vl') R) w w' := by
  obtain ⟨p', he, v', vl', h1, h2, h3⟩ := hp
  have h2' : Keeps (JB d v p vl) w w' := h2.mono fun _ _ hk => .inl hk
  have h3' : ∀ k, JB d v' p' vl' k → JB d v p vl k ∨ w.heap.size ≤ k := fun k hk => (h3 k hk).imp .inl id
  refine ⟨p', he, v', vl', h.to h1 h2' h3', h2.mono fun _ _ hk => .inl (.inl hk), fun k hk => ?_⟩
  rcases hk with hk | hk
  · exact (h3' k hk).imp .inl id
  · exact .inl (.inr hk)
/-- The first journal on a new disk. -/
theorem JL.first {w0 w w' : World} {R : Blocks} {d : Nat} {v : Value} {s' : Wn.Dsk} {j' : Wn.Jrn} {e : Ending} (hk : Keeps No w0 w) (hf : ∀ k, Foot d v k → w0.heap.size ≤ k) (hp : PJOpen R d v s' j' w e w') :
    ∃ p', e = .returned (.tuple #[.pointer (some ⟨p', 0, none⟩), .int .i64 0]) ∧ ∃ v' vl', JL w0 R d v' p' vl' s' j' w' ∧ St (U (Foot d v) R) (U (JB d v' p' vl') R) w w' := by
  obtain ⟨p', he, v', vl', h1, h2, h3⟩ := hp
  refine ⟨p', he, v', vl', ⟨h1, fun k hk' => ?_, hk.trans h2 fun k hl hk' => ?_⟩, h2.mono fun _ _ hk => .inl hk, fun k hk' => ?_⟩
  · rcases h3 k hk' with h | h
    · exact hf k h
    · exact Nat.le_trans hk.size h
  · have := hf k hk'; omega
  · rcases hk' with hk' | hk'
    · exact (h3 k hk').imp .inl id
    · exact .inl (.inr hk')
theorem jopen_JF {s : Wn.Dsk} {j : Wn.Jrn} {m : Nat} (h : Wn.JF s j m) (hs : Wn.Sm j.l) : (Wn.jOpen s).1 = { l := j.l, broken := false } := by
  obtain ⟨h1, h2, h3, h4, h5⟩ := h
  rw [Wn.jOpen_eq s h1, h4, Wn.jRead_all _ hs]

set_option maxRecDepth 100000 in
set_option maxHeartbeats 4000000 in
theorem awake28_any (w : World) : Calls Try.prog 23 #[] w (PTrue w) := by
  have kc := const_conv
  have m1 : (1 : Nat) ≤ maxLen := by unfold maxLen; omega
  have hjf0 := Wn.JF.new 100
  have hjl0 : (Wn.jOpen (Wn.dNew 100)).1.l = [] := by rfl
  have hdd : (Wn.dNew 100).down = false := rfl
  have hfr := Wn.mk_length [97, 98]
  have hvl := Wn.vb_len3 (n := ([97, 98] : List UInt8).length) (by decide)
  have hjf1 := hjf0.add [97, 98] (by rw [hjl0, hfr]; simp only [Wn.jAll, List.map_nil, List.flatten_nil, List.length_nil, List.length_cons] at *; omega)
  have hjl1 : ((Wn.jOpen (Wn.dNew 100)).1.l ++ [[97, 98]]) = [[97, 98]] := by rw [hjl0]; rfl
  obtain ⟨hj1, hj2, hj3⟩ := hjf1
  rw [hjl1] at hj2
  have hjo := jopen_JF hj3 (by rw [hj2]; intro x hx; simp at hx; subst hx; decide)
  rw [hj2] at hjo
  have hs1d := hj3.1
  have hl0 : (Wn.jOpen (Wn.dNew 100)).1.l.length ≤ 1048576 := by rw [hjl0]; decide
  have H := hid (show _ ∧ _ ∧ _ from ⟨hj1, hjo, hs1d⟩)
  clear hjf0 hjl0 hfr hvl hjl1 hj1 hj2 hj3 hjo hs1d
  have hl0' := hid hl0
  clear hl0
  go_enter Try.func23, Try.ntmps23
  go_wp2_with fail
  refine (dnew_any 100 _ (by omega)).mono ?_
  rintro e w1 ⟨p, rfl, hp, hd1, hk1⟩
  have hf1 : ∀ k, Foot p (.slice none 0 0) k → w.heap.size ≤ k := by
    rintro k (rfl | hk)
    · omega
    · cases hk
  clear hp
  go_wp2_with fail
  refine (jopen_any No p _ _ _ hd1 hdd (fun _ hk => hk.elim)).mono ?_
  intro e w2 hpo
  obtain ⟨pj, rfl, v2, vl2, hjl2, -⟩ := JL.first hk1 hf1 hpo
  clear hpo hd1 hk1 hf1 hdd
  generalize (Wn.jOpen (Wn.dNew 100)).1 = j0 at *
  generalize (Wn.jOpen (Wn.dNew 100)).2 = s0 at *
  have hlt2 := hjl2.1.lt
  have hal : ∀ o1 o2 o3, Keeps No w2 (((w2.alloc o1).alloc o2).alloc o3) := fun _ _ _ => (((Keeps.refl _ _).alloc _).alloc _).alloc _
  have Hal := hid hal
  clear hal
  go_wp2_with fail
  clear kc
  have hadd := fun pv W hW hx => jadd_any No p v2 pj vl2 s0 j0 pv [[97], [98]] W hW hx (by decide) (fun _ hk => hk.elim) hl0'.out
  have hfl : ([[97], [98]] : List (List UInt8)).flatten = [97, 98] := by rfl
  rw [hfl] at hadd
  have hjl3 := fun o1 o2 o3 => hjl2.keepNo (Hal.out o1 o2 o3)
  refine (hadd _ _ (hjl3 _ _ _).1 ?_).mono ?_
  · refine SL.mono (M := Old w2) ?_ (fun k _ hk => hlt2 k hk)
    refine SL.of_all ((SV.newAt _ _ _ _ _ 2 2 _ (by simp) rfl (by omega) (by unfold maxLen; omega) rfl).mono fun k _ hk => by unfold Old at *; simp; omega) ⟨?_, ?_, trivial⟩
    · exact SV.alloc (SV.alloc (SB.lit w2 _ _ _ _ [97] rfl m1 rfl) _) _
    · exact SV.alloc ((SB.lit _ _ _ _ _ [98] (by simp) m1 rfl).mono fun k _ hk => by unfold Old at *; simp; omega) _
  intro e w4 hjp
  obtain ⟨rfl, v4, vl4, hjl4, -⟩ := (hjl3 _ _ _).op hjp
  clear hjp hadd hfl hjl2 hjl3 hlt2 Hal
  obtain ⟨hj1, hjo, hs1d⟩ := H.out
  generalize Wn.jAdd j0 s0 [97, 98] = q at *
  obtain ⟨x1, j1, s1⟩ := q
  simp only at hj1 hjo hs1d hjl4
  subst hj1
  have Hjo := hid hjo
  have Hs1 := hid hs1d
  clear hjo hs1d H
  go_wp2_with fail
  refine (jopen_any No p _ _ _ hjl4.1.1 Hs1.out (fun _ hk => hk.elim)).mono ?_
  intro e w5 hpo
  obtain ⟨pk, rfl, v5, vl5, hjl5, -⟩ := hjl4.open_ hpo
  clear hpo hjl4
  rw [Hjo.out] at hjl5
  generalize (Wn.jOpen s1).2 = s5 at *
  have hlen := jlen_any 84 _ pk p vl5 _ w5 hjl5.1.2
  have hrec := jrecs_any 84 _ pk p vl5 _ w5 hjl5.1.2 (by intro x hx; simp at hx; subst hx; decide) (by decide)
  have Hlen := hid hlen
  have Hrec := hid hrec
  have hk5 := hjl5.2.2
  clear hlen hrec
  go_wp2_with fail
  refine Hlen.out.mono ?_
  rintro e w6 ⟨rfl, rfl⟩
  go_wp2_with fail
  refine Hrec.out.mono ?_
  rintro e w7 ⟨a7, c7, rfl, hsl7, hk7⟩
  have hjl7 := hjl5.keepNo hk7
  have hrec2 := jrecs_any 84 _ pk p vl5 _ w7 hjl7.1.2 (by intro x hx; simp at hx; subst hx; decide) (by decide)
  have Hrec2 := hid hrec2
  clear hsl7 hrec2
  go_wp2_with fail
  refine Hrec2.out.mono ?_
  rintro e w8 ⟨a8, c8, rfl, hsl8, hk8⟩
  obtain ⟨b8, o8, rfl, -, hat8⟩ := hsl8.at_ (by decide)
  obtain ⟨u8, hc8, hb8⟩ := hat8 0 [97, 98] rfl
  obtain ⟨a9, n9, c9, rfl, hn9, -, -⟩ := hb8.opened
  have hstr := sb_string hb8 (by decide)
  rw [Nat.add_zero] at hc8
  clear hat8 hsl8 hb8 hn9 hjl7 hjl5
  go_wp2_with fail
  go_ret
  exact ⟨rfl, hk5.then_ (hk7.then_ hk8)⟩
end Go.Proofs.Ytkblcdjkabiliaa
