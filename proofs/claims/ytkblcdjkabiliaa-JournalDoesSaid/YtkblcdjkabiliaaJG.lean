/- JournalKeeps: the doing at hand, the records in a row of their own, what is kept beside the journal. -/
import Derived.Test.YtkblcdjkabiliaaJF
namespace Go.Proofs.Ytkblcdjkabiliaa
open Go.RowKit Wm

/-- The doing at hand, in a block of its own (law 28's). -/
def DX8 (M : Blocks) (g : Nat) (y : DoS) (u : Value) (w : World) : Prop :=
  w.heap[g]? = some (.cells #[.int .i64 y.kind, .int .i64 y.n, .int .i64 y.keep, u] 52 (0, 0)) ∧ SB M w u y.b ∧ ¬ M g
theorem DX8.step {M M' : Blocks} {w w' : World} {g : Nat} {y : DoS} {u : Value} (h : DX8 M g y u w) (hs : St M M' w w') : DX8 M' g y u w' := by
  obtain ⟨h1, h2⟩ := hs.block h.1 h.2.2
  exact ⟨h1, hs.sb h.2.1, h2⟩
theorem DX8.cells {M : Blocks} {w : World} {g : Nat} {y : DoS} {u : Value} (h : DX8 M g y u w) :
    w.cell? ⟨g, 0, none⟩ = some (.int .i64 y.kind) ∧ w.cell? ⟨g, 1, none⟩ = some (.int .i64 y.n) ∧ w.cell? ⟨g, 2, none⟩ = some (.int .i64 y.keep) ∧ w.cell? ⟨g, 3, none⟩ = some u := by
  obtain ⟨h1, _⟩ := h
  have hc : ∀ i, w.cell? ⟨g, i, none⟩ = _ := fun i => cell_of_row _ _ i _ _ _ h1
  exact ⟨by rw [hc]; rfl, by rw [hc]; rfl, by rw [hc]; rfl, by rw [hc]; rfl⟩
theorem DX8.new {M : Blocks} {w : World} {y : DoS} {u : Value} (hM : ∀ k, M k → k < w.heap.size) (hu : SB M w u y.b) :
    DX8 M w.heap.size y u (w.alloc (.cells #[.int .i64 y.kind, .int .i64 y.n, .int .i64 y.keep, u] 52)) := by
  refine ⟨heap_alloc_new w _, SV.alloc hu _, fun hk => ?_⟩
  have := hM _ hk
  omega
/-- The bytes of the doing at hand as the parts of a call. -/
theorem one_part {M : Blocks} {w : World} {u : Value} {x : List UInt8} (hM : ∀ k, M k → k < w.heap.size) (hu : SB M w u x) (g : Nat) (hg : w.heap.size = g) : SL M (w.alloc (.cells #[u] 24)) (.slice (some ⟨g, 0, none⟩) 1 1) [x] :=
  SL.of_all ((SV.newAt w g _ _ _ 1 1 _ hg rfl (by omega) (by unfold maxLen; omega) rfl).mono fun k' _ hk' => hM k' hk') ⟨SV.alloc hu _, trivial⟩

/-- The block of a row. -/
def Ow (v : Value) : Blocks := fun g => v.ownBlock = some g
/-- The records, in a row of the callee's own. -/
def PRecs2 (ls : List (List UInt8)) (w : World) (e : Ending) (w' : World) : Prop :=
  ∃ a c us, e = .returned (.slice a ls.length c) ∧ w'.ownsRow w.heap.size 24 1 (.slice a ls.length c) ls.length us ∧ SLV (U (Old w) (Ow (.slice a ls.length c))) w' us ls ∧ Keeps No w w'
set_option maxRecDepth 20000 in
set_option maxHeartbeats 2000000 in
theorem jrecs2_any (T : TypeId) (M : Blocks) (p d : Nat) (v : Value) (j : Wn.Jrn) (w : World) (h : JnlAt T M w p d v j) (hsz : ∀ x ∈ j.l, x.length ≤ 16777216) (hjl : j.l.length ≤ 1048576) :
    Calls Try.prog 35 #[.pointer (some ⟨p, 0, none⟩)] w (PRecs2 j.l w) := by
  obtain ⟨i0, hi, hz0, hz1, hz2⟩ := info_parts info24
  have hsl := h.sl
  obtain ⟨a, n, c, us, rfl, hn, hnc, hcm, hp, hf, hc0, hc1, hc2, ho, hs, hh⟩ := h.facts
  unfold maxLen at hcm
  have hnb : n ≤ 1048576 := by omega
  have Hn := hid hn
  have Hsz := hid hsz
  clear hn hf hc0 hc2 ho hs hh hsz hjl
  go_enter Try.func35, Try.ntmps35
  go_wp2_with fail
  go_loopw [3, 13] (fun u i wr => ∃ (k : Nat) (a' : Option Addr) (c' : Nat) (us : List Value), k ≤ n ∧ i = .int .i64 k ∧ u = .slice a' k c' ∧ wr.ownsRow w.heap.size 24 1 (.slice a' k c') k us ∧
    SLV (U (Old w) (fun g => (Value.slice a' k c').ownBlock = some g)) wr us (j.l.take k) ∧ Keeps No w wr) (fun _ i _ => n - (intOf i).toNat)
  case atStart => exact ⟨0, none, 0, [], Nat.zero_le _, rfl, rfl, World.ownsRow_nil _ _ _ _, by simpa using SLV.nil _ _, Keeps.refl _ _⟩
  case round =>
    obtain ⟨k, a', c', us, hk, rfl, rfl, ho, hs, hK⟩ := hrel
    have hKs := hK.size
    by_cases hlt : k < n
    · have h2 := hsl.keep hK fun _ _ hk => hk.elim
      obtain ⟨b, off, rfl, _, hat⟩ := h2.at_ (by omega)
      have hkl : k < j.l.length := by have := Hn.out; omega
      obtain ⟨u, hcell, hub⟩ := hat k j.l[k] (List.getElem?_eq_getElem hkl)
      clear hat
      obtain ⟨a2, n2, c2, rfl, hn2, hnc2, hcm2⟩ := hub.opened
      have hst := List.take_succ_eq_append_getElem hkl
      have hxl := Hsz.out j.l[k] (List.getElem_mem hkl)
      have Hst := hid hst
      clear hst hn2
      generalize j.l[k] = x at *
      go_wp2_with fail
      refine (clone_any No _ _ _ hub hxl).mono ?_
      rintro e w4 ⟨a4, r4, c4, rfl, hown4, hk4⟩
      have ho4 := ownsRow_keep ho hk4 fun _ _ hk => hk
      have hu4 : SB (Old wr) w4 (.slice a4 r4 c4) x := SV.fresh hown4 (Nat.le_refl _)
      have hks4 := hk4.size
      have Hu4 := hid hu4
      have Hs := hid hs
      clear hown4 hu4 hs
      go_wp2_with (at_builtin; refine hold ?_)
      unfold Held
      refine wpList_app _ rfl (.tmp 17) (.tmp 20) _ rfl w.heap.size 24 i0 _ 24 Try.underlying22 hi hz0 hz1 hz2 rfl _ k us rfl (World.ownsRow.alloc ho4 _) No _ [.slice a4 r4 c4] rfl (SV.no (SV.newAt w4 w4.heap.size _ _ _ 1 1 _ rfl rfl (by omega) (by unfold maxLen; omega) rfl)) (one_cell rfl) (k + 1) rfl (by unfold maxLen; omega) (by omega) (by simp; omega) ?_
      intro a6 c6 w6 hown6 hg6 hb6
      have hs6 : SLV (U (Old w) (fun g => (Value.slice a6 (k + 1) c6).ownBlock = some g)) w6 (us ++ [.slice a4 r4 c4]) (j.l.take (k + 1)) := by
        rw [Hst.out]
        have hka : Keeps No w4 (w4.alloc (.cells #[.slice a4 r4 c4] 24)) := (Keeps.refl _ _).alloc _
        have hK6 : Keeps (fun g => (Value.slice a' k c').ownBlock = some g) (w4.alloc (.cells #[.slice a4 r4 c4] 24)) w6 := Keeps.of_grown hg6 fun g e => e
        have hfr : ∀ g, (Value.slice a6 (k + 1) c6).ownBlock = some g → (Value.slice a' k c').ownBlock = some g ∨ w4.heap.size + 1 ≤ g := by
          intro g e
          rcases hb6 with hb | hb
          · exact .inl (hb ▸ e)
          · rw [hb] at e; injection e with e; right; rw [← e]; simp
        refine SLV.snoc ?_ ?_
        · have h1 := (Hs.out.shift (M' := U (Old w) (fun g => (Value.slice a' k c').ownBlock = some g)) (hk4.then_ hka) (fun _ _ hk => hk.elim) fun _ _ hk => hk)
          refine h1.shift hK6 (fun g _ hg => .inr hg) fun g hl hg => ?_
          rcases hg with hg | hg
          · exact .inl hg
          · rcases hfr g hg with h | h
            · exact .inr h
            · simp at hl; omega
        · have h1 : SB (U (Old w) (fun g => (Value.slice a' k c').ownBlock = some g)) (w4.alloc (.cells #[.slice a4 r4 c4] 24)) (.slice a4 r4 c4) x := SV.alloc (SV.mono Hu4.out fun g _ hg => by
            unfold Old at *
            rcases hg with hg | hg
            · omega
            · exact (ho.lt g hg).2) _
          refine sv_shift h1 hK6 (fun g _ hg => .inr hg) fun g hl hg => ?_
          rcases hg with hg | hg
          · exact .inl hg
          · rcases hfr g hg with h | h
            · exact .inr h
            · simp at hl; omega
      have Hs6 := hid hs6
      clear hs6
      go_wp2_with fail
      go_roundw
      case rel => exact ⟨k + 1, a6, c6, _, by omega, by go_num, rfl, hown6, Hs6.out, (((hK.then_ hk4).alloc _)).app (World.ownsRow.alloc ho4 _) (Nat.le_refl _) hg6⟩
      case measure => simp [intOf]; omega
    · have hall : j.l.take k = j.l := List.take_of_length_le (by have := Hn.out; omega)
      have hkn : k = j.l.length := by have := Hn.out; omega
      rw [hall] at hs
      subst hkn
      have Hs := hid hs
      clear hs hall
      go_wp2_with fail
      go_ret
      exact ⟨a', c', us, rfl, ownsRow_base ho (fun g hg => (ho.lt g hg).1), Hs.out, hK⟩

theorem jAll_ge (ls : List (List UInt8)) (h : Wn.Sm ls) : 5 * ls.length ≤ (Wn.jAll ls).length := by
  induction ls with
  | nil => simp
  | cons x ls ih =>
    have hx := mk_bd (h x (by simp))
    have hi := ih fun y hy => h y (by simp [hy])
    rw [Wn.jAll_cons, List.length_append, List.length_cons]
    omega
theorem JK_len {s : Wn.Dsk} {j : Wn.Jrn} {be : Bool} {torn : List UInt8} (h : Wn.JK s j be torn) (hw : s.wf) : j.l.length ≤ 1048576 ∧ ∀ x ∈ j.l, x.length ≤ 16777216 := by
  obtain ⟨h1, h2, h3, h4⟩ := h
  have hg := jAll_ge _ h1
  refine ⟨?_, fun x hx => by have := h1 x hx; omega⟩
  unfold Wn.Dsk.wf at hw
  cases hd : s.down with
  | false =>
    have := (h2 hd).2
    rw [this] at hw; omega
  | true =>
    have := (h3 hd).2.2.2.1
    rw [this, List.length_append] at hw; omega

/-- The journal made since w0; beside it records in a row vs of the law's own, and bytes vt. -/
def KJ (w0 : World) (d : Nat) (v : Value) (p : Nat) (vl : Value) (s : Wn.Dsk) (j : Wn.Jrn) (vs : Value) (us : List Value) (sl : List (List UInt8)) (vt : Value) (torn : List UInt8) (w : World) : Prop :=
  JL w0 (Ow vs) d v p vl s j w ∧ w.ownsRow 0 24 1 vs sl.length us ∧ SLV (U (JB d v p vl) (Ow vs)) w us sl ∧ (∀ g, Ow vs g → ¬ JB d v p vl g ∧ w0.heap.size ≤ g) ∧ SB (U (JB d v p vl) (Ow vs)) w vt torn
theorem KJ.lt {w0 w : World} {d p : Nat} {v vl vs vt : Value} {s : Wn.Dsk} {j : Wn.Jrn} {us : List Value} {sl : List (List UInt8)} {torn : List UInt8} (h : KJ w0 d v p vl s j vs us sl vt torn w) : ∀ k, U (JB d v p vl) (Ow vs) k → k < w.heap.size ∧ w0.heap.size ≤ k := by
  rintro k (hk | hk)
  · exact ⟨h.1.1.lt k hk, h.1.2.1 k hk⟩
  · exact ⟨(h.2.1.lt k hk).2, (h.2.2.2.1 k hk).2⟩
theorem KJ.to {w0 w w' : World} {d p p' : Nat} {v vl v' vl' vs vt : Value} {s s' : Wn.Dsk} {j j' : Wn.Jrn} {us : List Value} {sl : List (List UInt8)} {torn : List UInt8} (h : KJ w0 d v p vl s j vs us sl vt torn w)
    (h1 : JS (Ow vs) w' d v' p' vl' s' j') (h2 : Keeps (JB d v p vl) w w') (h3 : ∀ k, JB d v' p' vl' k → JB d v p vl k ∨ w.heap.size ≤ k) :
    KJ w0 d v' p' vl' s' j' vs us sl vt torn w' ∧ St (U (JB d v p vl) (Ow vs)) (U (JB d v' p' vl') (Ow vs)) w w' := by
  obtain ⟨g1, g2, g3, g4, g5⟩ := h
  have hst : St (U (JB d v p vl) (Ow vs)) (U (JB d v' p' vl') (Ow vs)) w w' := ⟨h2.mono fun _ _ hk => .inl hk, fun k hk => hk.elim (fun hk => (h3 k hk).imp .inl id) fun hk => .inl (.inr hk)⟩
  refine ⟨⟨g1.to h1 h2 h3, ownsRow_keep g2 h2 fun g hg => (g4 g hg).1, g3.shift hst.keeps (fun _ _ hk => hk) (fun k hl hk => (hst.fresh k hk).elim id fun h => by omega), fun g hg => ⟨fun hk => ?_, (g4 g hg).2⟩, hst.sb g5⟩, hst⟩
  rcases h3 g hk with h | h
  · exact (g4 g hg).1 h
  · have := (g2.lt g hg).2; omega
theorem KJ.keepNo {w0 w w' : World} {d p : Nat} {v vl vs vt : Value} {s : Wn.Dsk} {j : Wn.Jrn} {us : List Value} {sl : List (List UInt8)} {torn : List UInt8} (h : KJ w0 d v p vl s j vs us sl vt torn w) (hk : Keeps No w w') : KJ w0 d v p vl s j vs us sl vt torn w' :=
  (h.to (h.1.1.keepNo hk) hk.weak fun _ hk => .inl hk).1
theorem KJ.disk {w0 w w' : World} {d p : Nat} {v vl vs vt : Value} {s s' : Wn.Dsk} {j : Wn.Jrn} {us : List Value} {sl : List (List UInt8)} {torn : List UInt8} (h : KJ w0 d v p vl s j vs us sl vt torn w) (hd : DK d v s' w w') :
    ∃ v', KJ w0 d v' p vl s' j vs us sl vt torn w' ∧ St (U (JB d v p vl) (Ow vs)) (U (JB d v' p vl) (Ow vs)) w w' := by
  obtain ⟨v', h1, h2, h3⟩ := h.1.1.disk hd
  exact ⟨v', h.to h1 (h2.mono fun _ _ hk => .inl hk) h3⟩
theorem KJ.op {w0 w w' : World} {d p : Nat} {v vl vs vt : Value} {s s' : Wn.Dsk} {j j' : Wn.Jrn} {us : List Value} {sl : List (List UInt8)} {torn : List UInt8} {r : Value} {e : Ending} (h : KJ w0 d v p vl s j vs us sl vt torn w) (hp : JP (Ow vs) d v p vl r s' j' w e w') :
    e = .returned r ∧ ∃ v' vl', KJ w0 d v' p vl' s' j' vs us sl vt torn w' ∧ St (U (JB d v p vl) (Ow vs)) (U (JB d v' p vl') (Ow vs)) w w' := by
  obtain ⟨he, v', vl', h1, h2, h3⟩ := hp
  exact ⟨he, v', vl', h.to h1 h2 h3⟩
theorem KJ.open_ {w0 w w' : World} {d p : Nat} {v vl vs vt : Value} {s s' : Wn.Dsk} {j j' : Wn.Jrn} {us : List Value} {sl : List (List UInt8)} {torn : List UInt8} {e : Ending} (h : KJ w0 d v p vl s j vs us sl vt torn w) (hp : PJOpen (Ow vs) d v s' j' w e w') :
    ∃ p', e = .returned (.tuple #[.pointer (some ⟨p', 0, none⟩), .int .i64 0]) ∧ ∃ v' vl', KJ w0 d v' p' vl' s' j' vs us sl vt torn w' := by
  obtain ⟨p', he, v', vl', h1, h2, h3⟩ := hp
  exact ⟨p', he, v', vl', (h.to h1 (h2.mono fun _ _ hk => .inl hk) fun k hk => (h3 k hk).imp .inl id).1⟩
/-- Other bytes are kept. -/
theorem KJ.torn_ {w0 w : World} {d p : Nat} {v vl vs vt vt' : Value} {s : Wn.Dsk} {j : Wn.Jrn} {us : List Value} {sl : List (List UInt8)} {torn torn' : List UInt8} (h : KJ w0 d v p vl s j vs us sl vt torn w) (ht : SB (U (JB d v p vl) (Ow vs)) w vt' torn') : KJ w0 d v p vl s j vs us sl vt' torn' w :=
  ⟨h.1, h.2.1, h.2.2.1, h.2.2.2.1, ht⟩
/-- A record more. -/
theorem KJ.push {w0 w w2 : World} {d p r n c c' : Nat} {a a' : Option Addr} {v vl vt u : Value} {s : Wn.Dsk} {j : Wn.Jrn} {us : List Value} {sl : List (List UInt8)} {torn x : List UInt8} {o : Obj} (h : KJ w0 d v p vl s j (.slice a n c) us sl vt torn w)
    (hu : SB (U (JB d v p vl) (Ow (.slice a n c))) w u x) (hr : r = sl.length + 1)
    (ho2 : w2.ownsRow 0 24 1 (.slice a' r c') r (us ++ [u])) (hg : (w.alloc o).grownBy w2 (Value.slice a n c).ownBlock)
    (hb : (Value.slice a' r c').ownBlock = (Value.slice a n c).ownBlock ∨ (Value.slice a' r c').ownBlock = some (w.alloc o).heap.size) :
    KJ w0 d v p vl s j (.slice a' r c') (us ++ [u]) (sl ++ [x]) vt torn w2 := by
  have hlt := h.lt
  obtain ⟨g1, g2, g3, g4, g5⟩ := h
  have hk : Keeps (Ow (.slice a n c)) w w2 := ((Keeps.refl (Ow (.slice a n c)) w).alloc o).grown hg fun g e _ => e
  have hfr : ∀ g, Ow (.slice a' r c') g → Ow (.slice a n c) g ∨ w.heap.size ≤ g := by
    intro g e
    unfold Ow at e ⊢
    rcases hb with hb | hb
    · exact .inl (hb ▸ e)
    · rw [hb] at e; injection e with e; right; rw [← e]; simp
  have hst : St (U (JB d v p vl) (Ow (.slice a n c))) (U (JB d v p vl) (Ow (.slice a' r c'))) w w2 := ⟨hk.mono fun _ _ hk => .inr hk, fun k hk => hk.elim (fun hk => .inl (.inl hk)) fun hk => (hfr k hk).imp .inr id⟩
  obtain ⟨j1, j2, j3⟩ := g1
  refine ⟨⟨j1.keep hk (fun k hk hf => (g4 k hf).1 hk) (fun _ _ hk => hk) (fun k hl hk => (hfr k hk).elim id fun h => by omega), j2, j3.trans hk fun k hl hf => by have := (g4 k hf).2; omega⟩, ?_, ?_, fun g hg => ?_, hst.sb g5⟩
  · rw [List.length_append, List.length_singleton, ← hr]; exact ho2
  · exact SLV.snoc (g3.shift hst.keeps (fun _ _ hk => hk) fun k hl hk => (hst.fresh k hk).elim id fun h => by omega) (hst.sb hu)
  · rcases hfr g hg with h | h
    · exact g4 g h
    · refine ⟨fun hk => ?_, Nat.le_trans j3.size h⟩
      have := j1.lt g hk; omega
/-- The records of the journal itself, read anew into a row of their own. -/
theorem KJ.anew {w0 w w' : World} {d p c : Nat} {a : Option Addr} {v vl vs vt : Value} {s : Wn.Dsk} {j : Wn.Jrn} {us us' : List Value} {sl : List (List UInt8)} {torn : List UInt8} (h : KJ w0 d v p vl s j vs us sl vt torn w)
    (ho : w'.ownsRow w.heap.size 24 1 (.slice a j.l.length c) j.l.length us') (hs : SLV (U (Old w) (Ow (.slice a j.l.length c))) w' us' j.l) (hk : Keeps No w w') :
    KJ w0 d v p vl s j (.slice a j.l.length c) us' j.l vt torn w' := by
  have hlt := h.lt
  have hsz := h.1.2.2.size
  obtain ⟨⟨j1, j2, j3⟩, g2, g3, g4, g5⟩ := h
  refine ⟨⟨j1.keep hk (fun _ _ hk => hk) (fun _ _ hk => hk.elim) (fun k hl hf => by have := (ho.lt k hf).1; omega), j2, j3.then_ hk⟩, ownsRow_base ho fun _ _ => Nat.zero_le _, hs.shift (Keeps.refl No _) (fun _ _ hk => hk.elim) (fun k _ hk' => hk'.imp (fun hk' => j1.lt k hk') id), fun g hg => ⟨fun hk' => ?_, Nat.le_trans hsz (ho.lt g hg).1⟩, ?_⟩
  · have h1 := (ho.lt g hg).1; have h2 := j1.lt g hk'; omega
  · refine sv_shift (M := U (JB d v p vl) (Ow vs)) g5 hk (fun _ _ hk => hk.elim) fun k hl hk' => ?_
    rcases hk' with hk' | hk'
    · exact .inl hk'
    · have := (ho.lt k hk').1; omega
end Go.Proofs.Ytkblcdjkabiliaa
