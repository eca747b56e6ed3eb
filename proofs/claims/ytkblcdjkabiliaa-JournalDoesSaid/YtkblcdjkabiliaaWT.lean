/- The walks through law 27's awake and long. -/
import Derived.Test.YtkblcdjkabiliaaWS
import Derived.Test.YtkblcdjkabiliaaMemD
import Derived.Laws.IdiomStrings
namespace Go.Proofs.Ytkblcdjkabiliaa
open Go.RowKit Wm

set_option maxRecDepth 20000 in
set_option maxHeartbeats 2000000 in
theorem long27_any (M : Blocks) (v : Value) (l : List DoS) (w : World) (h : SD M w v l) :
    Calls Try.prog 39 #[v] w fun e w' => (∃ r, e = .returned (.bool r) ∧ (r = false → l.length ≤ 60 ∧ ∀ x ∈ l, x.b.length ≤ 300)) ∧ Keeps No w w' := by
  obtain ⟨a, n, c, rfl, hn, hnc, hcm⟩ := h.opened
  unfold maxLen at hcm
  have Hn := hid hn
  clear hn
  by_cases h60 : n ≤ 60
  · go_enter Try.func39, Try.ntmps39
    go_wp2
    go_loopw [10] (fun i wr => ∃ k : Nat, k ≤ n ∧ i = .int .i64 k ∧ (∀ j x, j < k → l[j]? = some x → x.b.length ≤ 300) ∧ Keeps No w wr) (fun i _ => n - (intOf i).toNat)
    case atStart => exact ⟨0, Nat.zero_le _, rfl, fun j x h => by omega, Keeps.refl _ _⟩
    case round =>
      obtain ⟨k, hk, rfl, hall, hK⟩ := hrel
      have Hall := hid hall
      clear hall
      by_cases hlt : k < n
      · have h' := h.shift hK (M' := M) (fun _ _ hk => hk.elim) (fun _ _ hk => hk)
        obtain ⟨b, off, rfl, _, hat⟩ := h'.at_ (by omega)
        have hkl : k < l.length := by have := Hn.out; omega
        obtain ⟨hd0, hd1, hd2, u, hd3, hub⟩ := hat k l[k] (List.getElem?_eq_getElem hkl)
        obtain ⟨a2, n2, c2, rfl, hn2, hnc2, hcm2⟩ := hub.opened
        unfold maxLen at hcm2
        clear hat
        have Hn2 := hid hn2
        have hx : l[k]? = some l[k] := List.getElem?_eq_getElem hkl
        have Hx := hid hx
        clear hn2 hx
        generalize l[k] = y at *
        by_cases h300 : n2 ≤ 300
        · go_wp2_with fail
          go_roundw
          case rel =>
            refine ⟨k + 1, by omega, by go_num, fun j x hj hx => ?_, hK.alloc _⟩
            rcases Nat.lt_succ_iff_lt_or_eq.1 hj with h1 | rfl
            · exact Hall.out j x h1 hx
            · have e := Hx.out
              rw [hx] at e; injection e with e; subst e
              have := Hn2.out; omega
          case measure => simp [intOf]; omega
        · go_wp2_with fail
          go_ret
          exact ⟨⟨true, rfl, fun h => by cases h⟩, hK.alloc _⟩
      · go_wp2_with fail
        go_ret
        refine ⟨⟨false, rfl, fun _ => ⟨by have := Hn.out; omega, fun x hx => ?_⟩⟩, hK⟩
        obtain ⟨j, hj, rfl⟩ := List.getElem_of_mem hx
        exact Hall.out j _ (by have := Hn.out; omega) (List.getElem?_eq_getElem hj)
  · go_enter Try.func39, Try.ntmps39
    go_wp2
    go_ret
    exact ⟨⟨true, rfl, fun h => by cases h⟩, Keeps.refl _ _⟩

/-- A disk made since w0, and nothing of w0 has turned. -/
def DL (w0 : World) (p : Nat) (s : Wn.Dsk) (w : World) : Prop := ∃ v, DiskAt w p v s ∧ (∀ k, Foot p v k → w0.heap.size ≤ k) ∧ Keeps No w0 w
theorem DL.step {w0 w w' : World} {p : Nat} {s' : Wn.Dsk} {v : Value} (hf : ∀ k, Foot p v k → w0.heap.size ≤ k) (hk : Keeps No w0 w) (h : DK p v s' w w') : DL w0 p s' w' := by
  obtain ⟨v', h1, h2, h3⟩ := h
  refine ⟨v', h1, fun k hk' => ?_, hk.trans h2 fun k hl hk' => ?_⟩
  · rcases h3 k hk' with h | h
    · exact hf k h
    · exact Nat.le_trans hk.size h
  · have := hf k hk'; omega
theorem DL.keep {w0 w w' : World} {p : Nat} {s : Wn.Dsk} (h : DL w0 p s w) (hk : Keeps No w w') : DL w0 p s w' := by
  obtain ⟨v, h1, h2, h3⟩ := h
  exact ⟨v, h1.keep hk fun _ _ hk => hk, h2, h3.then_ hk⟩
theorem DL.alloc {w0 w : World} {p : Nat} {s : Wn.Dsk} (h : DL w0 p s w) (o : Obj) : DL w0 p s (w.alloc o) := h.keep ((Keeps.refl _ _).alloc o)
theorem DL.drewN {w0 w : World} {p : Nat} {s : Wn.Dsk} (h : DL w0 p s w) (n : Nat) : DL w0 p s (w.drewN n) := h.keep ((Keeps.refl _ _).drewN n)
theorem DL.new {w0 w w' : World} {p n : Nat} (hk0 : Keeps No w0 w) (hp : w.heap.size = p) (hd : DiskAt w' p (.slice none 0 0) (Wn.dNew n)) (hk : Keeps No w w') : DL w0 p (Wn.dNew n) w' := by
  refine ⟨_, hd, ?_, hk0.then_ hk⟩
  rintro k (rfl | hk)
  · rw [← hp]; exact hk0.size
  · cases hk

theorem add_off' {b off : Nat} (j : Nat) : ((⟨b, off, none⟩ : Addr).add j) = ⟨b, off + j, none⟩ := by
  unfold Addr.add
  by_cases hj : j = 0 <;> simp [hj]
theorem sb_string {M : Blocks} {w : World} {a : Option Addr} {n c : Nat} {l : List UInt8} (h : SB M w (.slice a n c) l) (hl : 0 < l.length) :
    (convert 24 9 (.slice a n c)).run Try.prog w = .ok (.string ⟨l.toArray⟩) w := by
  have hn := h.len
  subst hn
  obtain ⟨b, off, rfl, _, hat⟩ := h.at_ hl
  refine run_convert_bytes_back w 24 9 5 ⟨b, off, none⟩ c l Try.underlying24 Try.underlying5 Try.underlying9 fun j hj => ?_
  rw [add_off']
  exact hat j l[j] (List.getElem?_eq_getElem hj)

set_option maxRecDepth 20000 in
set_option maxHeartbeats 2000000 in
theorem awake27_any (w : World) : Calls Try.prog 38 #[] w (PTrue w) := by
  have kc := const_conv
  have m1 : (1 : Nat) ≤ maxLen := by unfold maxLen; omega
  have m2 : (2 : Nat) ≤ maxLen := by unfold maxLen; omega
  have hs1 : Wn.dPut (Wn.dArm (Wn.dNew 9) 0 2) ([[97, 98], [99]] : List (List UInt8)).flatten = (42, { b := [97, 98, 99], size := 9, sure := 0, down := true, armed := true, ops := 0, keep := 2 }) := by rfl
  have hs2 : Wn.dUp { b := [97, 98, 99], size := 9, sure := 0, down := true, armed := true, ops := 0, keep := 2 } = { b := [97, 98], size := 9, sure := 2, down := false, armed := false, ops := 0, keep := 2 } := by rfl
  have Hs1 := hid hs1
  have Hs2 := hid hs2
  clear hs1 hs2
  go_enter Try.func38, Try.ntmps38
  go_wp2_with fail
  refine (dnew_any 9 _ (by omega)).mono ?_
  rintro e w1 ⟨p, rfl, hp, hd1, hk1⟩
  have hL1 := DL.new (Keeps.refl _ _) hp hd1 hk1
  clear hp hd1 hk1
  obtain ⟨v1, hd1, hf1, hk1⟩ := hL1
  go_wp2_with fail
  refine (darm_any p _ _ 0 2 _ hd1 (by omega)).mono ?_
  rintro e w2 ⟨rfl, hdk⟩
  have hL2 := DL.step hf1 hk1 hdk
  clear hdk hd1 hf1 hk1
  go_wp2_with fail
  clear kc
  obtain ⟨v2, hd2, hf2, hk2⟩ := hL2
  have hlt2 := hd2.lt
  have hal : ∀ o1 o2 o3, Keeps No w2 (((w2.alloc o1).alloc o2).alloc o3) := fun _ _ _ => (((Keeps.refl _ _).alloc _).alloc _).alloc _
  refine (dput_any p v2 _ _ [[97, 98], [99]] _ (hd2.keep (hal _ _ _) fun _ _ hk => hk) ?_).mono ?_
  · refine SL.mono (M := Old w2) ?_ (fun k _ hk => hlt2 k hk)
    refine SL.of_all ((SV.newAt _ _ _ _ _ 2 2 _ (by simp) rfl (by omega) (by unfold maxLen; omega) rfl).mono fun k _ hk => by unfold Old at *; simp; omega) ⟨?_, ?_, trivial⟩
    · exact SV.alloc (SV.alloc (SB.lit w2 _ _ _ _ [97, 98] rfl m2 rfl) _) _
    · exact SV.alloc ((SB.lit _ _ _ _ _ [99] (by simp) m1 rfl).mono fun k _ hk => by unfold Old at *; simp; omega) _
  rintro e w4 ⟨rfl, hdk⟩
  rw [Hs1.out] at hdk
  rw [Hs1.out]
  have hL4 := DL.step hf2 (hk2.then_ (hal _ _ _)) hdk
  clear hdk hd2 hf2 hk2 hlt2 hal
  obtain ⟨v4, hd4, hf4, hk4⟩ := hL4
  go_wp2_with fail
  refine (dup_any p _ _ _ hd4).mono ?_
  rintro e w5 ⟨rfl, hdk⟩
  rw [Hs2.out] at hdk
  have hL5 := DL.step hf4 hk4 hdk
  clear hdk hd4 hf4 hk4
  obtain ⟨v5, hd5, hf5, hk5⟩ := hL5
  go_wp2_with fail
  refine (dbytes_any p _ _ _ hd5).mono ?_
  rintro e w6 (⟨h, -⟩ | ⟨-, a6, r6, c6, rfl, hown6, hk6⟩)
  · cases h
  have hL6 := (show DL w p _ w5 from ⟨v5, hd5, hf5, hk5⟩).keep hk6
  clear hd5 hf5 hk5
  have hb6 := SV.of_own (M := No) hown6 (fun _ _ hk => hk)
  obtain ⟨v7, hd7, hf7, hk7⟩ := hL6
  have hstr := sb_string hb6 (by decide)
  have hdn := ddown_any p v7 _ _ hd7
  have Hdn := hid hdn
  clear hdn hown6 hb6 hk6
  go_wp2_with fail
  refine Hdn.out.mono ?_
  rintro e w8 ⟨rfl, rfl⟩
  go_wp2_with fail
  go_ret
  exact ⟨rfl, hk7⟩
end Go.Proofs.Ytkblcdjkabiliaa
