/- FrameChain: the law's walk. -/
import Derived.Test.YtkblcdjkabiliaaWL
namespace Go.Proofs.Ytkblcdjkabiliaa
open Go.RowKit Wm

/-- Frames, one behind the other. -/
def chain (ls : List (List UInt8)) : List UInt8 := (ls.map Wn.mkFrame).flatten
theorem chain_succ {ls : List (List UInt8)} {k : Nat} (hk : k < ls.length) : chain (ls.take (k + 1)) = chain (ls.take k) ++ Wn.mkFrame ls[k] := by
  unfold chain
  rw [List.take_succ_eq_append_getElem hk, List.map_append, List.flatten_append, List.map_singleton, List.flatten_singleton]
theorem chain_drop {ls : List (List UInt8)} {k : Nat} (hk : k < ls.length) : chain (ls.drop k) = Wn.mkFrame ls[k] ++ chain (ls.drop (k + 1)) := by
  unfold chain
  rw [List.drop_eq_getElem_cons hk, List.map_cons, List.flatten_cons]
theorem rdFrame_nil : Wn.rdFrame [] = ([], 0, 10) := by decide

set_option maxRecDepth 20000 in
set_option maxHeartbeats 4000000 in
theorem frameChain_any (v : Value) (ls : List (List UInt8)) (w : World) (h : SL No w v ls) : Calls Try.prog 13 #[v] w (PTrue w) := by
  obtain ⟨i0, hi, hz0, hz1, hz2⟩ := info_parts info5
  obtain ⟨a, n, c, rfl, hn, hnc, hcm⟩ := h.opened
  unfold maxLen at hcm
  have Hn := hid hn
  clear hn
  go_enter Try.func13, Try.ntmps13
  go_wp2_with fail
  refine (awake4_any w).mono ?_
  rintro e w1 ⟨rfl, hk1⟩
  by_cases h20 : n ≤ 20
  · have h1 := h.keep hk1 fun _ _ hk => hk.elim
    go_wp2_with fail
    go_loopw [3, 23] (fun u i wr => ∃ (k m : Nat) (a' : Option Addr) (c' : Nat), k ≤ n ∧ i = .int .i64 k ∧ m ≤ 400 * k ∧ u = .slice a' m c' ∧ wr.ownsRow w1.heap.size 5 1 (.slice a' m c') m ((chain (ls.take k)).map bv) ∧ (∀ l ∈ ls.take k, l.length ≤ 300) ∧ Keeps No w1 wr) (fun _ i _ => n - (intOf i).toNat)
    case atStart => exact ⟨0, 0, none, 0, Nat.zero_le _, rfl, by omega, rfl, World.ownsRow_nil _ _ _ _, fun l hl => by simp at hl, Keeps.refl _ _⟩
    case round =>
      obtain ⟨k, m, a', c', hk, rfl, hm, rfl, hown, hsmall, hkr⟩ := hrel
      have hks := hkr.size
      have Hsmall := hid hsmall
      clear hsmall
      by_cases hlt : k < n
      · have h2 := h1.keep hkr fun _ _ hk => hk.elim
        obtain ⟨b, off, rfl, _, hat⟩ := h2.at_ (by omega)
        have hkl : k < ls.length := by have := Hn.out; omega
        obtain ⟨u2, hcell, hub⟩ := hat k ls[k] (List.getElem?_eq_getElem hkl)
        clear hat
        obtain ⟨a2, n2, c2, rfl, hn2, hnc2, hcm2⟩ := hub.opened
        unfold maxLen at hcm2
        have hstep := chain_succ hkl
        have hsm2 : n2 ≤ 300 → ∀ l ∈ ls.take (k + 1), l.length ≤ 300 := by
          intro h3 l hl
          rw [List.take_succ_eq_append_getElem hkl, List.mem_append] at hl
          rcases hl with hl | hl
          · exact Hsmall.out l hl
          · simp at hl; subst hl; omega
        have Hs := hid hstep
        have Hsm2 := hid hsm2
        have Hn2 := hid hn2
        clear hstep hn2 hsm2
        by_cases h3 : n2 ≤ 300
        · have hlen : ls[k].length ≤ 32768 := by have := Hn2.out; omega
          have hbd := mk_bd hlen
          have hml := Wn.mk_length ls[k]
          have hvl := Wn.vb_len3 (n := ls[k].length) (by omega)
          have hml3 : (Wn.mkFrame ls[k]).length ≤ 400 := by have := Hn2.out; omega
          generalize ls[k] = x at *
          go_wp2_with fail
          refine (make_ok No _ [x] _ (SL.one_new hub) (by simpa using hlen)).mono ?_
          rintro e w2 ⟨ab, r, cb, rfl, hown2, hk2⟩
          rw [List.flatten_singleton] at hown2
          have hr : ((Wn.mkFrame x).map bv).length = r := by have := hown2.1; omega
          have hr400 : r ≤ 400 := by rw [← hr, List.length_map]; exact hml3
          have hvb : SB No w2 (.slice ab r cb) (Wn.mkFrame x) := SV.of_own hown2 (fun _ _ hk => hk)
          have Hr := hid hr
          have hown' := ownsRow_keep (hown.alloc _) hk2 fun _ _ hk => hk
          have hK2 : Keeps No w1 w2 := (hkr.alloc _).then_ hk2
          have hs2 := hK2.size
          clear hr hown2 hml hbd
          go_wp2_with (at_builtin; go_must (refine wpList_app _ rfl (.tmp 38) (.tmp 39) _ rfl w1.heap.size 5 i0 _ 1 Try.underlying24 hi hz0 hz1 hz2 rfl _ _ _ rfl hown' No _ _ rfl hvb (one_bv _) (m + r) (by rw [Hr.out]) (by unfold maxLen; omega) (by omega) hs2 ?_); intro a3 c3 w3 hown3 hg3 hat3)
          go_roundw
          case rel => exact ⟨k + 1, m + r, a3, c3, by omega, by go_num, by omega, rfl, by rw [Hs.out, List.map_append]; exact hown3, Hsm2.out h3, hK2.app hown' (Nat.le_refl _) hg3⟩
          case measure => simp [intOf]; omega
        · go_wp2_with fail
          go_ret
          exact ⟨rfl, hk1.then_ hkr⟩
      · have hke : k = n := by omega
        subst hke
        have hall : (ls.take k) = ls := List.take_of_length_le (by have := Hn.out; omega)
        rw [hall] at hown
        have hall2 : ∀ l ∈ ls, l.length ≤ 300 := by have := Hsmall.out; rwa [hall] at this
        have Hall := hid hall2
        have hv : SB No wr (.slice a' m c') (chain ls) := SV.of_own hown (fun _ _ hk => hk)
        have Hv := hid hv
        have h3 := h1.keep hkr fun _ _ hk => hk.elim
        clear hall hall2 hown hv
        go_wp2_with fail
        go_loopw [3, 44] (fun u i wx => ∃ (j m' : Nat) (a2 : Option Addr) (c2 : Nat), j ≤ k ∧ i = .int .i64 j ∧ u = .slice a2 m' c2 ∧ m' ≤ m ∧ SB No wx (.slice a2 m' c2) (chain (ls.drop j)) ∧ Keeps No wr wx) (fun _ i _ => k - (intOf i).toNat)
        case atStart => exact ⟨0, m, a', c', Nat.zero_le _, rfl, rfl, Nat.le_refl _, by simpa using Hv.out, Keeps.refl _ _⟩
        case round =>
          obtain ⟨j, m', a2, c2, hj, rfl, rfl, hm', hvx, hkx⟩ := hrel
          have hmlen := hvx.len
          have hcap := hvx.cap
          unfold maxLen at hcap
          obtain ⟨hcap1, hcap2⟩ := hcap
          have Hmlen := hid hmlen
          clear hmlen
          by_cases hjlt : j < k
          · have h4 := h3.keep hkx fun _ _ hk => hk.elim
            obtain ⟨b, off, rfl, _, hat⟩ := h4.at_ (by omega)
            have hjl : j < ls.length := by have := Hn.out; omega
            obtain ⟨u2, hcell, hub⟩ := hat j ls[j] (List.getElem?_eq_getElem hjl)
            clear hat
            obtain ⟨a3, n3, c3, rfl, hn3, hnc3, hcm3⟩ := hub.opened
            have hl300 := Hall.out ls[j] (List.getElem_mem hjl)
            have hcd := chain_drop hjl
            have hlen : ls[j].length ≤ 32768 := by omega
            have hbd := mk_bd hlen
            have hrd := Wn.rdFrame_mk ls[j] (chain (ls.drop (j + 1))) hlen
            rw [← hcd] at hrd
            have hl := congrArg List.length hcd
            rw [List.length_append] at hl
            have Hcd := hid hcd
            have Hrd := hid hrd
            clear hcd hrd hn3
            generalize ls[j] = x at *
            obtain ⟨r, hr⟩ : ∃ r, (Wn.mkFrame x).length = r := ⟨_, rfl⟩
            have hrm : r ≤ m' := by have := Hmlen.out; omega
            rw [hr] at hbd Hrd
            obtain ⟨hr5, hr6⟩ := hbd
            have Hr := hid hr
            clear hr hl
            go_wp2_with fail
            refine (next_any No _ _ _ hvx (by have := Hmlen.out; omega)).mono ?_
            rintro e w5 ⟨r5, rfl, ht5, hk5⟩
            rw [Hrd.out] at ht5 ⊢
            obtain ⟨a6, n6, c6, rfl, -, -, -⟩ := ht5.opened
            have hub5 : SB No w5 (.slice a3 n3 c3) x := SV.keep hub hk5 fun _ _ hk => hk.elim
            have hvx5 : SB No w5 (.slice a2 m' c2) (chain (ls.drop j)) := SV.keep hvx hk5 fun _ _ hk => hk.elim
            go_wp2_with fail
            refine (bytes_any _ No _ _ _ _ _ ht5 hub5).mono ?_
            rintro e w6 ⟨rfl, d6, rfl⟩
            rw [eqB_self]
            obtain ⟨b2, off2, rfl, -, -⟩ := hvx5.at_ (by omega)
            have hdr : (chain (ls.drop j)).drop r = chain (ls.drop (j + 1)) := by rw [Hcd.out, ← Hr.out, List.drop_left]
            have hd1 : SB No w5 (.slice (some ⟨b2, off2 + r, none⟩) (m' - r) (c2 - r)) (chain (ls.drop (j + 1))) := by
              have := SV.drop hvx5 (k := r) (by omega) (a' := some ⟨b2, off2 + r, none⟩) (fun _ b off e => by cases e; rfl)
              rw [← List.map_drop, hdr] at this; exact this
            have hd2 : c2 = r → SB No w5 (.slice (some ⟨b2, off2, none⟩) 0 0) (chain (ls.drop (j + 1))) := by
              intro hc
              have : chain (ls.drop (j + 1)) = [] := by
                apply List.eq_nil_of_length_eq_zero
                rw [← hdr, List.length_drop]; have := Hmlen.out; omega
              rw [this]
              exact SV.nil_ _ _ _ _ (Nat.zero_le _)
            have Hd1 := hid hd1
            have Hd2 := hid hd2
            clear hd1 hd2 hdr
            by_cases hcap : c2 = r
            · have hd := Hd2.out hcap
              obtain rfl : m' = r := by omega
              subst hcap
              go_wp2_with fail
              go_roundw
              case rel => exact ⟨j + 1, 0, _, _, by omega, by go_num, rfl, by omega, SV.drewN hd _, (hkx.then_ hk5).drewN _⟩
              case measure => simp [intOf]; omega
            · go_wp2_with fail
              go_roundw
              case rel => exact ⟨j + 1, m' - r, _, _, by omega, by go_num, rfl, by omega, SV.drewN Hd1.out _, (hkx.then_ hk5).drewN _⟩
              case measure => simp [intOf]; omega
          · have hje : j = k := by omega
            subst hje
            have hnil : chain (ls.drop j) = [] := by rw [List.drop_of_length_le (by have := Hn.out; omega)]; rfl
            rw [hnil] at hvx Hmlen
            have hm0 : m' = 0 := Hmlen.out
            subst hm0
            clear hnil
            go_wp2_with fail
            refine (next_any No _ _ _ hvx (by simp)).mono ?_
            rintro e w5 ⟨r5, rfl, ht5, hk5⟩
            rw [rdFrame_nil] at ht5 ⊢
            obtain ⟨a6, n6, c6, rfl, -, -, -⟩ := ht5.opened
            go_wp2_with fail
            go_ret
            exact ⟨rfl, ((hk1.then_ hkr).then_ hkx).then_ hk5⟩
  · go_wp2_with fail
    go_ret
    exact ⟨rfl, hk1⟩
end Go.Proofs.Ytkblcdjkabiliaa
