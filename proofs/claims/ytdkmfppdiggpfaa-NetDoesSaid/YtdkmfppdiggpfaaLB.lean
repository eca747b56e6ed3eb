/- The walks through the lots' draws. -/
import Derived.Test.YtdkmfppdiggpfaaLA
namespace Go.Proofs.Ytdkmfppdiggpfaa
open Go.RowKit Wm

theorem info5 : (Try.prog.info? 5).map (fun i => (i.zero, i.size, i.bytes)) = some (some (.int .u8 0), 1, 1) := by kernel_rfl
def Held (p : Prop) : Prop := p
theorem hold {p : Prop} (h : Held p) : p := h
/-- A lot at block g (its type's number T): its state. -/
def LotAt (T : TypeId) (w : World) (g : Nat) (s : Nat) : Prop := w.heap[g]? = some (.cells #[.int .u64 (s : Int)] T (0, 0)) ∧ s < 18446744073709551616
theorem LotAt.facts {T : TypeId} {w : World} {g s : Nat} (h : LotAt T w g s) : g < w.heap.size ∧ w.cell? ⟨g, 0, none⟩ = some (.int .u64 (s : Int)) ∧ w.frozen? ⟨g, 0, none⟩ = false ∧ s < 18446744073709551616 := by
  obtain ⟨hh, hs⟩ := h
  have h0 : w.cell? ⟨g, 0, none⟩ = some (.int .u64 (s : Int)) := by rw [cell_of_row _ _ 0 _ _ _ hh]; rfl
  exact ⟨cell_lt h0, h0, frozen_of_row _ _ _ _ _ hh, hs⟩
theorem LotAt.keep {T : TypeId} {K : Blocks} {w w' : World} {g s : Nat} (h : LotAt T w g s) (hk : Keeps K w w') (hg : ¬ K g) : LotAt T w' g s :=
  ⟨(hk.block g h.facts.1 hg).trans h.1, h.2⟩
theorem LotAt.set {T : TypeId} {w : World} {g s s' : Nat} (h : LotAt T w g s) (hs : s' < 18446744073709551616) : LotAt T (w.setCell ⟨g, 0, none⟩ (.int .u64 (s' : Int))) g s' :=
  ⟨by rw [heap_setCell_same _ g 0 _ T _ h.1]; rfl, hs⟩
def PLot (T : TypeId) (g : Nat) (r : Value) (s' : Nat) (w : World) (e : Ending) (w' : World) : Prop := e = .returned r ∧ LotAt T w' g s' ∧ Keeps (Only g) w w'

theorem nx_wrap (s : Nat) : IntKind.u64.wrap ((s : Int) + 11400714819323198485) = ((Wn.nx s : Nat) : Int) := by
  rw [show ((s : Int) + 11400714819323198485) = ((s + 11400714819323198485 : Nat) : Int) by omega, wrapu]; rfl

set_option maxRecDepth 20000 in
set_option maxHeartbeats 2000000 in
theorem rdraw_any (T : TypeId) (g s : Nat) (w : World) (h : LotAt T w g s) :
    Calls Try.prog 22 #[.pointer (some ⟨g, 0, none⟩)] w (PLot T g (.int .u64 (Wn.dr s : Nat)) (Wn.nx s) w) := by
  obtain ⟨i0, hi, hz0, hz1, hz2⟩ := info_parts info5
  obtain ⟨hg, hc, hf, hs⟩ := h.facts
  have hnx := Wn.nx_lt s
  have hset := h.set hnx
  have hk1 : Keeps (Only g) w (w.setCell ⟨g, 0, none⟩ (.int .u64 (Wn.nx s : Nat))) := (Keeps.refl _ _).only _ _
  have hw := nx_wrap s
  have hdr : Wn.dr s = Wn.hOf (Wn.by8 (Wn.nx s)) := rfl
  have Hdr := hid hdr
  have Hset := hid hset
  have Hs := hid hs
  clear hs hdr hset h
  go_enter Try.func22, Try.ntmps22
  go_wp2
  generalize Wn.nx s = s' at *
  go_loopw [3, 4, 5] (fun u v i wr => ∃ (k : Nat) (a : Option Addr) (c : Nat), k ≤ 8 ∧ i = .int .i64 k ∧ u = .slice a k c ∧ v = .int .u64 (s' / 256 ^ k : Nat) ∧ wr.ownsRow w.heap.size 5 1 (.slice a k c) k (((Wn.by8 s').take k).map bv) ∧ Keeps No (w.setCell ⟨g, 0, none⟩ (.int .u64 (s' : Int))) wr) (fun _ _ i _ => 8 - (intOf i).toNat)
  case atStart => exact ⟨0, none, 0, by omega, rfl, rfl, by simp, World.ownsRow_nil _ _ _ _, Keeps.refl _ _⟩
  case round =>
    obtain ⟨k, a, c, hk, rfl, rfl, rfl, ho, hK⟩ := hrel
    by_cases hlt : k < 8
    · have hst := Wn.by8_succ s' k hlt
      have hpow : s' / 256 ^ (k + 1) = s' / 256 ^ k / 256 := by rw [Nat.pow_succ, Nat.div_div_eq_div_mul]
      have hxl : s' / 256 ^ k < 18446744073709551616 := Nat.lt_of_le_of_lt (Nat.div_le_self _ _) hnx
      have Hst := hid hst
      have Hpow := hid hpow
      have Hxl := hid hxl
      have hks := hK.size
      clear hst hpow hxl
      generalize s' / 256 ^ k = x at *
      go_wp2_with (at_builtin; refine hold ?_)
      unfold Held
      have hbv : bv (UInt8.ofNat x) = .int .u8 ((x : Int) % 256) := bv_of (by omega)
      have hb1 : SV No (wr.alloc (.cells #[.int .u8 ((x : Int) % 256)] 5)) (.slice (some ⟨wr.heap.size, 0, none⟩) 1 1) ([UInt8.ofNat x].map bv) := by
        rw [List.map_singleton, hbv]
        exact SV.no (SV.newAt wr wr.heap.size _ _ _ 1 1 _ rfl rfl (by omega) (by unfold maxLen; omega) rfl)
      refine wpList_app _ rfl (.tmp 22) (.tmp 26) _ rfl w.heap.size 5 i0 _ 1 Try.underlying47 hi hz0 hz1 hz2 rfl _ k _ rfl (World.ownsRow.alloc ho _) No _ _ rfl hb1 (one_bv _) (k + 1) (by simp) (by unfold maxLen; omega) (by omega) (by simp at hks ⊢; omega) ?_
      intro a6 c6 w6 hown6 hg6 hb6
      have hK6 : Keeps No (w.setCell ⟨g, 0, none⟩ (.int .u64 (s' : Int))) w6 := (hK.alloc _).app (World.ownsRow.alloc ho _) (by simp) hg6
      go_wp2
      go_roundw
      case rel =>
        refine ⟨k + 1, a6, c6, by omega, by go_num, rfl, ?_, ?_, hK6⟩
        · rw [Hpow.out, IntKind.wrap_u64]; have := Hxl.out; exact congrArg _ (by omega)
        · rw [Hst.out, List.map_append]; exact hown6
      case measure => simp [intOf]; omega
    · obtain rfl : k = 8 := by omega
      have hall : (Wn.by8 s').take 8 = Wn.by8 s' := List.take_of_length_le (by rw [Wn.by8_length]; omega)
      rw [hall] at ho
      have hv : SB No wr (.slice a 8 c) (Wn.by8 s') := SV.of_own ho fun _ _ hk => hk
      have hl := (Hset.out).keep hK (fun hk => hk)
      have hK' : Keeps (Only g) w wr := hk1.trans hK fun _ _ hk => hk.elim
      have Hv := hid hv
      clear hall hv ho hw
      go_wp2_with fail
      refine (rof_any No _ _ _ Hv.out).mono ?_
      rintro e w7 ⟨rfl, rfl⟩
      go_wp2_with fail
      go_ret
      exact ⟨by rw [Hdr.out]; rfl, hl, hK'⟩

theorem div_pow (x k : Nat) : ((x : Int) / 2 ^ (8 * k)) = ((x / 256 ^ k : Nat) : Int) := by
  have e2 : (256 : Nat) ^ k = 2 ^ (8 * k) := by rw [Nat.pow_mul]
  rw [e2, Int.natCast_ediv, Int.natCast_pow]
  rfl
def z8 : Array Value := #[.int .u8 0, .int .u8 0, .int .u8 0, .int .u8 0, .int .u8 0, .int .u8 0, .int .u8 0, .int .u8 0]
theorem mk8 (w : World) : (Instr.makeSlice 47 (.int .i64 8) (.int .i64 8)).run Try.prog w = .ok (.slice (some ⟨w.heap.size, 0, none⟩) 8 8) (w.alloc (.cells z8 5)) := by kernel_rfl

set_option maxRecDepth 20000 in
set_option maxHeartbeats 2000000 in
theorem ddraw_any (T : TypeId) (g s : Nat) (w : World) (h : LotAt T w g s) :
    Calls Try.prog 41 #[.pointer (some ⟨g, 0, none⟩)] w (PLot T g (.int .u64 (Wn.dr s : Nat)) (Wn.nx s) w) := by
  obtain ⟨hg, hc, hf, hs⟩ := h.facts
  have hnx := Wn.nx_lt s
  have hset := h.set hnx
  have hk1 : Keeps (Only g) w (w.setCell ⟨g, 0, none⟩ (.int .u64 (Wn.nx s : Nat))) := (Keeps.refl _ _).only _ _
  have hw := nx_wrap s
  have hdr : Wn.dr s = Wn.hOf (Wn.by8 (Wn.nx s)) := rfl
  have hmk := mk8
  have Hdr := hid hdr
  have Hset := hid hset
  have Hs := hid hs
  clear hs hdr hset h
  go_enter Try.func41, Try.ntmps41
  go_wp2
  clear hmk hw
  generalize Wn.nx s = s' at *
  have hsz : (w.setCell ⟨g, 0, none⟩ (.int .u64 (s' : Int))).heap.size = w.heap.size := by simp [World.setCell]
  go_loopw [15] (fun i wr => ∃ (k : Nat) (C : Array Value), k ≤ 8 ∧ i = .int .i64 k ∧ C.size = 8 ∧ wr.heap[w.heap.size]? = some (.cells C 5 (0, 0)) ∧ (∀ j, j < k → C[j]? = some (bv (UInt8.ofNat (s' / 256 ^ j)))) ∧ Keeps No (w.setCell ⟨g, 0, none⟩ (.int .u64 (s' : Int))) wr) (fun i _ => 8 - (intOf i).toNat)
  case atStart =>
    refine ⟨0, z8, by omega, rfl, rfl, ?_, fun j h => by omega, (Keeps.refl _ _).alloc _⟩
    have := heap_alloc_new (w.setCell ⟨g, 0, none⟩ (.int .u64 (s' : Int))) (.cells z8 5)
    rwa [hsz] at this
  case round =>
    obtain ⟨k, C, hk, rfl, hC, hh, hall, hK⟩ := hrel
    by_cases hlt : k < 8
    · obtain ⟨u, hu⟩ : ∃ u, C[k]? = some u := ⟨C[k], by simp [hC, hlt]⟩
      have hcc : wr.cell? ⟨w.heap.size, k, none⟩ = some u := by rw [cell_of_row _ _ k _ _ _ hh]; exact hu
      have hff : wr.frozen? ⟨w.heap.size, k, none⟩ = false := frozen_of_row _ _ _ _ _ hh
      have hcg : wr.cell? ⟨g, 0, none⟩ = some (.int .u64 (s' : Int)) := (Hset.out.keep hK (fun hk => hk)).facts.2.1
      have Hh := hid hh
      have Hall := hid hall
      clear hh hall
      go_wp2
      have hbv : Value.int .u8 ((s' : Int) / 2 ^ (8 * k) % 256) = bv (UInt8.ofNat (s' / 256 ^ k)) := (bv_of (by rw [div_pow]; omega)).symm
      refine ⟨⟨k + 1, C.setIfInBounds k (bv (UInt8.ofNat (s' / 256 ^ k))), by omega, by go_num, by simpa using hC, ?_, fun j hj => ?_, hK.setCell (p := ⟨w.heap.size, k, none⟩) (fun hl => by simp [World.setCell] at hl) _⟩, by simp [intOf]; omega⟩
      · rw [hbv]
        exact heap_setCell_same _ w.heap.size k _ 5 _ Hh.out
      · rcases Nat.lt_succ_iff_lt_or_eq.1 hj with hj | rfl
        · rw [Array.getElem?_setIfInBounds_ne (by omega)]; exact Hall.out j hj
        · rw [Array.getElem?_setIfInBounds_self]; simp [hC]; exact hlt
    · obtain rfl : k = 8 := by omega
      have hv : SB No wr (.slice (some ⟨w.heap.size, 0, none⟩) 8 8) (Wn.by8 s') := by
        refine SV.mk (by rw [List.length_map, Wn.by8_length]) (by omega) (by unfold maxLen; omega) fun _ => ⟨w.heap.size, 0, rfl, fun hk => hk, fun i u hu => ?_⟩
        rw [Nat.zero_add, cell_of_row _ _ i _ _ _ hh]
        rw [List.getElem?_map] at hu
        have hi : i < 8 := by
          rcases Nat.lt_or_ge i 8 with h | h
          · exact h
          · rw [List.getElem?_eq_none (by rw [Wn.by8_length]; exact h)] at hu; cases hu
        rw [hall i hi]
        have : (Wn.by8 s')[i]? = some (UInt8.ofNat (s' / 256 ^ i)) := by
          simp [Wn.by8, hi]
        rw [this] at hu
        exact hu
      have hl := (Hset.out).keep hK (fun hk => hk)
      have hK' : Keeps (Only g) w wr := hk1.trans hK fun _ _ hk => hk.elim
      have Hv := hid hv
      clear hv hh hall
      go_wp2_with fail
      have hsl := SL.oneAt (e := 47) (w := wr) (g := wr.heap.size) rfl Hv.out
      have hof := hof_any No _ _ _ hsl
      have hfl : ([Wn.by8 s'] : List (List UInt8)).flatten = Wn.by8 s' := by simp
      rw [hfl] at hof
      refine hof.mono ?_
      rintro e w7 ⟨rfl, rfl⟩
      go_wp2_with fail
      go_ret
      exact ⟨by rw [Hdr.out]; rfl, hl.keep ((Keeps.refl No _).alloc _) (fun hk => hk), hK'.alloc _⟩
end Go.Proofs.Ytdkmfppdiggpfaa
