/- The walks through the disk's Up and Put. -/
import Derived.Test.YtkblcdjkabiliaaWO
import Derived.Test.YtkblcdjkabiliaaWH
namespace Go.Proofs.Ytkblcdjkabiliaa
open Go.RowKit Wm

theorem quiet_same {P : Program} {f : FuncId} {args : Array Value} {w : World} {v : Value} (h : Calls P f args w fun e w' => e = .returned v ∧ w = w') :
    Calls P f args w fun e w' => e = .returned v ∧ w' = w := h.mono fun _ _ ⟨a, b⟩ => ⟨a, b.symm⟩

set_option maxRecDepth 20000 in
set_option maxHeartbeats 2000000 in
theorem dup_any (p : Nat) (v : Value) (s : Wn.Dsk) (w : World) (h : DiskAt w p v s) :
    Calls Try.prog 32 #[.pointer (some ⟨p, 0, none⟩)] w (PDo p v (.tuple #[]) (Wn.dUp s) w) := by
  have hdn := ddown_any p v s w h
  cases hd : s.down with
  | false =>
    have hf : Wn.dUp s = s := by unfold Wn.dUp; rw [if_neg (by rw [hd]; simp)]
    rw [hd] at hdn
    rw [hf]
    have Hdn := hid hdn
    have H := hid h
    clear hdn hd h hf
    go_enter Try.func32, Try.ntmps32
    go_wp2_with fail
    refine Hdn.out.mono ?_
    rintro e w1 ⟨rfl, rfl⟩
    go_wp2_with fail
    go_end0
    exact ⟨rfl, DK.refl H.out⟩
  | true =>
    have hf : Wn.dUp s = { s with b := s.b.take (Wn.dLeft s), sure := Wn.dLeft s, down := false, armed := false } := by unfold Wn.dUp; rw [if_pos hd]
    have hwf := Wn.dUp_wf h.wf
    have hle := Wn.dLeft_le h.wf
    rw [hd] at hdn
    rw [hf] at hwf
    rw [hf]
    have hpe : ∀ k, Calls Try.prog 48 #[.pointer (some ⟨p, 0, none⟩)] (w.drewN k) fun e w' => e = .returned (.int .i64 ((s.b.length - s.sure : Nat) : Int)) ∧ ∃ m, w' = (w.drewN k).drewN m := fun k => dpend_any p v s (w.drewN k) h
    obtain ⟨a, n, c, x, rfl, hn, hnc, hcm, hp, hf, hc0, hc1, hc2, hc3, hc4, hc5, hc6, hc7, hx, hops, hw1, hw2, hw3⟩ := h.facts
    have hlf : (s.sure : Int) + max 0 (min s.keep ((s.b.length - s.sure : Nat) : Int)) = (Wn.dLeft s : Int) := by unfold Wn.dLeft; omega
    have hm0 : 0 ≤ max 0 (min s.keep ((s.b.length - s.sure : Nat) : Int)) ∧ max 0 (min s.keep ((s.b.length - s.sure : Nat) : Int)) ≤ 1048576 := by omega
    have hln : Wn.dLeft s ≤ n := by omega
    have hsb : SB No w (.slice a (Wn.dLeft s) c) (s.b.take (Wn.dLeft s)) := by have := SV.take h.sb (k := Wn.dLeft s) hln; rw [← List.map_take] at this; exact this
    have hsz : (s.b.take (Wn.dLeft s)).length ≤ 16777216 := by rw [List.length_take]; omega
    have hsu : s.sure ≤ 1048576 := by omega
    have hf0 := hf 0
    have hf2 := hf 2
    have hf4 := hf 4
    have hf5 := hf 5
    have hnm : n ≤ 1048576 := by omega
    unfold maxLen at hcm
    have H := hid h
    have Hd := hid hd
    have Hdn := hid hdn
    have Hwf := hid hwf
    have Hpe := hid hpe
    clear hdn hd h hf hn hx hle hwf hpe hc1 hc3 hc6 hw1 hw2 hw3
    generalize hpd : ((s.b.length - s.sure : Nat) : Int) = pd at *
    generalize hmm : max 0 (min s.keep pd) = mm at *
    generalize hL : Wn.dLeft s = L at *
    generalize hss : s.sure = su at *
    have Hlf := hid hlf
    have Hmm := hid hmm
    have HL := hid hL
    have Hss := hid hss
    clear hlf hmm hL hpd hss
    go_enter Try.func32, Try.ntmps32
    go_wp2_with fail
    refine Hdn.out.mono ?_
    rintro e w1 ⟨rfl, rfl⟩
    go_wp2_with fail
    go_quiet ((first | (go_at_call 48; exact Calls.quiet_of (Hpe.out _)) | (go_at_call 60; exact Calls.quiet_of_same (quiet_same (dHold_any _ _ _ _)))))
    have hwr : wrap64 ((su : Int) + max 0 (min s.keep pd)) = (L : Int) := by rw [Hmm.out, Hlf.out]; unfold wrap64; omega
    rw [hwr]
    have hsb' : SB No (w.drewN nq) (.slice a L c) (s.b.take L) := hsb
    have hc0' : (w.drewN nq).cell? ⟨p, 0, none⟩ = some (.slice a n c) := hc0
    clear hwr
    go_wp2_with fail
    refine (clone_any No _ _ _ hsb' hsz).mono ?_
    rintro e w1 ⟨a1, r1, c1, rfl, hown1, hk1⟩
    replace hown1 : w1.ownsRow w.heap.size 5 1 (.slice a1 r1 c1) r1 ((s.b.take L).map bv) := hown1
    replace hk1 : Keeps No w w1 := ((Keeps.refl No w).drewN nq).then_ hk1
    have hf0' := (hk1.frozen (p := ⟨p, 0, none⟩) hp (fun hk => hk)).trans hf0
    have hf2' := (hk1.frozen (p := ⟨p, 2, none⟩) hp (fun hk => hk)).trans hf2
    have hf4' := (hk1.frozen (p := ⟨p, 4, none⟩) hp (fun hk => hk)).trans hf4
    have hf5' := (hk1.frozen (p := ⟨p, 5, none⟩) hp (fun hk => hk)).trans hf5
    have hc0'' := (hk1.cell (p := ⟨p, 0, none⟩) hp (fun hk => hk)).trans hc0
    have hc2' := (hk1.cell (p := ⟨p, 2, none⟩) hp (fun hk => hk)).trans hc2
    have hc4' := (hk1.cell (p := ⟨p, 4, none⟩) hp (fun hk => hk)).trans hc4
    have hc5' := (hk1.cell (p := ⟨p, 5, none⟩) hp (fun hk => hk)).trans hc5
    clear hc0' hsb' hc0 hc2 hc4 hc5 hf0 hf2 hf4 hf5
    go_wp2_with fail
    go_end0
    refine ⟨rfl, ?_⟩
    refine dk_new rfl H.out hk1 hown1 (((((Keeps.refl _ _).only _ _).only _ _).only _ _).only _ _) ?_ hops Hwf.out
    intro x0 _ hh
    refine ⟨x0, ?_, fun h => by cases h⟩
    rw [heap_setCell_same _ p 5 _ 71 _ (heap_setCell_same _ p 4 _ 71 _ (heap_setCell_same _ p 2 _ 71 _ (heap_setCell_same w1 p 0 _ 71 _ hh)))]; rfl
end Go.Proofs.Ytkblcdjkabiliaa
