/- NetDoes: the law's walk. -/
import Derived.Test.YtdkmfppdiggpfaaNN
import Derived.BigGuardPart
import Derived.Deep.CutRange
import Derived.Deep.CutBlock
import Derived.Deep.RegionHeld3
namespace Go.Proofs.Ytdkmfppdiggpfaa
open Go.RowKit Wm

theorem rf_nil {p n k : Nat} (h : RF p (List.replicate n (.slice none 0 0)) k) : k = p := by
  rcases h with h | ⟨v, hv, hk⟩
  · exact h
  · have := List.eq_of_mem_replicate hv; subst this; cases hk
theorem NS.first {w0 w1 w2 : World} (hk : Keeps No w0 w1) (hw : w2 = w1.alloc (.cells (List.replicate 4 (Value.slice none 0 0) ++ [Value.bool true]).toArray 86 (0, 0))) :
    NS w0 w1.heap.size w2.heap.size (w2.heap.size + 1) (w2.heap.size + 1 + 1) (List.replicate 4 (.slice none 0 0)) (List.replicate 2 (.slice none 0 0)) (List.replicate 2 (.slice none 0 0)) [[], [], [], []] [[], []] [[], []]
      (((w2.alloc (.cells #[.slice none 0 0, .slice none 0 0] 68)).alloc (.cells #[.slice none 0 0, .slice none 0 0] 68)).alloc (.cells #[.pointer (some ⟨w2.heap.size, 0, none⟩), .pointer (some ⟨w2.heap.size + 1, 0, none⟩)] 69)) := by
  have hs2 : w2.heap.size = w1.heap.size + 1 := by rw [hw]; simp
  have hs0 := hk.size
  have hka : Keeps No w1 w2 := by rw [hw]; exact (Keeps.refl _ _).alloc _
  have k1 : ∀ o1 o2 o3, Keeps No w2 (((w2.alloc o1).alloc o2).alloc o3) := fun _ _ _ => (((Keeps.refl _ _).alloc _).alloc _).alloc _
  have k2 : ∀ (w : World) o2 o3, Keeps No w ((w.alloc o2).alloc o3) := fun _ _ _ => ((Keeps.refl _ _).alloc _).alloc _
  have k3 : ∀ (w : World) o3, Keeps No w (w.alloc o3) := fun _ _ => (Keeps.refl _ _).alloc _
  refine ⟨?_, ?_, ?_, ?_, fun k hk => ⟨fun h => ?_, fun h => ?_⟩, fun k hk h => ?_, fun k hk => ?_, (hk.then_ hka).then_ (k1 _ _ _), by omega⟩
  · subst hw
    exact (RowsAt.fresh 86 [.bool true] _ w1 4 _ rfl).keep (k1 _ _ _) (fun _ _ h => h) (fun _ _ h => h.elim) (fun _ _ h => h)
  · exact (RowsAt.fresh 68 [] _ w2 2 _ rfl).keep (k2 _ _ _) (fun _ _ h => h) (fun _ _ h => h.elim) (fun _ _ h => h)
  · exact (RowsAt.fresh 68 [] _ (w2.alloc _) 2 _ (by simp)).keep (k3 _ _) (fun _ _ h => h) (fun _ _ h => h.elim) (fun _ _ h => h)
  · have := heap_alloc_new ((w2.alloc (.cells #[.slice none 0 0, .slice none 0 0] 68)).alloc (.cells #[.slice none 0 0, .slice none 0 0] 68)) (.cells #[.pointer (some ⟨w2.heap.size, 0, none⟩), .pointer (some ⟨w2.heap.size + 1, 0, none⟩)] 69)
    simpa using this
  · have := rf_nil hk; have := rf_nil h; omega
  · have := rf_nil hk; have := rf_nil h; omega
  · have := rf_nil hk; have := rf_nil h; omega
  · rcases hk with hk | hk | hk <;> have := rf_nil hk <;> exact ⟨by omega, by omega⟩

theorem NX.nils {w0 w : World} {p a b t g : Nat} {y : DoN} {u : Value} {hs : List (Value × List UInt8)} {Ns La Lb : List (List (List UInt8))} (h : NX w0 p a b t g y u hs Ns La Lb w) :
    NX w0 p a b t g y u [(.slice none 0 0, []), (.slice none 0 0, [])] Ns La Lb w := by
  obtain ⟨vs, va, vb, h1, h2, h3⟩ := h
  refine ⟨vs, va, vb, h1, h2, fun x hx => ?_⟩
  simp at hx; subst hx
  exact SV.nil_ _ _ _ _ (Nat.zero_le _)
theorem NX.two {w0 w : World} {p a b t g : Nat} {y : DoN} {u : Value} {x1 x2 : Value × List UInt8} {hs : List (Value × List UInt8)} {Ns La Lb : List (List (List UInt8))} (h : NX w0 p a b t g y u (x1 :: x2 :: hs) Ns La Lb w) :
    NX w0 p a b t g y u [x2, x1] Ns La Lb w := h.fewer fun x hx => by
  simp only [List.mem_cons, List.not_mem_nil, or_false] at hx ⊢
  rcases hx with hx | hx
  · exact .inr (.inl hx)
  · exact .inl hx
theorem elem47 : Try.prog.underlying 47 = some (.slice (Try.prog.elem 47)) := by
  have he : Try.prog.elem 47 = 5 := by kernel_rfl
  rw [he]; exact Try.underlying47
theorem size47 (w : World) : (sizeOf (Try.prog.elem 47)).run Try.prog w = .ok 1 w := by
  obtain ⟨i0, hi, hz0, hz1, hz2⟩ := info_parts info5
  have he : Try.prog.elem 47 = 5 := by kernel_rfl
  rw [he]
  simp [Go.sizeOf, typeInfo, hi, hz1]
theorem slice_front {a : Option Addr} {n c m : Nat} (hm : m ≤ n) (hnc : n ≤ c) (w : World) :
    (Instr.sliceAt 47 (.slice a n c) none (some (.int .i64 (m : Int))) none).run Try.prog w = .ok (.slice a m c) w := by
  rw [run_sliceAt_slice _ _ _ _ _ _ elem47, run_slice_h w 47 a n c elem47 .i64 (m : Int) (by omega) (by omega)]
  rw [size47]
  simp only [Result.andThen, sliced, Int.toNat_natCast, Nat.sub_zero, Nat.zero_mul]
  congr 2
  split
  · rfl
  · cases a with
    | none => rfl
    | some ad => simp [Addr.add]
def backAddr (a : Option Addr) (c m : Nat) : Option Addr := if c = m then a else a.map (·.add m)
theorem slice_back {a : Option Addr} {n c m : Nat} (hm : m ≤ n) (w : World) :
    (Instr.sliceAt 47 (.slice a n c) (some (.int .i64 (m : Int))) none none).run Try.prog w = .ok (.slice (backAddr a c m) (n - m) (c - m)) w := by
  rw [run_sliceAt_slice _ _ _ _ _ _ elem47, run_slice_l w 47 a n c elem47 .i64 (m : Int) (by omega) (by omega)]
  rw [size47]
  simp only [Result.andThen, sliced, Int.toNat_natCast, Nat.mul_one, backAddr]
theorem backAddr_at {a : Option Addr} {n c m : Nat} (hnc : n ≤ c) : m < n → ∀ b off, a = some ⟨b, off, none⟩ → backAddr a c m = some ⟨b, off + m, none⟩ := by
  intro hm b off ha
  subst ha
  unfold backAddr
  rw [if_neg (by omega)]
  simp only [Option.map_some, add_off']
/-- The two halves of bytes, as the law spells them. -/
theorem halves {w : World} {a : Option Addr} {n c kh : Nat} {l : List UInt8} (h : SB No w (.slice a n c) l) (hk : kh ≤ n) (hnc : n ≤ c) :
    SL No (w.alloc (.cells #[.slice a kh c, .slice (backAddr a c kh) (n - kh) (c - kh)] 47)) (.slice (some ⟨w.heap.size, 0, none⟩) 2 2) [l.take kh, l.drop kh] := by
  have ht := SV.take h hk
  have hd := SV.drop h hk (backAddr_at hnc)
  rw [← List.map_take] at ht
  rw [← List.map_drop] at hd
  exact two_parts rfl ht hd
theorem NX.start {w0 w : World} {p a b t : Nat} {vs va vb : List Value} {Ns La Lb : List (List (List UInt8))} {y : DoN} {u : Value} (h : NS w0 p a b t vs va vb Ns La Lb w) (hu : SB (NF p a b vs va vb) w u y.b) :
    NX w0 p a b t w.heap.size y u [(u, y.b)] Ns La Lb (w.alloc (.cells #[.int .i64 y.kind, .int .i64 y.way, .int .i64 y.at_, .bool y.keep, u] 71)) := by
  have hk : ∀ o, Keeps No w (w.alloc o) := fun _ => (Keeps.refl _ _).alloc _
  refine ⟨vs, va, vb, h.keepNo (hk _), ⟨heap_alloc_new w _, fun hf => ?_⟩, fun x hx => ?_⟩
  · have := h.lt _ hf; omega
  · simp at hx; subst hx; exact (St.no (hk _)).sb hu

set_option maxRecDepth 100000 in
set_option maxHeartbeats 4000000 in
theorem netDoes_any (v : Value) (l : List DoN) (vb : Value) (bl : List UInt8) (w : World) (h : SN No w v l) (hb : SB No w vb bl) :
    Calls Try.prog 9 #[v, vb] w (PTrue w) := by
  obtain ⟨a, n, c, rfl, hn, hnc, hcm⟩ := h.opened
  obtain ⟨ab, nb, cb, rfl, hnb, hncb, hcmb⟩ := hb.opened
  unfold maxLen at hcm hcmb
  have Hn := hid hn
  have Hnb := hid hnb
  clear hn hnb
  go_enter Try.func9, Try.ntmps9
  go_wp2_with fail
  refine (awake39_any w).mono ?_
  rintro e w1 ⟨rfl, hk1⟩
  by_cases h100 : n ≤ 100
  · by_cases h200 : nb ≤ 100
    · go_wp2_with fail
      refine (new_any No w1).mono ?_
      rintro e w2 ⟨rfl, hw2, -⟩
      have hns := NS.first hk1 hw2
      have Hns := hid hns
      clear hns hw2 hk1
      generalize w1.heap.size = p at *
      go_wp2_with fail
      generalize hg1 : w2.heap.size = qa at *
      generalize hg2 : qa + 1 = qb at *
      generalize hg3 : qb + 1 = qt at *
      clear hg1 hg2 hg3
      generalize (((w2.alloc _).alloc _).alloc _) = w5 at *
      go_loopw [40] (fun i wr => ∃ (k : Nat) (vs va vc : List Value) (L0 A0 L1 A1 : List (List UInt8)), k ≤ n ∧ i = .int .i64 k ∧ NS w p qa qb qt vs va vc [L0, A0, L1, A1] [L0, A0] [L1, A1] wr ∧ Bn k L0 ∧ Bn k A0 ∧ Bn k L1 ∧ Bn k A1) (fun i _ => n - (intOf i).toNat)
      case atStart => exact ⟨0, _, _, _, [], [], [], [], Nat.zero_le _, rfl, Hns.out, ⟨Nat.le_refl _, fun x hx => by cases hx⟩, ⟨Nat.le_refl _, fun x hx => by cases hx⟩, ⟨Nat.le_refl _, fun x hx => by cases hx⟩, ⟨Nat.le_refl _, fun x hx => by cases hx⟩⟩
      case round =>
        obtain ⟨k, vs, va, vc, L0, A0, L1, A1, hk, rfl, hns, hb0, hb1, hb2, hb3⟩ := hrel
        clear Hns
        by_cases hlt : k < n
        · have hM := hns.2.2.2.2.2.2.1
          have hK := hns.2.2.2.2.2.2.2.1
          have h' := h.shift hK (M' := NF p qa qb vs va vc) (fun _ _ hk => hk.elim) (fun k hl hk => by have := (hM k hk).2; omega)
          obtain ⟨bk, off, rfl, _, hat⟩ := h'.at_ (by omega)
          have hkl : k < l.length := by have := Hn.out; omega
          have hok := h'.ok l[k] (List.getElem_mem hkl)
          obtain ⟨hd0, hd1, hd2, hd3, u, hd4, hub⟩ := hat k l[k] (List.getElem?_eq_getElem hkl)
          clear hat
          generalize l[k] = y at *
          obtain ⟨yk, yw, ya, yp, yb⟩ := y
          simp only at hd0 hd1 hd2 hd3 hd4 hub
          obtain ⟨ax, n2, cx, rfl, hn2, hnc2, hcm2⟩ := hub.opened
          unfold maxLen at hcm2
          by_cases hyb : n2 ≤ 100
          · have hnx : NX w p qa qb qt wr.heap.size ⟨yk, yw, ya, yp, yb⟩ (.slice ax n2 cx) [(.slice ax n2 cx, yb)] [L0, A0, L1, A1] [L0, A0] [L1, A1] (wr.alloc (.cells #[.int .i64 yk, .int .i64 yw, .int .i64 ya, .bool yp, .slice ax n2 cx] 71)) := NX.start hns hub
            have Hnx := hid hnx
            have HB := hid (show _ ∧ _ ∧ _ ∧ _ from ⟨hb0, hb1, hb2, hb3⟩)
            have Hok := hid hok
            have Hn2 := hid hn2
            clear hnx hb0 hb1 hb2 hb3 hok hn2 hns hM hK h' hub
            go_upto_region 13 with fail
            generalize (wr.alloc _) = wx at *
            obtain ⟨c0, c1, c2, c3, c4⟩ := Hnx.out.cells
            simp only at c0 c1 c2 c3 c4
            go_cut [9, 10] from 41 to 166 (fun kv mv wc => kv = .int .i64 ((n2 / 2 : Nat) : Int) ∧ mv = .bool (decide (yw = 0 ∨ yw = 1)) ∧ wc = wx)
            case first =>
              by_cases hw0 : yw = 0
              · go_wp2_with fail
                go_meet
                case rel => exact ⟨rfl, by simp [hw0], rfl⟩
              · by_cases hw1 : yw = 1
                · have e0 : (yw == 0) = false := by rw [beq_eq_false_iff_ne]; exact hw0
                  go_wp2_with fail
                  go_meet
                  case rel => exact ⟨rfl, by simp [hw1], rfl⟩
                · have e0 : (yw == 0) = false := by rw [beq_eq_false_iff_ne]; exact hw0
                  have e1 : (yw == 1) = false := by rw [beq_eq_false_iff_ne]; exact hw1
                  go_wp2_with fail
                  go_meet
                  case rel => exact ⟨rfl, by simp [hw0, hw1], rfl⟩
            case rest =>
              obtain ⟨rfl, rfl, hwc⟩ := hcut
              subst wc
              generalize hg4 : n2 / 2 = kh at *
              have hkh : kh ≤ n2 := by omega
              clear hg4
              go_upto_block 2 with fail
              go_cut [10, 11, 12, 13, 14] from 41 to 166 (fun _ ev fv gv wv wz => ∃ (z : Int) (x : List UInt8) (M0 B0 M1 B1 : List (List UInt8)), ev = .int .i64 z ∧ fv = .int .i64 z ∧ NX w p qa qb qt wr.heap.size ⟨yk, yw, ya, yp, yb⟩ (.slice ax n2 cx) [(gv, x), (wv, x)] [M0, B0, M1, B1] [M0, B0] [M1, B1] wz ∧ Bn (k + 1) M0 ∧ Bn (k + 1) B0 ∧ Bn (k + 1) M1 ∧ Bn (k + 1) B1)
              case first =>
                obtain ⟨hb0, hb1, hb2, hb3⟩ := HB.out
                have hx100 : yb.length ≤ 100 := by have := Hn2.out; omega
                have hk100 : k ≤ 100 := by omega
                have hfl : ([yb.take kh, yb.drop kh] : List (List UInt8)).flatten = yb := by simp
                have bd : ∀ {l : List (List UInt8)}, Bn k l → l.length ≤ 1048576 := fun hb => by have := hb.1; omega
                have bs : ∀ {l : List (List UInt8)}, Bn k l → ∀ x ∈ l, x.length ≤ 16777216 := fun hb x hx => by have := hb.2 x hx; omega
                have hsm : ([yb.take kh, yb.drop kh] : List (List UInt8)).flatten.length ≤ 16777216 := by rw [hfl]; omega
                have HBd := hid (show (Bn k L0 ∧ Bn k A0 ∧ Bn k L1 ∧ Bn k A1) ∧ yb.length ≤ 100 from ⟨⟨hb0, hb1, hb2, hb3⟩, hx100⟩)
                rcases (show yw = 0 ∨ yw = 1 ∨ (yw < 0 ∨ 2 ≤ yw) by omega) with hw | hw | hw
                · subst hw
                  have hdc : decide ((0 : Int) = 0 ∨ (0 : Int) = 1) = true := by decide
                  rw [hdc]
                  clear hdc
                  by_cases hk1 : yk = 1
                  · subst hk1
                    as_aux_lemma =>
                      have hsl1 := fun wz => slice_front (a := ax) (n := n2) (c := cx) (m := kh) hkh hnc2 wz
                      have hsl2 := fun wz => slice_back (a := ax) (n := n2) (c := cx) (m := kh) hkh wz
                      have h32 : ∀ wz wy, Keeps No wx wz → Keeps No (wz.alloc (.cells #[.slice ax kh cx, .slice (backAddr ax cx kh) (n2 - kh) (cx - kh)] 47)) wy → Calls Try.prog 32 #[.pointer (some ⟨p, 0, none⟩), .int .i64 0, .slice (some ⟨wz.heap.size, 0, none⟩) 2 2] wy (QX w p qa qb qt wr.heap.size ⟨1, 0, ya, yp, yb⟩ (.slice ax n2 cx) [(.slice ax n2 cx, yb)] [(sL L0 yb), (A0 ++ [yb]), L1, A1] [L0, A0] [L1, A1] (.int .i64 (sendC L0))) := fun wz wy hk hk' => by
                        have hsl := SL.keep (halves ((Hnx.out.keepNo hk).sb (List.mem_cons_self ..)) hkh hnc2) hk' fun _ _ h => h
                        have hs := nx_send (k := 0) (wy := 0) ((Hnx.out.keepNo (hk.alloc _)).keepNo hk') rfl (by omega) (by omega) rfl rfl rfl hsl (bd hb0) (bd hb1) hsm
                        rw [hfl, putLs_n0] at hs
                        exact hs
                      have h33 : ∀ wz, NX w p qa qb qt wr.heap.size ⟨1, 0, ya, yp, yb⟩ (.slice ax n2 cx) [(.slice ax n2 cx, yb)] [(sL L0 yb), (A0 ++ [yb]), L1, A1] [L0, A0] [L1, A1] wz → Calls Try.prog 33 #[.pointer (some ⟨qa, 0, none⟩), .slice ax n2 cx] wz (QX w p qa qb qt wr.heap.size ⟨1, 0, ya, yp, yb⟩ (.slice ax n2 cx) [(.slice ax n2 cx, yb)] [(sL L0 yb), (A0 ++ [yb]), L1, A1] [(sL L0 yb), (A0 ++ [yb])] [L1, A1] (.int .i64 (sendC L0))) := fun wz hz => by
                        have hs := nx_rsend_a hz rfl rfl (List.mem_cons_self ..) (bd hb0) (bd hb1)
                        rw [putLs_r] at hs
                        exact hs
                      have H32 := hid h32
                      have H33 := hid h33
                      have hS : wx.cell? ⟨wr.heap.size, 1, none⟩ = some (.int .i64 0) ∧ wx.cell? ⟨wr.heap.size, 4, none⟩ = some (.slice ax n2 cx) := ⟨c1, c4⟩
                      have hSa : ∀ o, (wx.alloc o).cell? ⟨wr.heap.size, 1, none⟩ = some (.int .i64 0) ∧ (wx.alloc o).cell? ⟨wr.heap.size, 4, none⟩ = some (.slice ax n2 cx) := fun o => ⟨alloc_cell c1, alloc_cell c4⟩
                      have HSa := hid hSa
                      clear h32 h33 hSa hfl bd bs hsm hd0 hd1 hd2 hd3 hd4
                      go_wp2_with fail
                      go_region_held3 (fun wy => wy.cell? ⟨wr.heap.size, 1, none⟩ = some (.int .i64 0) ∧ wy.cell? ⟨wr.heap.size, 4, none⟩ = some (.slice ax n2 cx))
                        (first | exact hS | exact hS6 | exact HSa.out _)
                        (first | (go_at_call 32; refine (H32.out wx _ (Keeps.refl _ _) (Keeps.refl No _).drew).mono ?_; rintro e w6 ⟨rfl, hnx6⟩; have hS6 : w6.cell? ⟨wr.heap.size, 1, none⟩ = some (.int .i64 0) ∧ w6.cell? ⟨wr.heap.size, 4, none⟩ = some (.slice ax n2 cx) := ⟨hnx6.cells.2.1, hnx6.cells.2.2.2.2⟩))
                      all_goals
                        have hT6 : w6.cell? ⟨wr.heap.size, 1, none⟩ = some (.int .i64 0) ∧ w6.cell? ⟨wr.heap.size, 4, none⟩ = some (.slice ax n2 cx) ∧ w6.cell? ⟨qt, 0, none⟩ = some (.pointer (some ⟨qa, 0, none⟩)) := ⟨hS6.1, hS6.2, hnx6.ptrs.1⟩
                        clear hsl1 hsl2 hS hS6 HSa c0 c1 c2 c3 c4 H32
                        go_wp2_with fail
                        go_region_held3 (fun wy => wy.cell? ⟨wr.heap.size, 1, none⟩ = some (.int .i64 0) ∧ wy.cell? ⟨wr.heap.size, 4, none⟩ = some (.slice ax n2 cx) ∧ wy.cell? ⟨qt, 0, none⟩ = some (.pointer (some ⟨qa, 0, none⟩)))
                          (first | exact hT6 | exact hT7)
                          (first | (go_at_call 33; refine (H33.out _ (hnx6.keepNo (Keeps.refl No _).drew)).mono ?_; rintro e w7 ⟨rfl, hnx7⟩; have hT7 : w7.cell? ⟨wr.heap.size, 1, none⟩ = some (.int .i64 0) ∧ w7.cell? ⟨wr.heap.size, 4, none⟩ = some (.slice ax n2 cx) ∧ w7.cell? ⟨qt, 0, none⟩ = some (.pointer (some ⟨qa, 0, none⟩)) := ⟨hnx7.cells.2.1, hnx7.cells.2.2.2.2, hnx7.ptrs.1⟩))
                        all_goals
                          clear hT6 hT7 H33 hnx6
                          go_wp2_with fail
                          go_meet
                          case rel =>
                            obtain ⟨⟨hb0, hb1, hb2, hb3⟩, hx⟩ := HBd.out
                            exact ⟨_, [], (sL L0 yb), (A0 ++ [yb]), L1, A1, rfl, rfl, hnx7.nils, hb0.sL hx, hb1.snoc hx, hb2.more, hb3.more⟩
                  · by_cases hk2 : yk = 2
                    · subst hk2
                      as_aux_lemma =>
                        have h34 : Calls Try.prog 34 #[.pointer (some ⟨p, 0, none⟩), .int .i64 0, .int .i64 ya, .bool yp] wx (QT w p qa qb qt wr.heap.size ⟨2, 0, ya, yp, yb⟩ (.slice ax n2 cx) [(.slice ax n2 cx, yb)] [(takeL L0 ya yp), A0, L1, A1] [L0, A0] [L1, A1] (takeB L0 ya) (takeC L0 ya)) := nx_take (k := 0) (wy := 0) Hnx.out rfl (by omega) (by omega) rfl rfl (bd hb0) (bs hb0)
                        have h35 : ∀ wz v6, NX w p qa qb qt wr.heap.size ⟨2, 0, ya, yp, yb⟩ (.slice ax n2 cx) ((v6, takeB L0 ya) :: [(.slice ax n2 cx, yb)]) [(takeL L0 ya yp), A0, L1, A1] [L0, A0] [L1, A1] wz → Calls Try.prog 35 #[.pointer (some ⟨qa, 0, none⟩), .int .i64 ya, .bool yp] wz (QT w p qa qb qt wr.heap.size ⟨2, 0, ya, yp, yb⟩ (.slice ax n2 cx) ((v6, takeB L0 ya) :: [(.slice ax n2 cx, yb)]) [(takeL L0 ya yp), A0, L1, A1] [(takeL L0 ya yp), A0] [L1, A1] (takeB L0 ya) (takeC L0 ya)) := fun wz v6 hz => nx_rtake_a hz rfl (bd hb0)
                        have H34 := hid h34
                        have H35 := hid h35
                        clear h34 h35 hfl bd bs hsm hd0 hd1 hd2 hd3 hd4 hk1
                        go_wp2_with fail
                        refine H34.out.mono ?_
                        rintro e w6 ⟨v6, rfl, hnx6⟩
                        have hT6 : w6.cell? ⟨wr.heap.size, 1, none⟩ = some (.int .i64 0) ∧ w6.cell? ⟨wr.heap.size, 2, none⟩ = some (.int .i64 ya) ∧ w6.cell? ⟨wr.heap.size, 3, none⟩ = some (.bool yp) ∧ w6.cell? ⟨qt, 0, none⟩ = some (.pointer (some ⟨qa, 0, none⟩)) := ⟨hnx6.cells.2.1, hnx6.cells.2.2.1, hnx6.cells.2.2.2.1, hnx6.ptrs.1⟩
                        clear c0 c1 c2 c3 c4 H34
                        go_wp2_with fail
                        go_region_held3 (fun wy => wy.cell? ⟨wr.heap.size, 1, none⟩ = some (.int .i64 0) ∧ wy.cell? ⟨wr.heap.size, 2, none⟩ = some (.int .i64 ya) ∧ wy.cell? ⟨wr.heap.size, 3, none⟩ = some (.bool yp) ∧ wy.cell? ⟨qt, 0, none⟩ = some (.pointer (some ⟨qa, 0, none⟩)))
                          (first | exact hT6 | exact hT7)
                          (first | (go_at_call 35; refine (H35.out _ v6 (hnx6.keepNo (Keeps.refl No _).drew)).mono ?_; rintro e w7 ⟨v7, rfl, hnx7⟩; have hT7 : w7.cell? ⟨wr.heap.size, 1, none⟩ = some (.int .i64 0) ∧ w7.cell? ⟨wr.heap.size, 2, none⟩ = some (.int .i64 ya) ∧ w7.cell? ⟨wr.heap.size, 3, none⟩ = some (.bool yp) ∧ w7.cell? ⟨qt, 0, none⟩ = some (.pointer (some ⟨qa, 0, none⟩)) := ⟨hnx7.cells.2.1, hnx7.cells.2.2.1, hnx7.cells.2.2.2.1, hnx7.ptrs.1⟩))
                        all_goals
                          clear hT6 hT7 H35 hnx6
                          go_wp2_with fail
                          go_meet
                          case rel =>
                            obtain ⟨⟨hb0, hb1, hb2, hb3⟩, hx⟩ := HBd.out
                            exact ⟨_, _, (takeL L0 ya yp), A0, L1, A1, rfl, rfl, hnx7.two, hb0.takeL _ _, hb1.more, hb2.more, hb3.more⟩
                    · as_aux_lemma =>
                        have e1 : (yk == 1) = false := by rw [beq_eq_false_iff_ne]; exact hk1
                        have e2 : (yk == 2) = false := by rw [beq_eq_false_iff_ne]; exact hk2
                        have h36 : Calls Try.prog 36 #[.pointer (some ⟨p, 0, none⟩), .int .i64 0, .int .i64 ya] wx (QX w p qa qb qt wr.heap.size ⟨yk, 0, ya, yp, yb⟩ (.slice ax n2 cx) [(.slice ax n2 cx, yb)] [(takeL L0 ya false), A0, L1, A1] [L0, A0] [L1, A1] (.int .i64 (takeC L0 ya))) := nx_lose (k := 0) (wy := 0) Hnx.out rfl (by omega) (by omega) rfl rfl (bd hb0) (bs hb0)
                        have h35 : ∀ wz, NX w p qa qb qt wr.heap.size ⟨yk, 0, ya, yp, yb⟩ (.slice ax n2 cx) [(.slice ax n2 cx, yb)] [(takeL L0 ya false), A0, L1, A1] [L0, A0] [L1, A1] wz → Calls Try.prog 35 #[.pointer (some ⟨qa, 0, none⟩), .int .i64 ya, .bool false] wz (QT w p qa qb qt wr.heap.size ⟨yk, 0, ya, yp, yb⟩ (.slice ax n2 cx) [(.slice ax n2 cx, yb)] [(takeL L0 ya false), A0, L1, A1] [(takeL L0 ya false), A0] [L1, A1] (takeB L0 ya) (takeC L0 ya)) := fun wz hz => nx_rtake_a hz rfl (bd hb0)
                        have H36 := hid h36
                        have H35 := hid h35
                        clear h36 h35 hfl bd bs hsm hd0 hd1 hd2 hd3 hd4 hk1 hk2
                        go_wp2_with fail
                        refine H36.out.mono ?_
                        rintro e w6 ⟨rfl, hnx6⟩
                        have hT6 : w6.cell? ⟨wr.heap.size, 1, none⟩ = some (.int .i64 0) ∧ w6.cell? ⟨wr.heap.size, 2, none⟩ = some (.int .i64 ya) ∧ w6.cell? ⟨qt, 0, none⟩ = some (.pointer (some ⟨qa, 0, none⟩)) := ⟨hnx6.cells.2.1, hnx6.cells.2.2.1, hnx6.ptrs.1⟩
                        clear c0 c1 c2 c3 c4 H36
                        go_wp2_with fail
                        go_region_held3 (fun wy => wy.cell? ⟨wr.heap.size, 1, none⟩ = some (.int .i64 0) ∧ wy.cell? ⟨wr.heap.size, 2, none⟩ = some (.int .i64 ya) ∧ wy.cell? ⟨qt, 0, none⟩ = some (.pointer (some ⟨qa, 0, none⟩)))
                          (first | exact hT6 | exact hT7)
                          (first | (go_at_call 35; refine (H35.out _ (hnx6.keepNo (Keeps.refl No _).drew)).mono ?_; rintro e w7 ⟨v7, rfl, hnx7⟩; have hT7 : w7.cell? ⟨wr.heap.size, 1, none⟩ = some (.int .i64 0) ∧ w7.cell? ⟨wr.heap.size, 2, none⟩ = some (.int .i64 ya) ∧ w7.cell? ⟨qt, 0, none⟩ = some (.pointer (some ⟨qa, 0, none⟩)) := ⟨hnx7.cells.2.1, hnx7.cells.2.2.1, hnx7.ptrs.1⟩))
                        all_goals
                          clear hT6 hT7 H35 hnx6
                          go_wp2_with fail
                          go_meet
                          case rel =>
                            obtain ⟨⟨hb0, hb1, hb2, hb3⟩, hx⟩ := HBd.out
                            exact ⟨_, [], (takeL L0 ya false), A0, L1, A1, rfl, rfl, hnx7.nils, hb0.takeL _ _, hb1.more, hb2.more, hb3.more⟩
                · subst hw
                  have hdc : decide ((1 : Int) = 0 ∨ (1 : Int) = 1) = true := by decide
                  rw [hdc]
                  clear hdc
                  by_cases hk1 : yk = 1
                  · subst hk1
                    as_aux_lemma =>
                      have hsl1 := fun wz => slice_front (a := ax) (n := n2) (c := cx) (m := kh) hkh hnc2 wz
                      have hsl2 := fun wz => slice_back (a := ax) (n := n2) (c := cx) (m := kh) hkh wz
                      have h32 : ∀ wz wy, Keeps No wx wz → Keeps No (wz.alloc (.cells #[.slice ax kh cx, .slice (backAddr ax cx kh) (n2 - kh) (cx - kh)] 47)) wy → Calls Try.prog 32 #[.pointer (some ⟨p, 0, none⟩), .int .i64 1, .slice (some ⟨wz.heap.size, 0, none⟩) 2 2] wy (QX w p qa qb qt wr.heap.size ⟨1, 1, ya, yp, yb⟩ (.slice ax n2 cx) [(.slice ax n2 cx, yb)] [L0, A0, (sL L1 yb), (A1 ++ [yb])] [L0, A0] [L1, A1] (.int .i64 (sendC L1))) := fun wz wy hk hk' => by
                        have hsl := SL.keep (halves ((Hnx.out.keepNo hk).sb (List.mem_cons_self ..)) hkh hnc2) hk' fun _ _ h => h
                        have hs := nx_send (k := 2) (wy := 1) ((Hnx.out.keepNo (hk.alloc _)).keepNo hk') rfl (by omega) (by omega) rfl rfl rfl hsl (bd hb2) (bd hb3) hsm
                        rw [hfl, putLs_n2] at hs
                        exact hs
                      have h33 : ∀ wz, NX w p qa qb qt wr.heap.size ⟨1, 1, ya, yp, yb⟩ (.slice ax n2 cx) [(.slice ax n2 cx, yb)] [L0, A0, (sL L1 yb), (A1 ++ [yb])] [L0, A0] [L1, A1] wz → Calls Try.prog 33 #[.pointer (some ⟨qb, 0, none⟩), .slice ax n2 cx] wz (QX w p qa qb qt wr.heap.size ⟨1, 1, ya, yp, yb⟩ (.slice ax n2 cx) [(.slice ax n2 cx, yb)] [L0, A0, (sL L1 yb), (A1 ++ [yb])] [L0, A0] [(sL L1 yb), (A1 ++ [yb])] (.int .i64 (sendC L1))) := fun wz hz => by
                        have hs := nx_rsend_b hz rfl rfl (List.mem_cons_self ..) (bd hb2) (bd hb3)
                        rw [putLs_r] at hs
                        exact hs
                      have H32 := hid h32
                      have H33 := hid h33
                      have hS : wx.cell? ⟨wr.heap.size, 1, none⟩ = some (.int .i64 1) ∧ wx.cell? ⟨wr.heap.size, 4, none⟩ = some (.slice ax n2 cx) := ⟨c1, c4⟩
                      have hSa : ∀ o, (wx.alloc o).cell? ⟨wr.heap.size, 1, none⟩ = some (.int .i64 1) ∧ (wx.alloc o).cell? ⟨wr.heap.size, 4, none⟩ = some (.slice ax n2 cx) := fun o => ⟨alloc_cell c1, alloc_cell c4⟩
                      have HSa := hid hSa
                      clear h32 h33 hSa hfl bd bs hsm hd0 hd1 hd2 hd3 hd4
                      go_wp2_with fail
                      go_region_held3 (fun wy => wy.cell? ⟨wr.heap.size, 1, none⟩ = some (.int .i64 1) ∧ wy.cell? ⟨wr.heap.size, 4, none⟩ = some (.slice ax n2 cx))
                        (first | exact hS | exact hS6 | exact HSa.out _)
                        (first | (go_at_call 32; refine (H32.out wx _ (Keeps.refl _ _) (Keeps.refl No _).drew).mono ?_; rintro e w6 ⟨rfl, hnx6⟩; have hS6 : w6.cell? ⟨wr.heap.size, 1, none⟩ = some (.int .i64 1) ∧ w6.cell? ⟨wr.heap.size, 4, none⟩ = some (.slice ax n2 cx) := ⟨hnx6.cells.2.1, hnx6.cells.2.2.2.2⟩))
                      all_goals
                        have hT6 : w6.cell? ⟨wr.heap.size, 1, none⟩ = some (.int .i64 1) ∧ w6.cell? ⟨wr.heap.size, 4, none⟩ = some (.slice ax n2 cx) ∧ w6.cell? ⟨qt, 1, none⟩ = some (.pointer (some ⟨qb, 0, none⟩)) := ⟨hS6.1, hS6.2, hnx6.ptrs.2⟩
                        clear hsl1 hsl2 hS hS6 HSa c0 c1 c2 c3 c4 H32
                        go_wp2_with fail
                        go_region_held3 (fun wy => wy.cell? ⟨wr.heap.size, 1, none⟩ = some (.int .i64 1) ∧ wy.cell? ⟨wr.heap.size, 4, none⟩ = some (.slice ax n2 cx) ∧ wy.cell? ⟨qt, 1, none⟩ = some (.pointer (some ⟨qb, 0, none⟩)))
                          (first | exact hT6 | exact hT7)
                          (first | (go_at_call 33; refine (H33.out _ (hnx6.keepNo (Keeps.refl No _).drew)).mono ?_; rintro e w7 ⟨rfl, hnx7⟩; have hT7 : w7.cell? ⟨wr.heap.size, 1, none⟩ = some (.int .i64 1) ∧ w7.cell? ⟨wr.heap.size, 4, none⟩ = some (.slice ax n2 cx) ∧ w7.cell? ⟨qt, 1, none⟩ = some (.pointer (some ⟨qb, 0, none⟩)) := ⟨hnx7.cells.2.1, hnx7.cells.2.2.2.2, hnx7.ptrs.2⟩))
                        all_goals
                          clear hT6 hT7 H33 hnx6
                          go_wp2_with fail
                          go_meet
                          case rel =>
                            obtain ⟨⟨hb0, hb1, hb2, hb3⟩, hx⟩ := HBd.out
                            exact ⟨_, [], L0, A0, (sL L1 yb), (A1 ++ [yb]), rfl, rfl, hnx7.nils, hb0.more, hb1.more, hb2.sL hx, hb3.snoc hx⟩
                  · by_cases hk2 : yk = 2
                    · subst hk2
                      as_aux_lemma =>
                        have h34 : Calls Try.prog 34 #[.pointer (some ⟨p, 0, none⟩), .int .i64 1, .int .i64 ya, .bool yp] wx (QT w p qa qb qt wr.heap.size ⟨2, 1, ya, yp, yb⟩ (.slice ax n2 cx) [(.slice ax n2 cx, yb)] [L0, A0, (takeL L1 ya yp), A1] [L0, A0] [L1, A1] (takeB L1 ya) (takeC L1 ya)) := nx_take (k := 2) (wy := 1) Hnx.out rfl (by omega) (by omega) rfl rfl (bd hb2) (bs hb2)
                        have h35 : ∀ wz v6, NX w p qa qb qt wr.heap.size ⟨2, 1, ya, yp, yb⟩ (.slice ax n2 cx) ((v6, takeB L1 ya) :: [(.slice ax n2 cx, yb)]) [L0, A0, (takeL L1 ya yp), A1] [L0, A0] [L1, A1] wz → Calls Try.prog 35 #[.pointer (some ⟨qb, 0, none⟩), .int .i64 ya, .bool yp] wz (QT w p qa qb qt wr.heap.size ⟨2, 1, ya, yp, yb⟩ (.slice ax n2 cx) ((v6, takeB L1 ya) :: [(.slice ax n2 cx, yb)]) [L0, A0, (takeL L1 ya yp), A1] [L0, A0] [(takeL L1 ya yp), A1] (takeB L1 ya) (takeC L1 ya)) := fun wz v6 hz => nx_rtake_b hz rfl (bd hb2)
                        have H34 := hid h34
                        have H35 := hid h35
                        clear h34 h35 hfl bd bs hsm hd0 hd1 hd2 hd3 hd4 hk1
                        go_wp2_with fail
                        refine H34.out.mono ?_
                        rintro e w6 ⟨v6, rfl, hnx6⟩
                        have hT6 : w6.cell? ⟨wr.heap.size, 1, none⟩ = some (.int .i64 1) ∧ w6.cell? ⟨wr.heap.size, 2, none⟩ = some (.int .i64 ya) ∧ w6.cell? ⟨wr.heap.size, 3, none⟩ = some (.bool yp) ∧ w6.cell? ⟨qt, 1, none⟩ = some (.pointer (some ⟨qb, 0, none⟩)) := ⟨hnx6.cells.2.1, hnx6.cells.2.2.1, hnx6.cells.2.2.2.1, hnx6.ptrs.2⟩
                        clear c0 c1 c2 c3 c4 H34
                        go_wp2_with fail
                        go_region_held3 (fun wy => wy.cell? ⟨wr.heap.size, 1, none⟩ = some (.int .i64 1) ∧ wy.cell? ⟨wr.heap.size, 2, none⟩ = some (.int .i64 ya) ∧ wy.cell? ⟨wr.heap.size, 3, none⟩ = some (.bool yp) ∧ wy.cell? ⟨qt, 1, none⟩ = some (.pointer (some ⟨qb, 0, none⟩)))
                          (first | exact hT6 | exact hT7)
                          (first | (go_at_call 35; refine (H35.out _ v6 (hnx6.keepNo (Keeps.refl No _).drew)).mono ?_; rintro e w7 ⟨v7, rfl, hnx7⟩; have hT7 : w7.cell? ⟨wr.heap.size, 1, none⟩ = some (.int .i64 1) ∧ w7.cell? ⟨wr.heap.size, 2, none⟩ = some (.int .i64 ya) ∧ w7.cell? ⟨wr.heap.size, 3, none⟩ = some (.bool yp) ∧ w7.cell? ⟨qt, 1, none⟩ = some (.pointer (some ⟨qb, 0, none⟩)) := ⟨hnx7.cells.2.1, hnx7.cells.2.2.1, hnx7.cells.2.2.2.1, hnx7.ptrs.2⟩))
                        all_goals
                          clear hT6 hT7 H35 hnx6
                          go_wp2_with fail
                          go_meet
                          case rel =>
                            obtain ⟨⟨hb0, hb1, hb2, hb3⟩, hx⟩ := HBd.out
                            exact ⟨_, _, L0, A0, (takeL L1 ya yp), A1, rfl, rfl, hnx7.two, hb0.more, hb1.more, hb2.takeL _ _, hb3.more⟩
                    · as_aux_lemma =>
                        have e1 : (yk == 1) = false := by rw [beq_eq_false_iff_ne]; exact hk1
                        have e2 : (yk == 2) = false := by rw [beq_eq_false_iff_ne]; exact hk2
                        have h36 : Calls Try.prog 36 #[.pointer (some ⟨p, 0, none⟩), .int .i64 1, .int .i64 ya] wx (QX w p qa qb qt wr.heap.size ⟨yk, 1, ya, yp, yb⟩ (.slice ax n2 cx) [(.slice ax n2 cx, yb)] [L0, A0, (takeL L1 ya false), A1] [L0, A0] [L1, A1] (.int .i64 (takeC L1 ya))) := nx_lose (k := 2) (wy := 1) Hnx.out rfl (by omega) (by omega) rfl rfl (bd hb2) (bs hb2)
                        have h35 : ∀ wz, NX w p qa qb qt wr.heap.size ⟨yk, 1, ya, yp, yb⟩ (.slice ax n2 cx) [(.slice ax n2 cx, yb)] [L0, A0, (takeL L1 ya false), A1] [L0, A0] [L1, A1] wz → Calls Try.prog 35 #[.pointer (some ⟨qb, 0, none⟩), .int .i64 ya, .bool false] wz (QT w p qa qb qt wr.heap.size ⟨yk, 1, ya, yp, yb⟩ (.slice ax n2 cx) [(.slice ax n2 cx, yb)] [L0, A0, (takeL L1 ya false), A1] [L0, A0] [(takeL L1 ya false), A1] (takeB L1 ya) (takeC L1 ya)) := fun wz hz => nx_rtake_b hz rfl (bd hb2)
                        have H36 := hid h36
                        have H35 := hid h35
                        clear h36 h35 hfl bd bs hsm hd0 hd1 hd2 hd3 hd4 hk1 hk2
                        go_wp2_with fail
                        refine H36.out.mono ?_
                        rintro e w6 ⟨rfl, hnx6⟩
                        have hT6 : w6.cell? ⟨wr.heap.size, 1, none⟩ = some (.int .i64 1) ∧ w6.cell? ⟨wr.heap.size, 2, none⟩ = some (.int .i64 ya) ∧ w6.cell? ⟨qt, 1, none⟩ = some (.pointer (some ⟨qb, 0, none⟩)) := ⟨hnx6.cells.2.1, hnx6.cells.2.2.1, hnx6.ptrs.2⟩
                        clear c0 c1 c2 c3 c4 H36
                        go_wp2_with fail
                        go_region_held3 (fun wy => wy.cell? ⟨wr.heap.size, 1, none⟩ = some (.int .i64 1) ∧ wy.cell? ⟨wr.heap.size, 2, none⟩ = some (.int .i64 ya) ∧ wy.cell? ⟨qt, 1, none⟩ = some (.pointer (some ⟨qb, 0, none⟩)))
                          (first | exact hT6 | exact hT7)
                          (first | (go_at_call 35; refine (H35.out _ (hnx6.keepNo (Keeps.refl No _).drew)).mono ?_; rintro e w7 ⟨v7, rfl, hnx7⟩; have hT7 : w7.cell? ⟨wr.heap.size, 1, none⟩ = some (.int .i64 1) ∧ w7.cell? ⟨wr.heap.size, 2, none⟩ = some (.int .i64 ya) ∧ w7.cell? ⟨qt, 1, none⟩ = some (.pointer (some ⟨qb, 0, none⟩)) := ⟨hnx7.cells.2.1, hnx7.cells.2.2.1, hnx7.ptrs.2⟩))
                        all_goals
                          clear hT6 hT7 H35 hnx6
                          go_wp2_with fail
                          go_meet
                          case rel =>
                            obtain ⟨⟨hb0, hb1, hb2, hb3⟩, hx⟩ := HBd.out
                            exact ⟨_, [], L0, A0, (takeL L1 ya false), A1, rfl, rfl, hnx7.nils, hb0.more, hb1.more, hb2.takeL _ _, hb3.more⟩
                · have w0 : ¬ yw = 0 := by omega
                  have w1 : ¬ yw = 1 := by omega
                  have hdc : decide (yw = 0 ∨ yw = 1) = false := by simp [w0, w1]
                  rw [hdc]
                  have hmade := Hnx.out.made rfl
                  have hmay : ∀ wz, Keeps No wx wz → Calls Try.prog 46 #[.pointer (some ⟨p, 0, none⟩), .int .i64 yw] wz (PInt 2 wz) := fun wz hk => may_out p yw wz ((hk.cell (cell_lt hmade) fun h => h).trans hmade) hw
                  have h32 : ∀ wz v, Keeps No wx wz → Calls Try.prog 32 #[.pointer (some ⟨p, 0, none⟩), .int .i64 yw, v] wz (PInt 2 wz) := fun wz v hk => send_bad 2 _ v yw wz (hmay wz hk) (by decide)
                  have h34 := take_bad 2 _ yw ya yp wx (hmay wx (Keeps.refl _ _)) (by decide)
                  have h36 := lose_bad 2 _ yw ya wx (hmay wx (Keeps.refl _ _)) (by decide)
                  have H32 := hid h32
                  have H34 := hid h34
                  have H36 := hid h36
                  clear hdc hmade hmay h32 h34 h36 hfl bd bs hsm hd0 hd1 hd2 hd3 hd4 hw
                  by_cases hk1 : yk = 1
                  · subst hk1
                    have hsl1 := fun wz => slice_front (a := ax) (n := n2) (c := cx) (m := kh) hkh hnc2 wz
                    have hsl2 := fun wz => slice_back (a := ax) (n := n2) (c := cx) (m := kh) hkh wz
                    have hS : wx.cell? ⟨wr.heap.size, 1, none⟩ = some (.int .i64 yw) ∧ wx.cell? ⟨wr.heap.size, 4, none⟩ = some (.slice ax n2 cx) := ⟨c1, c4⟩
                    have hSa : ∀ o, (wx.alloc o).cell? ⟨wr.heap.size, 1, none⟩ = some (.int .i64 yw) ∧ (wx.alloc o).cell? ⟨wr.heap.size, 4, none⟩ = some (.slice ax n2 cx) := fun o => ⟨alloc_cell c1, alloc_cell c4⟩
                    have HSa := hid hSa
                    have hka : ∀ o, Keeps No wx (wx.alloc o) := fun _ => (Keeps.refl _ _).alloc _
                    have Hka := hid hka
                    clear hSa hka
                    go_wp2_with fail
                    go_region_held3 (fun wy => wy.cell? ⟨wr.heap.size, 1, none⟩ = some (.int .i64 yw) ∧ wy.cell? ⟨wr.heap.size, 4, none⟩ = some (.slice ax n2 cx))
                      (first | exact hS | exact HSa.out _)
                      (first | (go_at_call 32; have hk6 := (Hka.out (.cells #[.slice ax kh cx, .slice (backAddr ax cx kh) (n2 - kh) (cx - kh)] 47)).then_ (Keeps.refl No _).drew; refine (H32.out _ _ hk6).mono ?_; rintro e w6 ⟨rfl, rfl⟩))
                    all_goals
                      have hnx7 := Hnx.out.keepNo hk6
                      clear hsl1 hsl2 hS HSa c0 c1 c2 c3 c4 H32 H34 H36
                      go_wp2_with fail
                      go_meet
                      case rel =>
                        obtain ⟨⟨hb0, hb1, hb2, hb3⟩, hx⟩ := HBd.out
                        exact ⟨_, [], L0, A0, L1, A1, rfl, rfl, hnx7.nils, hb0.more, hb1.more, hb2.more, hb3.more⟩
                  · by_cases hk2 : yk = 2
                    · subst hk2
                      clear hk1
                      go_wp2_with fail
                      refine H34.out.mono ?_
                      rintro e w6 ⟨rfl, rfl⟩
                      have hnx7 := Hnx.out
                      clear c0 c1 c2 c3 c4 H32 H34 H36
                      go_wp2_with fail
                      go_meet
                      case rel =>
                        obtain ⟨⟨hb0, hb1, hb2, hb3⟩, hx⟩ := HBd.out
                        exact ⟨_, [], L0, A0, L1, A1, rfl, rfl, hnx7.nils, hb0.more, hb1.more, hb2.more, hb3.more⟩
                    · have e1 : (yk == 1) = false := by rw [beq_eq_false_iff_ne]; exact hk1
                      have e2 : (yk == 2) = false := by rw [beq_eq_false_iff_ne]; exact hk2
                      clear hk1 hk2
                      go_wp2_with fail
                      refine H36.out.mono ?_
                      rintro e w6 ⟨rfl, rfl⟩
                      have hnx7 := Hnx.out
                      clear c0 c1 c2 c3 c4 H32 H34 H36
                      go_wp2_with fail
                      go_meet
                      case rel =>
                        obtain ⟨⟨hb0, hb1, hb2, hb3⟩, hx⟩ := HBd.out
                        exact ⟨_, [], L0, A0, L1, A1, rfl, rfl, hnx7.nils, hb0.more, hb1.more, hb2.more, hb3.more⟩
              case rest =>
                obtain ⟨z, x, M0, B0, M1, B1, rfl, rfl, hnx, hm0, hm1, hm2, hm3⟩ := hcut
                obtain ⟨ag, ng, cg, rfl, -⟩ := (hnx.sb (List.mem_cons_self ..)).opened
                obtain ⟨aw, nw, cw, rfl, -⟩ := (hnx.sb (List.mem_cons_of_mem _ (List.mem_cons_self ..))).opened
                have hby := bytes_any No No _ _ x x _ (hnx.sb (List.mem_cons_self ..)) (hnx.sb (List.mem_cons_of_mem _ (List.mem_cons_self ..)))
                rw [eqB_self] at hby
                have Hby := hid hby
                have Hnx2 := hid hnx
                have HB2 := hid (show _ ∧ _ ∧ _ ∧ _ from ⟨hm0, hm1, hm2, hm3⟩)
                have hzz : (z != z) = false := by simp
                clear hnx hby hm0 hm1 hm2 hm3 c0 c1 c2 c3 c4 hd0 hd1 hd2 hd3 hd4 Hnx
                go_wp2_with fail
                refine Hby.out.mono ?_
                rintro e wq ⟨rfl, kq, rfl⟩
                have Hnx3 := hid (Hnx2.out.keepNo ((Keeps.refl No _).drewN kq))
                clear Hnx2 Hby hzz
                generalize World.drewN _ kq = wq at *
                go_wp2_with fail
                go_loopw [17] (fun i wy => ∃ j : Nat, j ≤ 2 ∧ i = .int .i64 j ∧ Keeps No wq wy) (fun i _ => 2 - (intOf i).toNat)
                case atStart => exact ⟨0, by omega, rfl, Keeps.refl _ _⟩
                case round =>
                  obtain ⟨j, hj, rfl, hky⟩ := hrel
                  rcases (show j = 0 ∨ j = 1 ∨ j = 2 by omega) with hj0 | hj1 | hj2
                  · subst hj0
                    as_aux_lemma =>
                      have h38 : ∀ wz, Keeps No wq wz → Calls Try.prog 38 #[.pointer (some ⟨p, 0, none⟩), .int .i64 0] wz (PInt (M0.length : Int) wz) := fun wz hk => nx_len (k := 0) (Hnx3.out.keepNo hk) rfl (by omega) (by omega) rfl rfl
                      have h39 : ∀ wz, Keeps No wq wz → Calls Try.prog 39 #[.pointer (some ⟨p, 0, none⟩), .int .i64 0, .slice ab nb cb] wz (PB (hasB B0 bl) wz) := fun wz hk => nx_sent (M := No) (k := 0) (Hnx3.out.keepNo hk) rfl (by omega) (by omega) rfl rfl (SV.keep hb (Hnx3.out.kept.then_ hk) fun _ _ h => h)
                      have h40 : ∀ wz, Keeps No wq wz → Calls Try.prog 40 #[.pointer (some ⟨qa, 0, none⟩), .slice ab nb cb] wz (fun e w' => e = .returned (.bool (hasB B0 bl)) ∧ ∃ k, w' = wz.drewN k) := fun wz hk => nx_rsent_a (M := No) (Hnx3.out.keepNo hk) rfl (SV.keep hb (Hnx3.out.kept.then_ hk) fun _ _ h => h)
                      obtain ⟨cc, ad, hcc⟩ := nx_la Hnx3.out rfl
                      have hS : ∀ wz, Keeps No wq wz → wz.cell? ⟨qt, 0, none⟩ = some (.pointer (some ⟨qa, 0, none⟩)) ∧ wz.cell? ⟨qa, 0, none⟩ = some (.slice ad M0.length cc) := fun wz hk =>
                        ⟨(hk.cell (cell_lt Hnx3.out.ptrs.1) fun h => h).trans Hnx3.out.ptrs.1, (hk.cell (cell_lt hcc) fun h => h).trans hcc⟩
                      clear hcc
                      generalize M0.length = ml at *
                      generalize hasB B0 bl = hv at *
                      have hml : ((ml : Int) != (ml : Int)) = false := by simp
                      have hhv : (hv != hv) = false := by simp
                      have H38 := hid h38
                      have H39 := hid h39
                      have H40 := hid h40
                      have HS := hid hS
                      clear h38 h39 h40 hS
                      have hs0 := HS.out _ hky
                      go_wp2_with fail
                      go_region_held3 (fun wz => wz.cell? ⟨qt, 0, none⟩ = some (.pointer (some ⟨qa, 0, none⟩)) ∧ wz.cell? ⟨qa, 0, none⟩ = some (.slice ad ml cc))
                        (first | exact hs0 | exact HS.out _ (by first | assumption | exact Keeps.drew (by assumption) | exact Keeps.drewN (by assumption) _ | exact Keeps.drewN (Keeps.drew (by assumption)) _))
                        (first
                          | (go_at_call 38; refine (H38.out _ (by first | assumption | exact Keeps.drew (by assumption) | exact Keeps.drewN (by assumption) _)).mono ?_; rintro e w5 ⟨rfl, rfl⟩)
                          | (go_at_call 39; refine (H39.out _ (by first | assumption | exact Keeps.drew (by assumption) | exact Keeps.drewN (by assumption) _)).mono ?_; rintro e w5 ⟨rfl, hk5⟩; have hk6 := Keeps.then_ (by first | assumption | exact Keeps.drew (by assumption) | exact Keeps.drewN (by assumption) _) hk5)
                          | (go_at_call 40; refine (H40.out _ (by first | assumption | exact Keeps.drew (by assumption) | exact Keeps.drewN (by assumption) _)).mono ?_; rintro e w5 ⟨rfl, kk, rfl⟩))
                      all_goals
                        clear HS hs0 H38 H39 H40 hml hhv
                        go_wp2_with fail
                        go_roundw
                        case rel => exact ⟨1, by omega, by go_num, by first | assumption | exact Keeps.drew (by assumption) | exact Keeps.drewN (by assumption) _⟩
                        case measure => simp [intOf]
                  · subst hj1
                    as_aux_lemma =>
                      have h38 : ∀ wz, Keeps No wq wz → Calls Try.prog 38 #[.pointer (some ⟨p, 0, none⟩), .int .i64 1] wz (PInt (M1.length : Int) wz) := fun wz hk => nx_len (k := 2) (Hnx3.out.keepNo hk) rfl (by omega) (by omega) rfl rfl
                      have h39 : ∀ wz, Keeps No wq wz → Calls Try.prog 39 #[.pointer (some ⟨p, 0, none⟩), .int .i64 1, .slice ab nb cb] wz (PB (hasB B1 bl) wz) := fun wz hk => nx_sent (M := No) (k := 2) (Hnx3.out.keepNo hk) rfl (by omega) (by omega) rfl rfl (SV.keep hb (Hnx3.out.kept.then_ hk) fun _ _ h => h)
                      have h40 : ∀ wz, Keeps No wq wz → Calls Try.prog 40 #[.pointer (some ⟨qb, 0, none⟩), .slice ab nb cb] wz (fun e w' => e = .returned (.bool (hasB B1 bl)) ∧ ∃ k, w' = wz.drewN k) := fun wz hk => nx_rsent_b (M := No) (Hnx3.out.keepNo hk) rfl (SV.keep hb (Hnx3.out.kept.then_ hk) fun _ _ h => h)
                      obtain ⟨cc, ad, hcc⟩ := nx_lb Hnx3.out rfl
                      have hS : ∀ wz, Keeps No wq wz → wz.cell? ⟨qt, 1, none⟩ = some (.pointer (some ⟨qb, 0, none⟩)) ∧ wz.cell? ⟨qb, 0, none⟩ = some (.slice ad M1.length cc) := fun wz hk =>
                        ⟨(hk.cell (cell_lt Hnx3.out.ptrs.2) fun h => h).trans Hnx3.out.ptrs.2, (hk.cell (cell_lt hcc) fun h => h).trans hcc⟩
                      clear hcc
                      generalize M1.length = ml at *
                      generalize hasB B1 bl = hv at *
                      have hml : ((ml : Int) != (ml : Int)) = false := by simp
                      have hhv : (hv != hv) = false := by simp
                      have H38 := hid h38
                      have H39 := hid h39
                      have H40 := hid h40
                      have HS := hid hS
                      clear h38 h39 h40 hS
                      have hs0 := HS.out _ hky
                      go_wp2_with fail
                      go_region_held3 (fun wz => wz.cell? ⟨qt, 1, none⟩ = some (.pointer (some ⟨qb, 0, none⟩)) ∧ wz.cell? ⟨qb, 0, none⟩ = some (.slice ad ml cc))
                        (first | exact hs0 | exact HS.out _ (by first | assumption | exact Keeps.drew (by assumption) | exact Keeps.drewN (by assumption) _ | exact Keeps.drewN (Keeps.drew (by assumption)) _))
                        (first
                          | (go_at_call 38; refine (H38.out _ (by first | assumption | exact Keeps.drew (by assumption) | exact Keeps.drewN (by assumption) _)).mono ?_; rintro e w5 ⟨rfl, rfl⟩)
                          | (go_at_call 39; refine (H39.out _ (by first | assumption | exact Keeps.drew (by assumption) | exact Keeps.drewN (by assumption) _)).mono ?_; rintro e w5 ⟨rfl, hk5⟩; have hk6 := Keeps.then_ (by first | assumption | exact Keeps.drew (by assumption) | exact Keeps.drewN (by assumption) _) hk5)
                          | (go_at_call 40; refine (H40.out _ (by first | assumption | exact Keeps.drew (by assumption) | exact Keeps.drewN (by assumption) _)).mono ?_; rintro e w5 ⟨rfl, kk, rfl⟩))
                      all_goals
                        clear HS hs0 H38 H39 H40 hml hhv
                        go_wp2_with fail
                        go_roundw
                        case rel => exact ⟨2, by omega, by go_num, by first | assumption | exact Keeps.drew (by assumption) | exact Keeps.drewN (by assumption) _⟩
                        case measure => simp [intOf]
                  · subst hj2
                    as_aux_lemma =>
                      obtain ⟨vs9, va9, vb9, hns9, -⟩ := Hnx3.out.keepNo hky
                      have Hns9 := hid hns9
                      clear hns9 Hnx3 hky
                      go_wp2_with fail
                      go_roundw
                      case rel => exact ⟨k + 1, vs9, va9, vb9, M0, B0, M1, B1, by omega, by go_num, Hns9.out, HB2.out⟩
                      case measure => simp [intOf]; omega
          · clear h' hub hns hM
            go_wp2_with fail
            go_ret
            exact ⟨rfl, hK.alloc _⟩
        · as_aux_lemma =>
            have hmade := RowsAt.made hns.1 rfl
            have hkw := hns.2.2.2.2.2.2.2.1
            have hpl : (wr.alloc (.cells #[.slice none 0 0, .slice none 0 0, .slice none 0 0, .slice none 0 0, .bool false] 86)).cell? ⟨wr.heap.size, 4, none⟩ = some (.bool false) := cell_new wr _ _ _ 4
            have hmd := alloc_cell (o := .cells #[.slice none 0 0, .slice none 0 0, .slice none 0 0, .slice none 0 0, .bool false] 86) hmade
            have hkz := hkw.alloc (.cells #[.slice none 0 0, .slice none 0 0, .slice none 0 0, .slice none 0 0, .bool false] 86)
            have HM := hid (show _ ∧ _ ∧ _ from ⟨hpl, hmd, hkz⟩)
            clear hns hb0 hb1 hb2 hb3 hmade hkw hpl hmd hkz
            go_wp2_with fail
            generalize wr.heap.size = gp at *
            generalize (wr.alloc _) = wz at *
            obtain ⟨hpl, hmd, hkz⟩ := HM.out
            have m0 := fun zz => may_none zz wz
            have m1 := fun zz => may_plain gp zz wz hpl
            have m2 := may_out p 2 wz hmd (.inr (by omega))
            have m3 := may_out p (-1) wz hmd (.inl (by omega))
            have H34 := hid (take_bad 1 _ 0 0 true wz (m0 0) (by decide))
            have H32a := hid (send_bad 1 _ (.slice none 0 0) 0 wz (m0 0) (by decide))
            have H32b := hid (send_bad 1 _ (.slice none 0 0) 1 wz (m1 1) (by decide))
            have H36 := hid (lose_bad 1 _ 0 0 wz (m1 0) (by decide))
            have H38a := hid (len_bad 1 _ 0 wz (m0 0) (by decide))
            have H38b := hid (len_bad 1 _ 1 wz (m1 1) (by decide))
            have H38c := hid (len_bad 2 _ 2 wz m2 (by decide))
            have H38d := hid (len_bad 2 _ (-1) wz m3 (by decide))
            have H39a := hid (sent_bad 1 (.pointer none) ab nb cb 0 wz (fun o => may_none 0 _) (by decide))
            have H39b := hid (fun wy (hk : Keeps No wz wy) => sent_bad 2 (.pointer (some ⟨p, 0, none⟩)) ab nb cb 2 wy (fun o => may_out p 2 _ (((hk.alloc o).cell (cell_lt hmd) fun h => h).trans hmd) (.inr (by omega))) (by decide))
            have HKz := hid hkz
            clear m0 m1 m2 m3 hpl hmd hkz HM
            refine H34.out.mono ?_
            rintro e wy ⟨rfl, rfl⟩
            go_wp2_with fail
            refine H32a.out.mono ?_
            rintro e wy ⟨rfl, rfl⟩
            go_wp2_with fail
            refine H32b.out.mono ?_
            rintro e wy ⟨rfl, rfl⟩
            go_wp2_with fail
            refine H36.out.mono ?_
            rintro e wy ⟨rfl, rfl⟩
            go_wp2_with fail
            refine H38a.out.mono ?_
            rintro e wy ⟨rfl, rfl⟩
            go_wp2_with fail
            refine H38b.out.mono ?_
            rintro e wy ⟨rfl, rfl⟩
            go_wp2_with fail
            refine H38c.out.mono ?_
            rintro e wy ⟨rfl, rfl⟩
            go_wp2_with fail
            refine H38d.out.mono ?_
            rintro e wy ⟨rfl, rfl⟩
            go_wp2_with fail
            refine H39a.out.mono ?_
            rintro e wy ⟨rfl, hky⟩
            go_wp2_with fail
            refine (H39b.out _ hky).mono ?_
            rintro e wx ⟨rfl, hkx⟩
            go_wp2_with fail
            go_ret
            exact ⟨rfl, (HKz.out.then_ hky).then_ hkx⟩
    · go_wp2_with fail
      all_goals
        go_ret
        exact ⟨rfl, hk1⟩
  · go_wp2_with fail
    go_ret
    exact ⟨rfl, hk1⟩
end Go.Proofs.Ytdkmfppdiggpfaa
