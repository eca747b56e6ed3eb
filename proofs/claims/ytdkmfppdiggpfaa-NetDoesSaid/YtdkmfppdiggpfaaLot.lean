/- Plain: what a seed draws. No program in sight. -/
namespace Wn

def hStep (h c : Nat) : Nat := (h ^^^ c) * 1099511628211 % 18446744073709551616
def hRun (h : Nat) (l : List UInt8) : Nat := l.foldl (fun h c => hStep h c.toNat) h
def hBase : Nat := 14695981039346656037
def hEnd (h : Nat) : Nat := h ^^^ (h / 4294967296)
/-- The hash of bytes. -/
def hOf (l : List UInt8) : Nat := hEnd (hRun hBase l)
theorem hStep_lt (h c : Nat) : hStep h c < 18446744073709551616 := by
  unfold hStep
  exact Nat.mod_lt _ (by omega)
theorem hRun_snoc (h : Nat) (l : List UInt8) (c : UInt8) : hRun h (l ++ [c]) = hStep (hRun h l) c.toNat := by
  unfold hRun
  rw [List.foldl_append, List.foldl_cons, List.foldl_nil]
theorem hRun_app (h : Nat) (l m : List UInt8) : hRun h (l ++ m) = hRun (hRun h l) m := by
  unfold hRun
  rw [List.foldl_append]
theorem hRun_lt (l : List UInt8) : ∀ h, h < 18446744073709551616 → hRun h l < 18446744073709551616 := by
  induction l with
  | nil => intro h hh; exact hh
  | cons c l ih => intro h _; exact ih _ (hStep_lt _ _)
theorem hEnd_lt {h : Nat} (hh : h < 18446744073709551616) : hEnd h < 18446744073709551616 := by
  unfold hEnd
  exact Nat.xor_lt_two_pow (n := 64) (by omega) (by omega)
theorem hBase_lt : hBase < 18446744073709551616 := by unfold hBase; omega
theorem hOf_lt (l : List UInt8) : hOf l < 18446744073709551616 := by
  unfold hOf
  exact hEnd_lt (hRun_lt l _ hBase_lt)

/-- The state behind a draw. -/
def nx (s : Nat) : Nat := (s + 11400714819323198485) % 18446744073709551616
theorem nx_lt (s : Nat) : nx s < 18446744073709551616 := by
  unfold nx
  exact Nat.mod_lt _ (by omega)
/-- A state's bytes. -/
def by8 (s : Nat) : List UInt8 := (List.range 8).map fun i => UInt8.ofNat (s / 256 ^ i)
theorem by8_succ (s k : Nat) (hk : k < 8) : (by8 s).take (k + 1) = (by8 s).take k ++ [UInt8.ofNat (s / 256 ^ k)] := by
  have hl : k < (by8 s).length := by simp [by8]; exact hk
  rw [List.take_succ_eq_append_getElem hl]
  congr 2
  simp [by8]
theorem by8_length (s : Nat) : (by8 s).length = 8 := by simp [by8]
/-- What is drawn. -/
def dr (s : Nat) : Nat := hOf (by8 (nx s))
theorem dr_lt (s : Nat) : dr s < 18446744073709551616 := by
  unfold dr
  exact hOf_lt _

/-- An event: its kind, two numbers, whether it is kept. -/
structure Evt where
  kind : Int
  at_ : Int
  n : Int
  keep : Bool
def evN (n s : Nat) : Evt × Nat :=
  if n < 4 then (⟨1, 0, 0, false⟩, nx s) else
  if n < 8 then (⟨2, (dr (nx s) % 2 : Nat), 0, decide (dr (nx (nx s)) % 4 = 0)⟩, nx (nx (nx s))) else
  if n < 12 then (⟨3, (dr (nx s) % 2 : Nat), 0, decide (dr (nx (nx s)) % 4 = 0)⟩, nx (nx (nx s))) else
  if n = 12 then (⟨4, (dr (nx (nx s)) % 2 : Nat), (dr (nx s) % 2 : Nat), false⟩, nx (nx (nx s))) else
  if n = 13 then (⟨5, 0, 0, false⟩, nx s) else
  if n = 14 then (⟨6, 0, 0, false⟩, nx s) else
  (⟨7, (dr (nx (nx s)) % 64 : Nat), (dr (nx s) % 6 : Nat), false⟩, nx (nx (nx s)))
def evOf (s : Nat) : Evt × Nat := evN (dr s % 16) s
theorem evOf_lt (s : Nat) : (evOf s).2 < 18446744073709551616 := by
  unfold evOf evN
  repeat' split
  all_goals exact nx_lt _
/-- What is drawn below a number. -/
def below (s : Nat) (k : Int) : Int × Nat := if k < 1 then (0, s) else ((dr s % k.toNat : Nat), nx s)
/-- What a state tells, so often: by any step. -/
def evsF (f : Nat → Evt × Nat) : Nat → Nat → List Evt × Nat
  | 0, s => ([], s)
  | k + 1, s => ((evsF f k s).1 ++ [(f (evsF f k s).2).1], (f (evsF f k s).2).2)
theorem evsF_succ (f : Nat → Evt × Nat) (k s : Nat) : (evsF f (k + 1) s).1 = (evsF f k s).1 ++ [(f (evsF f k s).2).1] ∧ (evsF f (k + 1) s).2 = (f (evsF f k s).2).2 := ⟨rfl, rfl⟩
theorem evsF_zero (f : Nat → Evt × Nat) (s : Nat) : evsF f 0 s = ([], s) := rfl
end Wn
