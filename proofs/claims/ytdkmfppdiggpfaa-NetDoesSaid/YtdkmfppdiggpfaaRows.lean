/-
  No cell of these rows narrows 'for every input' (looked for: loops, veiled, ifaces, maps, wideKeys, modest, calm, conditions, laid).
  DERIVED. THE GIVEN ROWS OF THIS SEAT. 7 by the template 'for every input the law returns true; each argument reads behind the call as it read before'; 0 by the template 'total and deterministic' (their statements: YtdkmfppdiggpfaaTotals.lean).
  GIVEN WITH THE SEED: the statements are not yours to turn. If you find one false, say at which input.
  Laid BY PROGRAM, IN A SANDBOX (cutbox-rows.mjs): the forced cells as the released guide's own fill.sh prints them over the translation e4620c6c5fc36061… (all of the seat's roots in one cut). By AI agents, Wed Nov 11 2026. No macro, syntax, notation, axiom, sorry.
-/
import Derived.Test.YtdkmfppdiggpfaaChecked
import GoSem.Claim
import GoSem.ClaimJoined
import GoSem.ClaimMapViews
import Derived.JoinedTies
import Derived.KernelRfl
namespace Go.Proofs.Ytdkmfppdiggpfaa
/- THE CELL 'sum', in the pinned program and in every row, IS THE sha256 OF THE DUMP (.gsa) THAT YtdkmfppdiggpfaaProg.lean LOADS. Nothing in Lean hashes anything: it is a label: what it is worth is what the hold of that sum in a sandbox is worth. -/
noncomputable def Try.pinned : Pinned := { name := "ytdkmfppdiggpfaa", sum := "e4620c6c5fc36061da5fb7485ed05084b3f707be5ea460b44228933f8f10e58f", checked := Try.checked }
namespace Rows
def none {H : Type} : Left H := { results := [], args := [] }

/-- 'winnowerlaw01.NatHolds': WHATEVER THE INPUT: true; the input reads as it did. -/
def natHoldsSpec : ChangeSpec := { name := "natHolds", fn := fun _ => fun
  | [d1, d2, d3] => { results := [.lit (.bool true)], args := [d1, d2, d3] }
  | _ => none }
def natHoldsRow : OpenClaim := { program := "ytdkmfppdiggpfaa", sum := "e4620c6c5fc36061da5fb7485ed05084b3f707be5ea460b44228933f8f10e58f", func := "winnower/winnowerlaw01.NatHolds", spec := "natHolds", apart := false }
def NatHoldsSaid : Prop := natHoldsRow.holds Try.pinned (OpenSpec.ofChange natHoldsSpec)

/-- ITS FALSE NEIGHBOUR: 'it returns false'. Refute it at one input. -/
def natHoldsWrong : ChangeSpec := { name := "natHolds", fn := fun _ => fun
  | [d1, d2, d3] => { results := [.lit (.bool false)], args := [d1, d2, d3] }
  | _ => none }
def NatHoldsWrongFalsely : Prop := natHoldsRow.holds Try.pinned (OpenSpec.ofChange natHoldsWrong)

/-- 'winnowerlaw01.NatSums': WHATEVER THE INPUT: true; the input reads as it did. -/
def natSumsSpec : ChangeSpec := { name := "natSums", fn := fun _ => fun
  | [d1, d2] => { results := [.lit (.bool true)], args := [d1, d2] }
  | _ => none }
def natSumsRow : OpenClaim := { program := "ytdkmfppdiggpfaa", sum := "e4620c6c5fc36061da5fb7485ed05084b3f707be5ea460b44228933f8f10e58f", func := "winnower/winnowerlaw01.NatSums", spec := "natSums", apart := false }
def NatSumsSaid : Prop := natSumsRow.holds Try.pinned (OpenSpec.ofChange natSumsSpec)

/-- ITS FALSE NEIGHBOUR: 'it returns false'. Refute it at one input. -/
def natSumsWrong : ChangeSpec := { name := "natSums", fn := fun _ => fun
  | [d1, d2] => { results := [.lit (.bool false)], args := [d1, d2] }
  | _ => none }
def NatSumsWrongFalsely : Prop := natSumsRow.holds Try.pinned (OpenSpec.ofChange natSumsWrong)

/-- 'winnowerlaw01.NatLogs': WHATEVER THE INPUT: true; the input reads as it did. -/
def natLogsSpec : ChangeSpec := { name := "natLogs", fn := fun _ => fun
  | [d] => { results := [.lit (.bool true)], args := [d] }
  | _ => none }
def natLogsRow : OpenClaim := { program := "ytdkmfppdiggpfaa", sum := "e4620c6c5fc36061da5fb7485ed05084b3f707be5ea460b44228933f8f10e58f", func := "winnower/winnowerlaw01.NatLogs", spec := "natLogs", apart := false }
def NatLogsSaid : Prop := natLogsRow.holds Try.pinned (OpenSpec.ofChange natLogsSpec)

/-- ITS FALSE NEIGHBOUR: 'it returns false'. Refute it at one input. -/
def natLogsWrong : ChangeSpec := { name := "natLogs", fn := fun _ => fun
  | [d] => { results := [.lit (.bool false)], args := [d] }
  | _ => none }
def NatLogsWrongFalsely : Prop := natLogsRow.holds Try.pinned (OpenSpec.ofChange natLogsWrong)

/-- 'winnowerlaw01.NatMiddle': WHATEVER THE INPUT: true; the input reads as it did. -/
def natMiddleSpec : ChangeSpec := { name := "natMiddle", fn := fun _ => fun
  | [d1, d2] => { results := [.lit (.bool true)], args := [d1, d2] }
  | _ => none }
def natMiddleRow : OpenClaim := { program := "ytdkmfppdiggpfaa", sum := "e4620c6c5fc36061da5fb7485ed05084b3f707be5ea460b44228933f8f10e58f", func := "winnower/winnowerlaw01.NatMiddle", spec := "natMiddle", apart := false }
def NatMiddleSaid : Prop := natMiddleRow.holds Try.pinned (OpenSpec.ofChange natMiddleSpec)

/-- ITS FALSE NEIGHBOUR: 'it returns false'. Refute it at one input. -/
def natMiddleWrong : ChangeSpec := { name := "natMiddle", fn := fun _ => fun
  | [d1, d2] => { results := [.lit (.bool false)], args := [d1, d2] }
  | _ => none }
def NatMiddleWrongFalsely : Prop := natMiddleRow.holds Try.pinned (OpenSpec.ofChange natMiddleWrong)

/-- 'winnowerlaw01.NatSplits': WHATEVER THE INPUT: true; the input reads as it did. -/
def natSplitsSpec : ChangeSpec := { name := "natSplits", fn := fun _ => fun
  | [d1, d2, d3] => { results := [.lit (.bool true)], args := [d1, d2, d3] }
  | _ => none }
def natSplitsRow : OpenClaim := { program := "ytdkmfppdiggpfaa", sum := "e4620c6c5fc36061da5fb7485ed05084b3f707be5ea460b44228933f8f10e58f", func := "winnower/winnowerlaw01.NatSplits", spec := "natSplits", apart := false }
def NatSplitsSaid : Prop := natSplitsRow.holds Try.pinned (OpenSpec.ofChange natSplitsSpec)

/-- ITS FALSE NEIGHBOUR: 'it returns false'. Refute it at one input. -/
def natSplitsWrong : ChangeSpec := { name := "natSplits", fn := fun _ => fun
  | [d1, d2, d3] => { results := [.lit (.bool false)], args := [d1, d2, d3] }
  | _ => none }
def NatSplitsWrongFalsely : Prop := natSplitsRow.holds Try.pinned (OpenSpec.ofChange natSplitsWrong)

/-- 'winnowerlaw44.LotDraws': WHATEVER THE INPUT: true; the input reads as it did. -/
def lotDrawsSpec : ChangeSpec := { name := "lotDraws", fn := fun _ => fun
  | [d1, d2, d3] => { results := [.lit (.bool true)], args := [d1, d2, d3] }
  | _ => none }
def lotDrawsRow : OpenClaim := { program := "ytdkmfppdiggpfaa", sum := "e4620c6c5fc36061da5fb7485ed05084b3f707be5ea460b44228933f8f10e58f", func := "winnower/winnowerlaw44.LotDraws", spec := "lotDraws", apart := false }
def LotDrawsSaid : Prop := lotDrawsRow.holds Try.pinned (OpenSpec.ofChange lotDrawsSpec)

/-- ITS FALSE NEIGHBOUR: 'it returns false'. Refute it at one input. -/
def lotDrawsWrong : ChangeSpec := { name := "lotDraws", fn := fun _ => fun
  | [d1, d2, d3] => { results := [.lit (.bool false)], args := [d1, d2, d3] }
  | _ => none }
def LotDrawsWrongFalsely : Prop := lotDrawsRow.holds Try.pinned (OpenSpec.ofChange lotDrawsWrong)

/-- 'winnowerlaw39.NetDoes': WHATEVER THE INPUT: true; the input reads as it did. -/
def netDoesSpec : ChangeSpec := { name := "netDoes", fn := fun _ => fun
  | [d1, d2] => { results := [.lit (.bool true)], args := [d1, d2] }
  | _ => none }
def netDoesRow : OpenClaim := { program := "ytdkmfppdiggpfaa", sum := "e4620c6c5fc36061da5fb7485ed05084b3f707be5ea460b44228933f8f10e58f", func := "winnower/winnowerlaw39.NetDoes", spec := "netDoes", unfollowed := true, recurses := true, apart := false }
def NetDoesSaid : Prop := netDoesRow.holds Try.pinned (OpenSpec.ofChange netDoesSpec)

/-- ITS FALSE NEIGHBOUR: 'it returns false'. Refute it at one input. -/
def netDoesWrong : ChangeSpec := { name := "netDoes", fn := fun _ => fun
  | [d1, d2] => { results := [.lit (.bool false)], args := [d1, d2] }
  | _ => none }
def NetDoesWrongFalsely : Prop := netDoesRow.holds Try.pinned (OpenSpec.ofChange netDoesWrong)

/- THE SECOND FORM. 'bulk': how many values and letters a reading holds, each counted each time it is reached (what is shared counts as often as it is met; a slice's spare places count too). A statement '..UptoSaid' is the law's where the arguments, and the package variables that the reading takes, are together of bulk at most 1048576: NARROWER than '..Said'. Prove '..Said' where nothing that the law and all that it calls make is longer than what came in: it says more and counts as full. Else prove '..UptoSaid'. A law counts once. -/
mutual
def uptoBulk {H : Type} : DataW H → Nat
  | .lit (.string bytes) => bytes.length + 1
  | .lit _ => 1
  | .nil => 1
  | .ptr d => uptoBulk d + 1
  | .slice elems spare => uptoBulkAll elems + uptoBulkAll spare + 1
  | .agg parts => uptoBulkAll parts + 1
  | .iface _ d => uptoBulk d + 1
  | .map entries => uptoBulkEntries entries + 1
  | .held _ => 1
def uptoBulkAll {H : Type} : List (DataW H) → Nat
  | [] => 0
  | d :: r => uptoBulk d + uptoBulkAll r
def uptoBulkEntries {H : Type} : List (Lit × DataW H) → Nat
  | [] => 0
  | x :: r => uptoBulkEntry x + uptoBulkEntries r
def uptoBulkEntry {H : Type} : Lit × DataW H → Nat
  | (.string bytes, d) => bytes.length + uptoBulk d + 1
  | (_, d) => uptoBulk d + 1
 end
def uptoSmall : (H : Type) → List (DataW H) → Bool := fun _ ds => decide (uptoBulkAll ds ≤ 1048576)
def OpenSpec.upto (s : _root_.Go.ChangeSpec) : _root_.Go.OpenSpec := { _root_.Go.OpenSpec.ofChange s with cond := some uptoSmall }

/-- 'winnowerlaw01.NatHolds', WHERE WHAT IT READS IS OF BULK AT MOST 1048576: true; the input reads as it did. -/
def natHoldsUptoRow : OpenClaim := { program := "ytdkmfppdiggpfaa", sum := "e4620c6c5fc36061da5fb7485ed05084b3f707be5ea460b44228933f8f10e58f", func := "winnower/winnowerlaw01.NatHolds", spec := "natHolds", apart := false, narrowed := true }
def NatHoldsUptoSaid : Prop := natHoldsUptoRow.holds Try.pinned (OpenSpec.upto natHoldsSpec)

/-- 'winnowerlaw01.NatSums', WHERE WHAT IT READS IS OF BULK AT MOST 1048576: true; the input reads as it did. -/
def natSumsUptoRow : OpenClaim := { program := "ytdkmfppdiggpfaa", sum := "e4620c6c5fc36061da5fb7485ed05084b3f707be5ea460b44228933f8f10e58f", func := "winnower/winnowerlaw01.NatSums", spec := "natSums", apart := false, narrowed := true }
def NatSumsUptoSaid : Prop := natSumsUptoRow.holds Try.pinned (OpenSpec.upto natSumsSpec)

/-- 'winnowerlaw01.NatLogs', WHERE WHAT IT READS IS OF BULK AT MOST 1048576: true; the input reads as it did. -/
def natLogsUptoRow : OpenClaim := { program := "ytdkmfppdiggpfaa", sum := "e4620c6c5fc36061da5fb7485ed05084b3f707be5ea460b44228933f8f10e58f", func := "winnower/winnowerlaw01.NatLogs", spec := "natLogs", apart := false, narrowed := true }
def NatLogsUptoSaid : Prop := natLogsUptoRow.holds Try.pinned (OpenSpec.upto natLogsSpec)

/-- 'winnowerlaw01.NatMiddle', WHERE WHAT IT READS IS OF BULK AT MOST 1048576: true; the input reads as it did. -/
def natMiddleUptoRow : OpenClaim := { program := "ytdkmfppdiggpfaa", sum := "e4620c6c5fc36061da5fb7485ed05084b3f707be5ea460b44228933f8f10e58f", func := "winnower/winnowerlaw01.NatMiddle", spec := "natMiddle", apart := false, narrowed := true }
def NatMiddleUptoSaid : Prop := natMiddleUptoRow.holds Try.pinned (OpenSpec.upto natMiddleSpec)

/-- 'winnowerlaw01.NatSplits', WHERE WHAT IT READS IS OF BULK AT MOST 1048576: true; the input reads as it did. -/
def natSplitsUptoRow : OpenClaim := { program := "ytdkmfppdiggpfaa", sum := "e4620c6c5fc36061da5fb7485ed05084b3f707be5ea460b44228933f8f10e58f", func := "winnower/winnowerlaw01.NatSplits", spec := "natSplits", apart := false, narrowed := true }
def NatSplitsUptoSaid : Prop := natSplitsUptoRow.holds Try.pinned (OpenSpec.upto natSplitsSpec)

/-- 'winnowerlaw44.LotDraws', WHERE WHAT IT READS IS OF BULK AT MOST 1048576: true; the input reads as it did. -/
def lotDrawsUptoRow : OpenClaim := { program := "ytdkmfppdiggpfaa", sum := "e4620c6c5fc36061da5fb7485ed05084b3f707be5ea460b44228933f8f10e58f", func := "winnower/winnowerlaw44.LotDraws", spec := "lotDraws", apart := false, narrowed := true }
def LotDrawsUptoSaid : Prop := lotDrawsUptoRow.holds Try.pinned (OpenSpec.upto lotDrawsSpec)

/-- 'winnowerlaw39.NetDoes', WHERE WHAT IT READS IS OF BULK AT MOST 1048576: true; the input reads as it did. -/
def netDoesUptoRow : OpenClaim := { program := "ytdkmfppdiggpfaa", sum := "e4620c6c5fc36061da5fb7485ed05084b3f707be5ea460b44228933f8f10e58f", func := "winnower/winnowerlaw39.NetDoes", spec := "netDoes", unfollowed := true, recurses := true, apart := false, narrowed := true }
def NetDoesUptoSaid : Prop := netDoesUptoRow.holds Try.pinned (OpenSpec.upto netDoesSpec)

end Rows
end Go.Proofs.Ytdkmfppdiggpfaa
