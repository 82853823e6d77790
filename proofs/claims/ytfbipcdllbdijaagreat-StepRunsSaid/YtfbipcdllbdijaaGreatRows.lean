/-
  No cell of these rows narrows 'for every input' (looked for: loops, veiled, ifaces, maps, wideKeys, modest, calm, conditions, laid).
  DERIVED. THE GIVEN ROWS OF THIS SEAT. 4 by the template 'for every input the law returns true; each argument reads behind the call as it read before'; 0 by the template 'total and deterministic' (their statements: YtfbipcdllbdijaaGreatTotals.lean).
  GIVEN WITH THE SEED: the statements are not yours to turn. If you find one false, say at which input.
  Laid BY PROGRAM, IN A SANDBOX (cutbox-rows.mjs): the forced cells as the released guide's own fill.sh prints them over the translation a535f9f0367a4666… (all of the seat's roots in one cut). By AI agents, Wed Nov 11 2026. No macro, syntax, notation, axiom, sorry.
-/
import Derived.Test.YtfbipcdllbdijaaGreatChecked
import GoSem.Claim
import GoSem.ClaimJoined
import GoSem.ClaimMapViews
import Derived.JoinedTies
import Derived.KernelRfl
namespace Go.Proofs.YtfbipcdllbdijaaGreat
/- THE CELL 'sum', in the pinned program and in every row, IS THE sha256 OF THE DUMP (.gsa) THAT YtfbipcdllbdijaaGreatProg.lean LOADS. Nothing in Lean hashes anything: it is a label: what it is worth is what the hold of that sum in a sandbox is worth. -/
noncomputable def Tryz.pinned : Pinned := { name := "ytfbipcdllbdijaagreat", sum := "a535f9f0367a4666e2905d1035316520759b6052b182b9b0d9c88bc8db2b51b5", checked := Tryz.checked }
namespace Rows
def none {H : Type} : Left H := { results := [], args := [] }

/-- 'fathomlaw28.StepTurns': WHATEVER THE INPUT: true; the input reads as it did. -/
def stepTurnsSpec : ChangeSpec := { name := "stepTurns", fn := fun _ => fun
  | [d1, d2, d3] => { results := [.lit (.bool true)], args := [d1, d2, d3] }
  | _ => none }
def stepTurnsRow : OpenClaim := { program := "ytfbipcdllbdijaagreat", sum := "a535f9f0367a4666e2905d1035316520759b6052b182b9b0d9c88bc8db2b51b5", func := "fathom/fathomlaw28.StepTurns", spec := "stepTurns", inPlace := ["internal/bytealg.IndexByteString", "internal/bytealg.IndexString"], unfollowed := true, recurses := true, named := ["internal/bytealg.MaxLen"], apart := false }
def StepTurnsSaid : Prop := stepTurnsRow.holds Tryz.pinned (OpenSpec.ofChange stepTurnsSpec)

/-- ITS FALSE NEIGHBOUR: 'it returns false'. Refute it at one input. -/
def stepTurnsWrong : ChangeSpec := { name := "stepTurns", fn := fun _ => fun
  | [d1, d2, d3] => { results := [.lit (.bool false)], args := [d1, d2, d3] }
  | _ => none }
def StepTurnsWrongFalsely : Prop := stepTurnsRow.holds Tryz.pinned (OpenSpec.ofChange stepTurnsWrong)

/-- 'fathomlaw28.StepEnds': WHATEVER THE INPUT: true; the input reads as it did. -/
def stepEndsSpec : ChangeSpec := { name := "stepEnds", fn := fun _ => fun
  | [d1, d2] => { results := [.lit (.bool true)], args := [d1, d2] }
  | _ => none }
def stepEndsRow : OpenClaim := { program := "ytfbipcdllbdijaagreat", sum := "a535f9f0367a4666e2905d1035316520759b6052b182b9b0d9c88bc8db2b51b5", func := "fathom/fathomlaw28.StepEnds", spec := "stepEnds", inPlace := ["internal/bytealg.IndexByteString", "internal/bytealg.IndexString"], unfollowed := true, recurses := true, named := ["internal/bytealg.MaxLen"], apart := false }
def StepEndsSaid : Prop := stepEndsRow.holds Tryz.pinned (OpenSpec.ofChange stepEndsSpec)

/-- ITS FALSE NEIGHBOUR: 'it returns false'. Refute it at one input. -/
def stepEndsWrong : ChangeSpec := { name := "stepEnds", fn := fun _ => fun
  | [d1, d2] => { results := [.lit (.bool false)], args := [d1, d2] }
  | _ => none }
def StepEndsWrongFalsely : Prop := stepEndsRow.holds Tryz.pinned (OpenSpec.ofChange stepEndsWrong)

/-- 'fathomlaw28.StepRuns': WHATEVER THE INPUT: true; the input reads as it did. -/
def stepRunsSpec : ChangeSpec := { name := "stepRuns", fn := fun _ => fun
  | [d1, d2] => { results := [.lit (.bool true)], args := [d1, d2] }
  | _ => none }
def stepRunsRow : OpenClaim := { program := "ytfbipcdllbdijaagreat", sum := "a535f9f0367a4666e2905d1035316520759b6052b182b9b0d9c88bc8db2b51b5", func := "fathom/fathomlaw28.StepRuns", spec := "stepRuns", inPlace := ["internal/bytealg.IndexByteString", "internal/bytealg.IndexString"], unfollowed := true, recurses := true, named := ["internal/bytealg.MaxLen"], apart := false }
def StepRunsSaid : Prop := stepRunsRow.holds Tryz.pinned (OpenSpec.ofChange stepRunsSpec)

/-- ITS FALSE NEIGHBOUR: 'it returns false'. Refute it at one input. -/
def stepRunsWrong : ChangeSpec := { name := "stepRuns", fn := fun _ => fun
  | [d1, d2] => { results := [.lit (.bool false)], args := [d1, d2] }
  | _ => none }
def StepRunsWrongFalsely : Prop := stepRunsRow.holds Tryz.pinned (OpenSpec.ofChange stepRunsWrong)

/-- 'fathomlaw28.StepLocks': WHATEVER THE INPUT: true; the input reads as it did. -/
def stepLocksSpec : ChangeSpec := { name := "stepLocks", fn := fun _ => fun
  | [d1, d2] => { results := [.lit (.bool true)], args := [d1, d2] }
  | _ => none }
def stepLocksRow : OpenClaim := { program := "ytfbipcdllbdijaagreat", sum := "a535f9f0367a4666e2905d1035316520759b6052b182b9b0d9c88bc8db2b51b5", func := "fathom/fathomlaw28.StepLocks", spec := "stepLocks", inPlace := ["internal/bytealg.IndexByteString", "internal/bytealg.IndexString"], unfollowed := true, recurses := true, named := ["internal/bytealg.MaxLen"], apart := false }
def StepLocksSaid : Prop := stepLocksRow.holds Tryz.pinned (OpenSpec.ofChange stepLocksSpec)

/-- ITS FALSE NEIGHBOUR: 'it returns false'. Refute it at one input. -/
def stepLocksWrong : ChangeSpec := { name := "stepLocks", fn := fun _ => fun
  | [d1, d2] => { results := [.lit (.bool false)], args := [d1, d2] }
  | _ => none }
def StepLocksWrongFalsely : Prop := stepLocksRow.holds Tryz.pinned (OpenSpec.ofChange stepLocksWrong)

/- THE SECOND FORM. 'bulk': how many values and letters a reading holds, each counted each time it is reached (what is shared counts as often as it is met; a slice's spare places count too). A statement '..UptoSaid' is the law's where the arguments, and the package variables that the reading takes, are together of bulk at most 1048576: NARROWER than '..Said'. Prove '..Said' where nothing that the law and all that it calls make is longer than what came in: it says more and counts as full. Else prove '..UptoSaid'. A law counts once. -/
mutual
def uptoBulk {H : Type} : DataW H → Nat
  | .lit (.string bytes) => bytes.length + 1
  | .lit _ => 1
  | .nil => 1
  | .ptr d => uptoBulk d + 1
  | .slice elems spare => uptoBulkAll elems + uptoBulkAll spare + 1
  | .agg parts => uptoBulkAll parts + 1
  | .iface _ d => uptoBulk d + 1
  | .map entries => uptoBulkEntries entries + 1
  | .held _ => 1
def uptoBulkAll {H : Type} : List (DataW H) → Nat
  | [] => 0
  | d :: r => uptoBulk d + uptoBulkAll r
def uptoBulkEntries {H : Type} : List (Lit × DataW H) → Nat
  | [] => 0
  | x :: r => uptoBulkEntry x + uptoBulkEntries r
def uptoBulkEntry {H : Type} : Lit × DataW H → Nat
  | (.string bytes, d) => bytes.length + uptoBulk d + 1
  | (_, d) => uptoBulk d + 1
 end
def uptoSmall : (H : Type) → List (DataW H) → Bool := fun _ ds => decide (uptoBulkAll ds ≤ 1048576)
def OpenSpec.upto (s : _root_.Go.ChangeSpec) : _root_.Go.OpenSpec := { _root_.Go.OpenSpec.ofChange s with cond := some uptoSmall }

/-- 'fathomlaw28.StepTurns', WHERE WHAT IT READS IS OF BULK AT MOST 1048576: true; the input reads as it did. -/
def stepTurnsUptoRow : OpenClaim := { program := "ytfbipcdllbdijaagreat", sum := "a535f9f0367a4666e2905d1035316520759b6052b182b9b0d9c88bc8db2b51b5", func := "fathom/fathomlaw28.StepTurns", spec := "stepTurns", inPlace := ["internal/bytealg.IndexByteString", "internal/bytealg.IndexString"], unfollowed := true, recurses := true, named := ["internal/bytealg.MaxLen"], apart := false, narrowed := true }
def StepTurnsUptoSaid : Prop := stepTurnsUptoRow.holds Tryz.pinned (OpenSpec.upto stepTurnsSpec)

/-- 'fathomlaw28.StepEnds', WHERE WHAT IT READS IS OF BULK AT MOST 1048576: true; the input reads as it did. -/
def stepEndsUptoRow : OpenClaim := { program := "ytfbipcdllbdijaagreat", sum := "a535f9f0367a4666e2905d1035316520759b6052b182b9b0d9c88bc8db2b51b5", func := "fathom/fathomlaw28.StepEnds", spec := "stepEnds", inPlace := ["internal/bytealg.IndexByteString", "internal/bytealg.IndexString"], unfollowed := true, recurses := true, named := ["internal/bytealg.MaxLen"], apart := false, narrowed := true }
def StepEndsUptoSaid : Prop := stepEndsUptoRow.holds Tryz.pinned (OpenSpec.upto stepEndsSpec)

/-- 'fathomlaw28.StepRuns', WHERE WHAT IT READS IS OF BULK AT MOST 1048576: true; the input reads as it did. -/
def stepRunsUptoRow : OpenClaim := { program := "ytfbipcdllbdijaagreat", sum := "a535f9f0367a4666e2905d1035316520759b6052b182b9b0d9c88bc8db2b51b5", func := "fathom/fathomlaw28.StepRuns", spec := "stepRuns", inPlace := ["internal/bytealg.IndexByteString", "internal/bytealg.IndexString"], unfollowed := true, recurses := true, named := ["internal/bytealg.MaxLen"], apart := false, narrowed := true }
def StepRunsUptoSaid : Prop := stepRunsUptoRow.holds Tryz.pinned (OpenSpec.upto stepRunsSpec)

/-- 'fathomlaw28.StepLocks', WHERE WHAT IT READS IS OF BULK AT MOST 1048576: true; the input reads as it did. -/
def stepLocksUptoRow : OpenClaim := { program := "ytfbipcdllbdijaagreat", sum := "a535f9f0367a4666e2905d1035316520759b6052b182b9b0d9c88bc8db2b51b5", func := "fathom/fathomlaw28.StepLocks", spec := "stepLocks", inPlace := ["internal/bytealg.IndexByteString", "internal/bytealg.IndexString"], unfollowed := true, recurses := true, named := ["internal/bytealg.MaxLen"], apart := false, narrowed := true }
def StepLocksUptoSaid : Prop := stepLocksUptoRow.holds Tryz.pinned (OpenSpec.upto stepLocksSpec)

end Rows
end Go.Proofs.YtfbipcdllbdijaaGreat
