/-
  No cell of these rows narrows 'for every input' (looked for: loops, veiled, ifaces, maps, wideKeys, modest, calm, conditions, laid).
  DERIVED. THE GIVEN ROWS OF THIS SEAT. 4 by the template 'for every input the law returns true; each argument reads behind the call as it read before'; 0 by the template 'total and deterministic' (their statements: YtbopmdbejfcbcaaGreatTotals.lean).
  GIVEN WITH THE SEED: the statements are not yours to turn. If you find one false, say at which input.
  Laid BY PROGRAM, IN A SANDBOX (cutbox-rows.mjs): the forced cells as the released guide's own fill.sh prints them over the translation 3031aa8a87a86ba2… (all of the seat's roots in one cut). By AI agents, Wed Nov 11 2026. No macro, syntax, notation, axiom, sorry.
-/
import Derived.Test.YtbopmdbejfcbcaaGreatChecked
import GoSem.Claim
import GoSem.ClaimJoined
import GoSem.ClaimMapViews
import Derived.JoinedTies
import Derived.KernelRfl
namespace Go.Proofs.YtbopmdbejfcbcaaGreat
/- THE CELL 'sum', in the pinned program and in every row, IS THE sha256 OF THE DUMP (.gsa) THAT YtbopmdbejfcbcaaGreatProg.lean LOADS. Nothing in Lean hashes anything: it is a label: what it is worth is what the hold of that sum in a sandbox is worth. -/
noncomputable def Tryz.pinned : Pinned := { name := "ytbopmdbejfcbcaagreat", sum := "3031aa8a87a86ba2efa86acb1a69e54677cee4414509a599574c3532ed6f5bc7", checked := Tryz.checked }
namespace Rows
def none {H : Type} : Left H := { results := [], args := [] }

/-- 'fathomlaw31.ReplayStuck': WHATEVER THE INPUT: true; the input reads as it did. -/
def replayStuckSpec : ChangeSpec := { name := "replayStuck", fn := fun _ => fun
  | [d] => { results := [.lit (.bool true)], args := [d] }
  | _ => none }
def replayStuckRow : OpenClaim := { program := "ytbopmdbejfcbcaagreat", sum := "3031aa8a87a86ba2efa86acb1a69e54677cee4414509a599574c3532ed6f5bc7", func := "fathom/fathomlaw31.ReplayStuck", spec := "replayStuck", inPlace := ["internal/bytealg.IndexByteString", "internal/bytealg.IndexString"], unfollowed := true, recurses := true, named := ["internal/bytealg.MaxLen"], apart := false }
def ReplayStuckSaid : Prop := replayStuckRow.holds Tryz.pinned (OpenSpec.ofChange replayStuckSpec)

/-- ITS FALSE NEIGHBOUR: 'it returns false'. Refute it at one input. -/
def replayStuckWrong : ChangeSpec := { name := "replayStuck", fn := fun _ => fun
  | [d] => { results := [.lit (.bool false)], args := [d] }
  | _ => none }
def ReplayStuckWrongFalsely : Prop := replayStuckRow.holds Tryz.pinned (OpenSpec.ofChange replayStuckWrong)

/-- 'fathomlaw31.ReplayRuns': WHATEVER THE INPUT: true; the input reads as it did. -/
def replayRunsSpec : ChangeSpec := { name := "replayRuns", fn := fun _ => fun
  | [d1, d2, d3] => { results := [.lit (.bool true)], args := [d1, d2, d3] }
  | _ => none }
def replayRunsRow : OpenClaim := { program := "ytbopmdbejfcbcaagreat", sum := "3031aa8a87a86ba2efa86acb1a69e54677cee4414509a599574c3532ed6f5bc7", func := "fathom/fathomlaw31.ReplayRuns", spec := "replayRuns", inPlace := ["internal/bytealg.IndexByteString", "internal/bytealg.IndexString"], unfollowed := true, recurses := true, named := ["internal/bytealg.MaxLen"], apart := false }
def ReplayRunsSaid : Prop := replayRunsRow.holds Tryz.pinned (OpenSpec.ofChange replayRunsSpec)

/-- ITS FALSE NEIGHBOUR: 'it returns false'. Refute it at one input. -/
def replayRunsWrong : ChangeSpec := { name := "replayRuns", fn := fun _ => fun
  | [d1, d2, d3] => { results := [.lit (.bool false)], args := [d1, d2, d3] }
  | _ => none }
def ReplayRunsWrongFalsely : Prop := replayRunsRow.holds Tryz.pinned (OpenSpec.ofChange replayRunsWrong)

/-- 'fathomlaw31.ReplayBegins': WHATEVER THE INPUT: true; the input reads as it did. -/
def replayBeginsSpec : ChangeSpec := { name := "replayBegins", fn := fun _ => fun
  | [d1, d2, d3] => { results := [.lit (.bool true)], args := [d1, d2, d3] }
  | _ => none }
def replayBeginsRow : OpenClaim := { program := "ytbopmdbejfcbcaagreat", sum := "3031aa8a87a86ba2efa86acb1a69e54677cee4414509a599574c3532ed6f5bc7", func := "fathom/fathomlaw31.ReplayBegins", spec := "replayBegins", inPlace := ["internal/bytealg.IndexByteString", "internal/bytealg.IndexString"], unfollowed := true, recurses := true, named := ["internal/bytealg.MaxLen"], apart := false }
def ReplayBeginsSaid : Prop := replayBeginsRow.holds Tryz.pinned (OpenSpec.ofChange replayBeginsSpec)

/-- ITS FALSE NEIGHBOUR: 'it returns false'. Refute it at one input. -/
def replayBeginsWrong : ChangeSpec := { name := "replayBegins", fn := fun _ => fun
  | [d1, d2, d3] => { results := [.lit (.bool false)], args := [d1, d2, d3] }
  | _ => none }
def ReplayBeginsWrongFalsely : Prop := replayBeginsRow.holds Tryz.pinned (OpenSpec.ofChange replayBeginsWrong)

/-- 'fathomlaw31.ReplayOrders': WHATEVER THE INPUT: true; the input reads as it did. -/
def replayOrdersSpec : ChangeSpec := { name := "replayOrders", fn := fun _ => fun
  | [d1, d2] => { results := [.lit (.bool true)], args := [d1, d2] }
  | _ => none }
def replayOrdersRow : OpenClaim := { program := "ytbopmdbejfcbcaagreat", sum := "3031aa8a87a86ba2efa86acb1a69e54677cee4414509a599574c3532ed6f5bc7", func := "fathom/fathomlaw31.ReplayOrders", spec := "replayOrders", inPlace := ["internal/bytealg.IndexByteString", "internal/bytealg.IndexString"], unfollowed := true, recurses := true, named := ["internal/bytealg.MaxLen"], apart := false }
def ReplayOrdersSaid : Prop := replayOrdersRow.holds Tryz.pinned (OpenSpec.ofChange replayOrdersSpec)

/-- ITS FALSE NEIGHBOUR: 'it returns false'. Refute it at one input. -/
def replayOrdersWrong : ChangeSpec := { name := "replayOrders", fn := fun _ => fun
  | [d1, d2] => { results := [.lit (.bool false)], args := [d1, d2] }
  | _ => none }
def ReplayOrdersWrongFalsely : Prop := replayOrdersRow.holds Tryz.pinned (OpenSpec.ofChange replayOrdersWrong)

/- THE SECOND FORM. 'bulk': how many values and letters a reading holds, each counted each time it is reached (what is shared counts as often as it is met; a slice's spare places count too). A statement '..UptoSaid' is the law's where the arguments, and the package variables that the reading takes, are together of bulk at most 1048576: NARROWER than '..Said'. Prove '..Said' where nothing that the law and all that it calls make is longer than what came in: it says more and counts as full. Else prove '..UptoSaid'. A law counts once. -/
mutual
def uptoBulk {H : Type} : DataW H → Nat
  | .lit (.string bytes) => bytes.length + 1
  | .lit _ => 1
  | .nil => 1
  | .ptr d => uptoBulk d + 1
  | .slice elems spare => uptoBulkAll elems + uptoBulkAll spare + 1
  | .agg parts => uptoBulkAll parts + 1
  | .iface _ d => uptoBulk d + 1
  | .map entries => uptoBulkEntries entries + 1
  | .held _ => 1
def uptoBulkAll {H : Type} : List (DataW H) → Nat
  | [] => 0
  | d :: r => uptoBulk d + uptoBulkAll r
def uptoBulkEntries {H : Type} : List (Lit × DataW H) → Nat
  | [] => 0
  | x :: r => uptoBulkEntry x + uptoBulkEntries r
def uptoBulkEntry {H : Type} : Lit × DataW H → Nat
  | (.string bytes, d) => bytes.length + uptoBulk d + 1
  | (_, d) => uptoBulk d + 1
 end
def uptoSmall : (H : Type) → List (DataW H) → Bool := fun _ ds => decide (uptoBulkAll ds ≤ 1048576)
def OpenSpec.upto (s : _root_.Go.ChangeSpec) : _root_.Go.OpenSpec := { _root_.Go.OpenSpec.ofChange s with cond := some uptoSmall }

/-- 'fathomlaw31.ReplayStuck', WHERE WHAT IT READS IS OF BULK AT MOST 1048576: true; the input reads as it did. -/
def replayStuckUptoRow : OpenClaim := { program := "ytbopmdbejfcbcaagreat", sum := "3031aa8a87a86ba2efa86acb1a69e54677cee4414509a599574c3532ed6f5bc7", func := "fathom/fathomlaw31.ReplayStuck", spec := "replayStuck", inPlace := ["internal/bytealg.IndexByteString", "internal/bytealg.IndexString"], unfollowed := true, recurses := true, named := ["internal/bytealg.MaxLen"], apart := false, narrowed := true }
def ReplayStuckUptoSaid : Prop := replayStuckUptoRow.holds Tryz.pinned (OpenSpec.upto replayStuckSpec)

/-- 'fathomlaw31.ReplayRuns', WHERE WHAT IT READS IS OF BULK AT MOST 1048576: true; the input reads as it did. -/
def replayRunsUptoRow : OpenClaim := { program := "ytbopmdbejfcbcaagreat", sum := "3031aa8a87a86ba2efa86acb1a69e54677cee4414509a599574c3532ed6f5bc7", func := "fathom/fathomlaw31.ReplayRuns", spec := "replayRuns", inPlace := ["internal/bytealg.IndexByteString", "internal/bytealg.IndexString"], unfollowed := true, recurses := true, named := ["internal/bytealg.MaxLen"], apart := false, narrowed := true }
def ReplayRunsUptoSaid : Prop := replayRunsUptoRow.holds Tryz.pinned (OpenSpec.upto replayRunsSpec)

/-- 'fathomlaw31.ReplayBegins', WHERE WHAT IT READS IS OF BULK AT MOST 1048576: true; the input reads as it did. -/
def replayBeginsUptoRow : OpenClaim := { program := "ytbopmdbejfcbcaagreat", sum := "3031aa8a87a86ba2efa86acb1a69e54677cee4414509a599574c3532ed6f5bc7", func := "fathom/fathomlaw31.ReplayBegins", spec := "replayBegins", inPlace := ["internal/bytealg.IndexByteString", "internal/bytealg.IndexString"], unfollowed := true, recurses := true, named := ["internal/bytealg.MaxLen"], apart := false, narrowed := true }
def ReplayBeginsUptoSaid : Prop := replayBeginsUptoRow.holds Tryz.pinned (OpenSpec.upto replayBeginsSpec)

/-- 'fathomlaw31.ReplayOrders', WHERE WHAT IT READS IS OF BULK AT MOST 1048576: true; the input reads as it did. -/
def replayOrdersUptoRow : OpenClaim := { program := "ytbopmdbejfcbcaagreat", sum := "3031aa8a87a86ba2efa86acb1a69e54677cee4414509a599574c3532ed6f5bc7", func := "fathom/fathomlaw31.ReplayOrders", spec := "replayOrders", inPlace := ["internal/bytealg.IndexByteString", "internal/bytealg.IndexString"], unfollowed := true, recurses := true, named := ["internal/bytealg.MaxLen"], apart := false, narrowed := true }
def ReplayOrdersUptoSaid : Prop := replayOrdersUptoRow.holds Tryz.pinned (OpenSpec.upto replayOrdersSpec)

end Rows
end Go.Proofs.YtbopmdbejfcbcaaGreat
