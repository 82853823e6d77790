/-
  No cell of these rows narrows 'for every input' (looked for: loops, veiled, ifaces, maps, wideKeys, modest, calm, conditions, laid).
  DERIVED. THE GIVEN ROWS OF THIS SEAT. 5 by the template 'for every input the law returns true; each argument reads behind the call as it read before'; 0 by the template 'total and deterministic' (their statements: YtomhajfgokkbfaaTotals.lean).
  GIVEN WITH THE SEED: the statements are not yours to turn. If you find one false, say at which input.
  Laid BY PROGRAM, IN A SANDBOX (cutbox-rows.mjs): the forced cells as the released guide's own fill.sh prints them over the translation 70dc6abf8a2b8d71… (all of the seat's roots in one cut). By AI agents, Wed Nov 11 2026. No macro, syntax, notation, axiom, sorry.
-/
import Derived.Test.YtomhajfgokkbfaaChecked
import GoSem.Claim
import GoSem.ClaimJoined
import GoSem.ClaimMapViews
import Derived.JoinedTies
import Derived.KernelRfl
namespace Go.Proofs.Ytomhajfgokkbfaa
/- THE CELL 'sum', in the pinned program and in every row, IS THE sha256 OF THE DUMP (.gsa) THAT YtomhajfgokkbfaaProg.lean LOADS. Nothing in Lean hashes anything: it is a label: what it is worth is what the hold of that sum in a sandbox is worth. -/
noncomputable def Try.pinned : Pinned := { name := "ytomhajfgokkbfaa", sum := "70dc6abf8a2b8d71051a84a4b41171c1f55df548ddb52e79b7630917080ec9b9", checked := Try.checked }
namespace Rows
def none {H : Type} : Left H := { results := [], args := [] }

/-- 'fathomlaw29.HbSees': WHATEVER THE INPUT: true; the input reads as it did. -/
def hbSeesSpec : ChangeSpec := { name := "hbSees", fn := fun _ => fun
  | [d1, d2, d3] => { results := [.lit (.bool true)], args := [d1, d2, d3] }
  | _ => none }
def hbSeesRow : OpenClaim := { program := "ytomhajfgokkbfaa", sum := "70dc6abf8a2b8d71051a84a4b41171c1f55df548ddb52e79b7630917080ec9b9", func := "fathom/fathomlaw29.HbSees", spec := "hbSees", unfollowed := true, recurses := true, apart := false }
def HbSeesSaid : Prop := hbSeesRow.holds Try.pinned (OpenSpec.ofChange hbSeesSpec)

/-- ITS FALSE NEIGHBOUR: 'it returns false'. Refute it at one input. -/
def hbSeesWrong : ChangeSpec := { name := "hbSees", fn := fun _ => fun
  | [d1, d2, d3] => { results := [.lit (.bool false)], args := [d1, d2, d3] }
  | _ => none }
def HbSeesWrongFalsely : Prop := hbSeesRow.holds Try.pinned (OpenSpec.ofChange hbSeesWrong)

/-- 'fathomlaw29.HbOrders': WHATEVER THE INPUT: true; the input reads as it did. -/
def hbOrdersSpec : ChangeSpec := { name := "hbOrders", fn := fun _ => fun
  | [d1, d2] => { results := [.lit (.bool true)], args := [d1, d2] }
  | _ => none }
def hbOrdersRow : OpenClaim := { program := "ytomhajfgokkbfaa", sum := "70dc6abf8a2b8d71051a84a4b41171c1f55df548ddb52e79b7630917080ec9b9", func := "fathom/fathomlaw29.HbOrders", spec := "hbOrders", unfollowed := true, recurses := true, apart := false }
def HbOrdersSaid : Prop := hbOrdersRow.holds Try.pinned (OpenSpec.ofChange hbOrdersSpec)

/-- ITS FALSE NEIGHBOUR: 'it returns false'. Refute it at one input. -/
def hbOrdersWrong : ChangeSpec := { name := "hbOrders", fn := fun _ => fun
  | [d1, d2] => { results := [.lit (.bool false)], args := [d1, d2] }
  | _ => none }
def HbOrdersWrongFalsely : Prop := hbOrdersRow.holds Try.pinned (OpenSpec.ofChange hbOrdersWrong)

/-- 'fathomlaw29.HbOne': WHATEVER THE INPUT: true; the input reads as it did. -/
def hbOneSpec : ChangeSpec := { name := "hbOne", fn := fun _ => fun
  | [d1, d2] => { results := [.lit (.bool true)], args := [d1, d2] }
  | _ => none }
def hbOneRow : OpenClaim := { program := "ytomhajfgokkbfaa", sum := "70dc6abf8a2b8d71051a84a4b41171c1f55df548ddb52e79b7630917080ec9b9", func := "fathom/fathomlaw29.HbOne", spec := "hbOne", unfollowed := true, recurses := true, apart := false }
def HbOneSaid : Prop := hbOneRow.holds Try.pinned (OpenSpec.ofChange hbOneSpec)

/-- ITS FALSE NEIGHBOUR: 'it returns false'. Refute it at one input. -/
def hbOneWrong : ChangeSpec := { name := "hbOne", fn := fun _ => fun
  | [d1, d2] => { results := [.lit (.bool false)], args := [d1, d2] }
  | _ => none }
def HbOneWrongFalsely : Prop := hbOneRow.holds Try.pinned (OpenSpec.ofChange hbOneWrong)

/-- 'fathomlaw29.HbKnows': WHATEVER THE INPUT: true; the input reads as it did. -/
def hbKnowsSpec : ChangeSpec := { name := "hbKnows", fn := fun _ => fun
  | [d1, d2] => { results := [.lit (.bool true)], args := [d1, d2] }
  | _ => none }
def hbKnowsRow : OpenClaim := { program := "ytomhajfgokkbfaa", sum := "70dc6abf8a2b8d71051a84a4b41171c1f55df548ddb52e79b7630917080ec9b9", func := "fathom/fathomlaw29.HbKnows", spec := "hbKnows", unfollowed := true, recurses := true, apart := false }
def HbKnowsSaid : Prop := hbKnowsRow.holds Try.pinned (OpenSpec.ofChange hbKnowsSpec)

/-- ITS FALSE NEIGHBOUR: 'it returns false'. Refute it at one input. -/
def hbKnowsWrong : ChangeSpec := { name := "hbKnows", fn := fun _ => fun
  | [d1, d2] => { results := [.lit (.bool false)], args := [d1, d2] }
  | _ => none }
def HbKnowsWrongFalsely : Prop := hbKnowsRow.holds Try.pinned (OpenSpec.ofChange hbKnowsWrong)

/-- 'fathomlaw29.HbChecks': WHATEVER THE INPUT: true; the input reads as it did. -/
def hbChecksSpec : ChangeSpec := { name := "hbChecks", fn := fun _ => fun
  | [d1, d2] => { results := [.lit (.bool true)], args := [d1, d2] }
  | _ => none }
def hbChecksRow : OpenClaim := { program := "ytomhajfgokkbfaa", sum := "70dc6abf8a2b8d71051a84a4b41171c1f55df548ddb52e79b7630917080ec9b9", func := "fathom/fathomlaw29.HbChecks", spec := "hbChecks", unfollowed := true, recurses := true, apart := false }
def HbChecksSaid : Prop := hbChecksRow.holds Try.pinned (OpenSpec.ofChange hbChecksSpec)

/-- ITS FALSE NEIGHBOUR: 'it returns false'. Refute it at one input. -/
def hbChecksWrong : ChangeSpec := { name := "hbChecks", fn := fun _ => fun
  | [d1, d2] => { results := [.lit (.bool false)], args := [d1, d2] }
  | _ => none }
def HbChecksWrongFalsely : Prop := hbChecksRow.holds Try.pinned (OpenSpec.ofChange hbChecksWrong)

/- THE SECOND FORM. 'bulk': how many values and letters a reading holds, each counted each time it is reached (what is shared counts as often as it is met; a slice's spare places count too). A statement '..UptoSaid' is the law's where the arguments, and the package variables that the reading takes, are together of bulk at most 1048576: NARROWER than '..Said'. Prove '..Said' where nothing that the law and all that it calls make is longer than what came in: it says more and counts as full. Else prove '..UptoSaid'. A law counts once. -/
mutual
def uptoBulk {H : Type} : DataW H → Nat
  | .lit (.string bytes) => bytes.length + 1
  | .lit _ => 1
  | .nil => 1
  | .ptr d => uptoBulk d + 1
  | .slice elems spare => uptoBulkAll elems + uptoBulkAll spare + 1
  | .agg parts => uptoBulkAll parts + 1
  | .iface _ d => uptoBulk d + 1
  | .map entries => uptoBulkEntries entries + 1
  | .held _ => 1
def uptoBulkAll {H : Type} : List (DataW H) → Nat
  | [] => 0
  | d :: r => uptoBulk d + uptoBulkAll r
def uptoBulkEntries {H : Type} : List (Lit × DataW H) → Nat
  | [] => 0
  | x :: r => uptoBulkEntry x + uptoBulkEntries r
def uptoBulkEntry {H : Type} : Lit × DataW H → Nat
  | (.string bytes, d) => bytes.length + uptoBulk d + 1
  | (_, d) => uptoBulk d + 1
 end
def uptoSmall : (H : Type) → List (DataW H) → Bool := fun _ ds => decide (uptoBulkAll ds ≤ 1048576)
def OpenSpec.upto (s : _root_.Go.ChangeSpec) : _root_.Go.OpenSpec := { _root_.Go.OpenSpec.ofChange s with cond := some uptoSmall }

/-- 'fathomlaw29.HbSees', WHERE WHAT IT READS IS OF BULK AT MOST 1048576: true; the input reads as it did. -/
def hbSeesUptoRow : OpenClaim := { program := "ytomhajfgokkbfaa", sum := "70dc6abf8a2b8d71051a84a4b41171c1f55df548ddb52e79b7630917080ec9b9", func := "fathom/fathomlaw29.HbSees", spec := "hbSees", unfollowed := true, recurses := true, apart := false, narrowed := true }
def HbSeesUptoSaid : Prop := hbSeesUptoRow.holds Try.pinned (OpenSpec.upto hbSeesSpec)

/-- 'fathomlaw29.HbOrders', WHERE WHAT IT READS IS OF BULK AT MOST 1048576: true; the input reads as it did. -/
def hbOrdersUptoRow : OpenClaim := { program := "ytomhajfgokkbfaa", sum := "70dc6abf8a2b8d71051a84a4b41171c1f55df548ddb52e79b7630917080ec9b9", func := "fathom/fathomlaw29.HbOrders", spec := "hbOrders", unfollowed := true, recurses := true, apart := false, narrowed := true }
def HbOrdersUptoSaid : Prop := hbOrdersUptoRow.holds Try.pinned (OpenSpec.upto hbOrdersSpec)

/-- 'fathomlaw29.HbOne', WHERE WHAT IT READS IS OF BULK AT MOST 1048576: true; the input reads as it did. -/
def hbOneUptoRow : OpenClaim := { program := "ytomhajfgokkbfaa", sum := "70dc6abf8a2b8d71051a84a4b41171c1f55df548ddb52e79b7630917080ec9b9", func := "fathom/fathomlaw29.HbOne", spec := "hbOne", unfollowed := true, recurses := true, apart := false, narrowed := true }
def HbOneUptoSaid : Prop := hbOneUptoRow.holds Try.pinned (OpenSpec.upto hbOneSpec)

/-- 'fathomlaw29.HbKnows', WHERE WHAT IT READS IS OF BULK AT MOST 1048576: true; the input reads as it did. -/
def hbKnowsUptoRow : OpenClaim := { program := "ytomhajfgokkbfaa", sum := "70dc6abf8a2b8d71051a84a4b41171c1f55df548ddb52e79b7630917080ec9b9", func := "fathom/fathomlaw29.HbKnows", spec := "hbKnows", unfollowed := true, recurses := true, apart := false, narrowed := true }
def HbKnowsUptoSaid : Prop := hbKnowsUptoRow.holds Try.pinned (OpenSpec.upto hbKnowsSpec)

/-- 'fathomlaw29.HbChecks', WHERE WHAT IT READS IS OF BULK AT MOST 1048576: true; the input reads as it did. -/
def hbChecksUptoRow : OpenClaim := { program := "ytomhajfgokkbfaa", sum := "70dc6abf8a2b8d71051a84a4b41171c1f55df548ddb52e79b7630917080ec9b9", func := "fathom/fathomlaw29.HbChecks", spec := "hbChecks", unfollowed := true, recurses := true, apart := false, narrowed := true }
def HbChecksUptoSaid : Prop := hbChecksUptoRow.holds Try.pinned (OpenSpec.upto hbChecksSpec)

end Rows
end Go.Proofs.Ytomhajfgokkbfaa
