/-
  No cell of these rows narrows 'for every input' (looked for: loops, veiled, ifaces, maps, wideKeys, modest, calm, conditions, laid).
  DERIVED. THE GIVEN ROWS OF THIS SEAT. 4 by the template 'for every input the law returns true; each argument reads behind the call as it read before'; 0 by the template 'total and deterministic' (their statements: YtjcpomcoiglmoaaGreatTotals.lean).
  GIVEN WITH THE SEED: the statements are not yours to turn. If you find one false, say at which input.
  Laid BY PROGRAM, IN A SANDBOX (cutbox-rows.mjs): the forced cells as the released guide's own fill.sh prints them over the translation a9941f5f40ab94ca… (all of the seat's roots in one cut). By AI agents, Wed Nov 11 2026. No macro, syntax, notation, axiom, sorry.
-/
import Derived.Test.YtjcpomcoiglmoaaGreatChecked
import GoSem.Claim
import GoSem.ClaimJoined
import GoSem.ClaimMapViews
import Derived.JoinedTies
import Derived.KernelRfl
namespace Go.Proofs.YtjcpomcoiglmoaaGreat
/- THE CELL 'sum', in the pinned program and in every row, IS THE sha256 OF THE DUMP (.gsa) THAT YtjcpomcoiglmoaaGreatProg.lean LOADS. Nothing in Lean hashes anything: it is a label: what it is worth is what the hold of that sum in a sandbox is worth. -/
noncomputable def Tryz.pinned : Pinned := { name := "ytjcpomcoiglmoaagreat", sum := "a9941f5f40ab94cafdd070dfa4033754e0e840d9fcd468a4e398b51e0c0b9966", checked := Tryz.checked }
namespace Rows
def none {H : Type} : Left H := { results := [], args := [] }

/-- 'fathomlaw30.WeakSteps': WHATEVER THE INPUT: true; the input reads as it did. -/
def weakStepsSpec : ChangeSpec := { name := "weakSteps", fn := fun _ => fun
  | [d1, d2] => { results := [.lit (.bool true)], args := [d1, d2] }
  | _ => none }
def weakStepsRow : OpenClaim := { program := "ytjcpomcoiglmoaagreat", sum := "a9941f5f40ab94cafdd070dfa4033754e0e840d9fcd468a4e398b51e0c0b9966", func := "fathom/fathomlaw30.WeakSteps", spec := "weakSteps", inPlace := ["internal/bytealg.IndexByteString", "internal/bytealg.IndexString"], unfollowed := true, recurses := true, named := ["internal/bytealg.MaxLen"], apart := false }
def WeakStepsSaid : Prop := weakStepsRow.holds Tryz.pinned (OpenSpec.ofChange weakStepsSpec)

/-- ITS FALSE NEIGHBOUR: 'it returns false'. Refute it at one input. -/
def weakStepsWrong : ChangeSpec := { name := "weakSteps", fn := fun _ => fun
  | [d1, d2] => { results := [.lit (.bool false)], args := [d1, d2] }
  | _ => none }
def WeakStepsWrongFalsely : Prop := weakStepsRow.holds Tryz.pinned (OpenSpec.ofChange weakStepsWrong)

/-- 'fathomlaw30.WeakTurns': WHATEVER THE INPUT: true; the input reads as it did. -/
def weakTurnsSpec : ChangeSpec := { name := "weakTurns", fn := fun _ => fun
  | [d1, d2, d3] => { results := [.lit (.bool true)], args := [d1, d2, d3] }
  | _ => none }
def weakTurnsRow : OpenClaim := { program := "ytjcpomcoiglmoaagreat", sum := "a9941f5f40ab94cafdd070dfa4033754e0e840d9fcd468a4e398b51e0c0b9966", func := "fathom/fathomlaw30.WeakTurns", spec := "weakTurns", inPlace := ["internal/bytealg.IndexByteString", "internal/bytealg.IndexString"], unfollowed := true, recurses := true, named := ["internal/bytealg.MaxLen"], apart := false }
def WeakTurnsSaid : Prop := weakTurnsRow.holds Tryz.pinned (OpenSpec.ofChange weakTurnsSpec)

/-- ITS FALSE NEIGHBOUR: 'it returns false'. Refute it at one input. -/
def weakTurnsWrong : ChangeSpec := { name := "weakTurns", fn := fun _ => fun
  | [d1, d2, d3] => { results := [.lit (.bool false)], args := [d1, d2, d3] }
  | _ => none }
def WeakTurnsWrongFalsely : Prop := weakTurnsRow.holds Tryz.pinned (OpenSpec.ofChange weakTurnsWrong)

/-- 'fathomlaw30.WeakOne': WHATEVER THE INPUT: true; the input reads as it did. -/
def weakOneSpec : ChangeSpec := { name := "weakOne", fn := fun _ => fun
  | [d1, d2] => { results := [.lit (.bool true)], args := [d1, d2] }
  | _ => none }
def weakOneRow : OpenClaim := { program := "ytjcpomcoiglmoaagreat", sum := "a9941f5f40ab94cafdd070dfa4033754e0e840d9fcd468a4e398b51e0c0b9966", func := "fathom/fathomlaw30.WeakOne", spec := "weakOne", inPlace := ["internal/bytealg.IndexByteString", "internal/bytealg.IndexString"], unfollowed := true, recurses := true, named := ["internal/bytealg.MaxLen"], apart := false }
def WeakOneSaid : Prop := weakOneRow.holds Tryz.pinned (OpenSpec.ofChange weakOneSpec)

/-- ITS FALSE NEIGHBOUR: 'it returns false'. Refute it at one input. -/
def weakOneWrong : ChangeSpec := { name := "weakOne", fn := fun _ => fun
  | [d1, d2] => { results := [.lit (.bool false)], args := [d1, d2] }
  | _ => none }
def WeakOneWrongFalsely : Prop := weakOneRow.holds Tryz.pinned (OpenSpec.ofChange weakOneWrong)

/-- 'fathomlaw30.WeakNobody': WHATEVER THE INPUT: true; the input reads as it did. -/
def weakNobodySpec : ChangeSpec := { name := "weakNobody", fn := fun _ => fun
  | [d] => { results := [.lit (.bool true)], args := [d] }
  | _ => none }
def weakNobodyRow : OpenClaim := { program := "ytjcpomcoiglmoaagreat", sum := "a9941f5f40ab94cafdd070dfa4033754e0e840d9fcd468a4e398b51e0c0b9966", func := "fathom/fathomlaw30.WeakNobody", spec := "weakNobody", inPlace := ["internal/bytealg.IndexByteString", "internal/bytealg.IndexString"], unfollowed := true, recurses := true, named := ["internal/bytealg.MaxLen"], apart := false }
def WeakNobodySaid : Prop := weakNobodyRow.holds Tryz.pinned (OpenSpec.ofChange weakNobodySpec)

/-- ITS FALSE NEIGHBOUR: 'it returns false'. Refute it at one input. -/
def weakNobodyWrong : ChangeSpec := { name := "weakNobody", fn := fun _ => fun
  | [d] => { results := [.lit (.bool false)], args := [d] }
  | _ => none }
def WeakNobodyWrongFalsely : Prop := weakNobodyRow.holds Tryz.pinned (OpenSpec.ofChange weakNobodyWrong)

/- THE SECOND FORM. 'bulk': how many values and letters a reading holds, each counted each time it is reached (what is shared counts as often as it is met; a slice's spare places count too). A statement '..UptoSaid' is the law's where the arguments, and the package variables that the reading takes, are together of bulk at most 1048576: NARROWER than '..Said'. Prove '..Said' where nothing that the law and all that it calls make is longer than what came in: it says more and counts as full. Else prove '..UptoSaid'. A law counts once. -/
mutual
def uptoBulk {H : Type} : DataW H → Nat
  | .lit (.string bytes) => bytes.length + 1
  | .lit _ => 1
  | .nil => 1
  | .ptr d => uptoBulk d + 1
  | .slice elems spare => uptoBulkAll elems + uptoBulkAll spare + 1
  | .agg parts => uptoBulkAll parts + 1
  | .iface _ d => uptoBulk d + 1
  | .map entries => uptoBulkEntries entries + 1
  | .held _ => 1
def uptoBulkAll {H : Type} : List (DataW H) → Nat
  | [] => 0
  | d :: r => uptoBulk d + uptoBulkAll r
def uptoBulkEntries {H : Type} : List (Lit × DataW H) → Nat
  | [] => 0
  | x :: r => uptoBulkEntry x + uptoBulkEntries r
def uptoBulkEntry {H : Type} : Lit × DataW H → Nat
  | (.string bytes, d) => bytes.length + uptoBulk d + 1
  | (_, d) => uptoBulk d + 1
 end
def uptoSmall : (H : Type) → List (DataW H) → Bool := fun _ ds => decide (uptoBulkAll ds ≤ 1048576)
def OpenSpec.upto (s : _root_.Go.ChangeSpec) : _root_.Go.OpenSpec := { _root_.Go.OpenSpec.ofChange s with cond := some uptoSmall }

/-- 'fathomlaw30.WeakSteps', WHERE WHAT IT READS IS OF BULK AT MOST 1048576: true; the input reads as it did. -/
def weakStepsUptoRow : OpenClaim := { program := "ytjcpomcoiglmoaagreat", sum := "a9941f5f40ab94cafdd070dfa4033754e0e840d9fcd468a4e398b51e0c0b9966", func := "fathom/fathomlaw30.WeakSteps", spec := "weakSteps", inPlace := ["internal/bytealg.IndexByteString", "internal/bytealg.IndexString"], unfollowed := true, recurses := true, named := ["internal/bytealg.MaxLen"], apart := false, narrowed := true }
def WeakStepsUptoSaid : Prop := weakStepsUptoRow.holds Tryz.pinned (OpenSpec.upto weakStepsSpec)

/-- 'fathomlaw30.WeakTurns', WHERE WHAT IT READS IS OF BULK AT MOST 1048576: true; the input reads as it did. -/
def weakTurnsUptoRow : OpenClaim := { program := "ytjcpomcoiglmoaagreat", sum := "a9941f5f40ab94cafdd070dfa4033754e0e840d9fcd468a4e398b51e0c0b9966", func := "fathom/fathomlaw30.WeakTurns", spec := "weakTurns", inPlace := ["internal/bytealg.IndexByteString", "internal/bytealg.IndexString"], unfollowed := true, recurses := true, named := ["internal/bytealg.MaxLen"], apart := false, narrowed := true }
def WeakTurnsUptoSaid : Prop := weakTurnsUptoRow.holds Tryz.pinned (OpenSpec.upto weakTurnsSpec)

/-- 'fathomlaw30.WeakOne', WHERE WHAT IT READS IS OF BULK AT MOST 1048576: true; the input reads as it did. -/
def weakOneUptoRow : OpenClaim := { program := "ytjcpomcoiglmoaagreat", sum := "a9941f5f40ab94cafdd070dfa4033754e0e840d9fcd468a4e398b51e0c0b9966", func := "fathom/fathomlaw30.WeakOne", spec := "weakOne", inPlace := ["internal/bytealg.IndexByteString", "internal/bytealg.IndexString"], unfollowed := true, recurses := true, named := ["internal/bytealg.MaxLen"], apart := false, narrowed := true }
def WeakOneUptoSaid : Prop := weakOneUptoRow.holds Tryz.pinned (OpenSpec.upto weakOneSpec)

/-- 'fathomlaw30.WeakNobody', WHERE WHAT IT READS IS OF BULK AT MOST 1048576: true; the input reads as it did. -/
def weakNobodyUptoRow : OpenClaim := { program := "ytjcpomcoiglmoaagreat", sum := "a9941f5f40ab94cafdd070dfa4033754e0e840d9fcd468a4e398b51e0c0b9966", func := "fathom/fathomlaw30.WeakNobody", spec := "weakNobody", inPlace := ["internal/bytealg.IndexByteString", "internal/bytealg.IndexString"], unfollowed := true, recurses := true, named := ["internal/bytealg.MaxLen"], apart := false, narrowed := true }
def WeakNobodyUptoSaid : Prop := weakNobodyUptoRow.holds Tryz.pinned (OpenSpec.upto weakNobodySpec)

end Rows
end Go.Proofs.YtjcpomcoiglmoaaGreat
