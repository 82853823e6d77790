/-
  NARROWER THAN 'FOR EVERY INPUT', by the rows' own cells (each row's printed sentence says how): BondTakes: loops.
  DERIVED. THE GIVEN ROWS OF THIS SEAT. 2 by the template 'for every input the law returns true; each argument reads behind the call as it read before'; 0 by the template 'total and deterministic' (their statements: YtddfajkgaomnhaaGreatTotals.lean).
  GIVEN WITH THE SEED: the statements are not yours to turn. If you find one false, say at which input.
  Laid BY PROGRAM, IN A SANDBOX (cutbox-rows.mjs): the forced cells as the released guide's own fill.sh prints them over the translation f2577b5cf0bc3e13… (all of the seat's roots in one cut). By AI agents, Wed Nov 11 2026. No macro, syntax, notation, axiom, sorry.
-/
import Derived.Test.YtddfajkgaomnhaaGreatChecked
import GoSem.Claim
import GoSem.ClaimJoined
import GoSem.ClaimMapViews
import Derived.JoinedTies
import Derived.KernelRfl
namespace Go.Proofs.YtddfajkgaomnhaaGreat
/- THE CELL 'sum', in the pinned program and in every row, IS THE sha256 OF THE DUMP (.gsa) THAT YtddfajkgaomnhaaGreatProg.lean LOADS. Nothing in Lean hashes anything: it is a label: what it is worth is what the hold of that sum in a sandbox is worth. -/
noncomputable def Tryz.pinned : Pinned := { name := "ytddfajkgaomnhaagreat", sum := "f2577b5cf0bc3e13c462c57f0fb83bdc35c285429ad71f436ce3c0851322f250", checked := Tryz.checked }
namespace Rows
def none {H : Type} : Left H := { results := [], args := [] }

/-- 'fathomlaw35.BondTakes': WHATEVER THE INPUT: true; the input reads as it did. -/
def bondTakesSpec : ChangeSpec := { name := "bondTakes", fn := fun _ => fun
  | [d1, d2, d3] => { results := [.lit (.bool true)], args := [d1, d2, d3] }
  | _ => none }
def bondTakesRow : OpenClaim := { program := "ytddfajkgaomnhaagreat", sum := "f2577b5cf0bc3e13c462c57f0fb83bdc35c285429ad71f436ce3c0851322f250", func := "fathom/fathomlaw35.BondTakes", spec := "bondTakes", inPlace := ["internal/bytealg.IndexByteString", "internal/bytealg.IndexString"], unfollowed := true, recurses := true, named := ["internal/bytealg.MaxLen"], loops := true, plainKeys := false, apart := false }
def BondTakesSaid : Prop := bondTakesRow.holds Tryz.pinned (OpenSpec.ofChange bondTakesSpec)

/-- ITS FALSE NEIGHBOUR: 'it returns false'. Refute it at one input. -/
def bondTakesWrong : ChangeSpec := { name := "bondTakes", fn := fun _ => fun
  | [d1, d2, d3] => { results := [.lit (.bool false)], args := [d1, d2, d3] }
  | _ => none }
def BondTakesWrongFalsely : Prop := bondTakesRow.holds Tryz.pinned (OpenSpec.ofChange bondTakesWrong)

/-- 'fathomlaw35.BondNobody': WHATEVER THE INPUT: true; the input reads as it did. -/
def bondNobodySpec : ChangeSpec := { name := "bondNobody", fn := fun _ => fun
  | [d] => { results := [.lit (.bool true)], args := [d] }
  | _ => none }
def bondNobodyRow : OpenClaim := { program := "ytddfajkgaomnhaagreat", sum := "f2577b5cf0bc3e13c462c57f0fb83bdc35c285429ad71f436ce3c0851322f250", func := "fathom/fathomlaw35.BondNobody", spec := "bondNobody", inPlace := ["internal/bytealg.IndexByteString", "internal/bytealg.IndexString"], unfollowed := true, recurses := true, named := ["internal/bytealg.MaxLen"], plainKeys := false, apart := false }
def BondNobodySaid : Prop := bondNobodyRow.holds Tryz.pinned (OpenSpec.ofChange bondNobodySpec)

/-- ITS FALSE NEIGHBOUR: 'it returns false'. Refute it at one input. -/
def bondNobodyWrong : ChangeSpec := { name := "bondNobody", fn := fun _ => fun
  | [d] => { results := [.lit (.bool false)], args := [d] }
  | _ => none }
def BondNobodyWrongFalsely : Prop := bondNobodyRow.holds Tryz.pinned (OpenSpec.ofChange bondNobodyWrong)

/- THE SECOND FORM. 'bulk': how many values and letters a reading holds, each counted each time it is reached (what is shared counts as often as it is met; a slice's spare places count too). A statement '..UptoSaid' is the law's where the arguments, and the package variables that the reading takes, are together of bulk at most 1048576: NARROWER than '..Said'. Prove '..Said' where nothing that the law and all that it calls make is longer than what came in: it says more and counts as full. Else prove '..UptoSaid'. A law counts once. -/
mutual
def uptoBulk {H : Type} : DataW H → Nat
  | .lit (.string bytes) => bytes.length + 1
  | .lit _ => 1
  | .nil => 1
  | .ptr d => uptoBulk d + 1
  | .slice elems spare => uptoBulkAll elems + uptoBulkAll spare + 1
  | .agg parts => uptoBulkAll parts + 1
  | .iface _ d => uptoBulk d + 1
  | .map entries => uptoBulkEntries entries + 1
  | .held _ => 1
def uptoBulkAll {H : Type} : List (DataW H) → Nat
  | [] => 0
  | d :: r => uptoBulk d + uptoBulkAll r
def uptoBulkEntries {H : Type} : List (Lit × DataW H) → Nat
  | [] => 0
  | x :: r => uptoBulkEntry x + uptoBulkEntries r
def uptoBulkEntry {H : Type} : Lit × DataW H → Nat
  | (.string bytes, d) => bytes.length + uptoBulk d + 1
  | (_, d) => uptoBulk d + 1
 end
def uptoSmall : (H : Type) → List (DataW H) → Bool := fun _ ds => decide (uptoBulkAll ds ≤ 1048576)
def OpenSpec.upto (s : _root_.Go.ChangeSpec) : _root_.Go.OpenSpec := { _root_.Go.OpenSpec.ofChange s with cond := some uptoSmall }

/-- 'fathomlaw35.BondTakes', WHERE WHAT IT READS IS OF BULK AT MOST 1048576: true; the input reads as it did. -/
def bondTakesUptoRow : OpenClaim := { program := "ytddfajkgaomnhaagreat", sum := "f2577b5cf0bc3e13c462c57f0fb83bdc35c285429ad71f436ce3c0851322f250", func := "fathom/fathomlaw35.BondTakes", spec := "bondTakes", inPlace := ["internal/bytealg.IndexByteString", "internal/bytealg.IndexString"], unfollowed := true, recurses := true, named := ["internal/bytealg.MaxLen"], loops := true, plainKeys := false, apart := false, narrowed := true }
def BondTakesUptoSaid : Prop := bondTakesUptoRow.holds Tryz.pinned (OpenSpec.upto bondTakesSpec)

/-- 'fathomlaw35.BondNobody', WHERE WHAT IT READS IS OF BULK AT MOST 1048576: true; the input reads as it did. -/
def bondNobodyUptoRow : OpenClaim := { program := "ytddfajkgaomnhaagreat", sum := "f2577b5cf0bc3e13c462c57f0fb83bdc35c285429ad71f436ce3c0851322f250", func := "fathom/fathomlaw35.BondNobody", spec := "bondNobody", inPlace := ["internal/bytealg.IndexByteString", "internal/bytealg.IndexString"], unfollowed := true, recurses := true, named := ["internal/bytealg.MaxLen"], plainKeys := false, apart := false, narrowed := true }
def BondNobodyUptoSaid : Prop := bondNobodyUptoRow.holds Tryz.pinned (OpenSpec.upto bondNobodySpec)

end Rows
end Go.Proofs.YtddfajkgaomnhaaGreat
