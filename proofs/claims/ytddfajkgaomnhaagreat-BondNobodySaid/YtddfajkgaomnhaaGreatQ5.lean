/- Texts of a proof, joined. -/
import Derived.Test.YtddfajkgaomnhaaGreatRows
import Derived.Test.YtddfajkgaomnhaaGreatQ4
set_option linter.unusedVariables false
set_option linter.unusedSectionVars false
set_option linter.unusedSimpArgs false
set_option linter.constructorNameAsVariable false
section
/- fathomlaw35.BondNobody returns true for every input. -/
set_option maxRecDepth 100000
namespace Go.Proofs.YtddfajkgaomnhaaGreat
open Go.ChangeShapes Go.WideShapes Go.ChangeAt Go.RowKit
theorem named4 : Tryz.pinned.checked.prog.funcNamed Rows.bondNobodyRow.func = some 4 := by kernel_rfl
theorem wrap4 : Tryz.f4.isWrapper Tryz.pinned.checked.prog Rows.bondNobodyRow.wrapper Rows.bondNobodyRow.mainSum := by unfold Func.isWrapper; first | (rw [if_pos (by decide +kernel)]; kernel_rfl) | (rw [if_neg (by decide +kernel)]; exact ⟨rfl, rfl⟩)
end Go.Proofs.YtddfajkgaomnhaaGreat
end
