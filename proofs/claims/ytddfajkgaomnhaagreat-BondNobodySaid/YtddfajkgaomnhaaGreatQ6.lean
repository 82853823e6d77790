/- Texts of a proof, joined. -/
import Derived.Test.YtddfajkgaomnhaaGreatRows
import Derived.Test.YtddfajkgaomnhaaGreatQ5
set_option linter.unusedVariables false
set_option linter.unusedSectionVars false
set_option linter.unusedSimpArgs false
set_option linter.constructorNameAsVariable false
section
/- fathomlaw35.BondNobody returns true for every input. -/
set_option maxRecDepth 100000
namespace Go.Proofs.YtddfajkgaomnhaaGreat
open Go.ChangeShapes Go.WideShapes Go.ChangeAt Go.RowKit
theorem closed4 : joinedFacts Tryz.pinned.checked.prog 4 Tryz.f4 Rows.bondNobodySpec Rows.bondNobodyRow = true := by kernel_rfl
end Go.Proofs.YtddfajkgaomnhaaGreat
end
