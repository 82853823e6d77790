/- fathomlaw35.BondNobody returns true for every input. -/
import Derived.Test.YtddfajkgaomnhaaGreatRows
import Derived.Test.YtddfajkgaomnhaaGreatQ6
set_option linter.unusedVariables false
set_option linter.unusedSectionVars false
set_option linter.unusedSimpArgs false
set_option linter.constructorNameAsVariable false
section
/- fathomlaw35.BondNobody returns true for every input. -/
set_option maxRecDepth 100000
namespace Go.Proofs.YtddfajkgaomnhaaGreat
open Go.ChangeShapes Go.WideShapes Go.ChangeAt Go.RowKit
theorem bondNobody_holds : Rows.BondNobodySaid :=
  OpenClaim.holds_of_wide 4 Tryz.f4 rfl rfl rfl rfl rfl rfl rfl ⟨rfl, rfl, rfl, rfl, rfl⟩ rfl rfl rfl rfl rfl named4 Tryz.func4 closed4
    (of_decide_eq_true (by kernel_rfl)) wrap4
    (fun os started H enc _ => lifted4 os started H enc)
end Go.Proofs.YtddfajkgaomnhaaGreat
end
