/- which ends are stuck: the runs -/
import Derived.Test.YtbopmdbejfcbcaaGreatW1
import Derived.Test.YtbopmdbejfcbcaaGreatV20
set_option maxRecDepth 100000
namespace Go.Proofs.YtbopmdbejfcbcaaGreat
open Go.VM
variable [Val]
set_option linter.unusedSectionVars false
abbrev endV (mk ov : Bool) (w : V) : V := .agg [.opq, .opq, .raw (.bool mk), w, .raw (.bool ov)]
theorem run3n (mk ov : Bool) : startN Tryz.prog (prims 231 232 mAw_ms) 5000 3 [endV mk ov (.raw (.slice none 0 0))] 0 isTrue = true := by cases mk <;> cases ov <;> kernel_rfl
theorem run3z (mk ov : Bool) : startN Tryz.prog (prims 231 232 mAw_ms) 5000 3 [endV mk ov (.fro 1 0 fun _ _ => .any)] 0 isTrue = true := by cases mk <;> cases ov <;> kernel_rfl
theorem run3s (mk ov : Bool) (k : Nat) : startN Tryz.prog (prims 231 232 mAw_ms) 5000 3 [endV mk ov (.sl 0 1 0 (k + 1) none)] 1 isTrue = true := by cases mk <;> cases ov <;> kernel_rfl
end Go.Proofs.YtbopmdbejfcbcaaGreat
