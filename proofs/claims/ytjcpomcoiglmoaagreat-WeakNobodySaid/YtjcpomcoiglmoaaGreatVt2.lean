/- nobody's machine: the run -/
import Derived.Test.YtjcpomcoiglmoaaGreatW1
namespace Go.Proofs.YtjcpomcoiglmoaaGreat
open Go.VM
theorem run6 : startN Tryz.prog (prims 223 224 mS2_ms) 5000 6 [.agg [.opq, .opq, .opq]] 0 isTrue = true := by kernel_rfl
theorem call6 (m : Int) (w : World) (hG : GAt (GInt 0 m) w) (v : Value) (h : Rep w (fun _ => False) (Gone 0) (.agg [.opq, .opq, .opq]) v) : Calls Tryz.prog 6 #[v] w fun e w' => e = .returned (.bool true) ∧ Go.RowKit.Below w.heap.size w w' :=
  start_true (prims_ok Tryz.strFns (mS2_mk m)) run6 w hG [v] rfl fun i c u g1 g2 => by
    match i, g1, g2 with
    | 0, g1, g2 => have g1 := Option.some.inj g1; have g2 := Option.some.inj g2; subst g1; subst g2; exact h
    | _ + 1, g1, g2 => simp at g1
end Go.Proofs.YtjcpomcoiglmoaaGreat
