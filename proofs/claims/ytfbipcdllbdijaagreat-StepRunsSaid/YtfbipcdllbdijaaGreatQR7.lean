/- fathomlaw28.StepRuns returns true for every input. -/
import Derived.Test.YtfbipcdllbdijaaGreatRows
import Derived.Test.YtfbipcdllbdijaaGreatProg
import Derived.Calls
import Derived.Orders
import Derived.OrdersHeld
import Derived.Below
import Derived.Laws.Cells
import Derived.Laws.Append
import Derived.KernelRfl
import Derived.Maps.RangeRun
import Derived.Laws.StructEq
import Derived.Laws.Tables
import Derived.Laws.MakeOwn
import Derived.Conc.SmallLaws
import Derived.ChangeMaps5
import Derived.Laws.IdiomCopy
import Derived.Deep.Upon
import Derived.Laws.AppendOwn
import Derived.Laws.IdiomStrings
import Derived.Conc.LoneSelect
import Derived.LoopN
import Derived.Scope
import Derived.Shelf.Small.Strs
import Derived.Shelf.Strings.Search1
import Derived.Shelf.Strings.Search2
import Derived.Shelf.Strings.Search3
import Derived.Shelf.LaysM
import Derived.Shelf.Strings.Shaped
import Derived.WalkKit
import Derived.ProofKit
import Derived.OpenShut
import Derived.Carry
import Derived.ChangeSame
import Derived.HandedShaped
import Derived.Shelf.Vars
import Derived.IntWalk
import Derived.Test.YtfbipcdllbdijaaGreatQR6
set_option linter.unusedVariables false
set_option linter.unusedSimpArgs false
set_option linter.unusedSectionVars false
set_option linter.constructorNameAsVariable false
set_option maxRecDepth 100000
namespace Go.Proofs.YtfbipcdllbdijaaGreat
open Go Go.ChangeShapes Go.WideShapes Go.ChangeAt Go.RowKit
theorem own5 : ownKnob Tryz.prog.godebug = none := by kernel_rfl
theorem laid5 : laidOutB Tryz.prog = true := by kernel_rfl
theorem lifted5 (os : Os) (started : os.Started) (H : Type) (enc : TypeId × Value → H) :
    ReturnsInHanded {} Tryz.checked os 5 .any (Rows.stepRunsSpec.pre6 enc Tryz.prog Tryz.f5 Rows.stepRunsRow.domain false) (Rows.stepRunsSpec.post enc Tryz.prog Tryz.f5 false true false false) := by
  refine returnsInHanded_of_change_shaped (C := Tryz.checked) own5 started (by kernel_rfl) Tryz.func5
    (ChangeSpec.witness6 (enc := enc) (C := Tryz.checked) false ⟨#[], #[.agg #[.int .i64 0, .slice none 0 0, .slice none 0 0, .slice none 0 0, .int .i64 0], .slice none 0 0], []⟩ 8 (by kernel_rfl) (by kernel_rfl) (by kernel_rfl) (by kernel_rfl)) ?_
  intro W base args ds gs before hval0 hW hcnd _ hsh _
  have hval : ∀ (j : Nat) t v, Tryz.f5.params[j]? = some t → args[j]? = some v → Value.okWide Tryz.prog W .any base t v := hval0
  have hW' := hW
  obtain ⟨p, q, hA0, hV, hbe, hfz, hnd⟩ := hW
  have hA : DataW.TrodAll enc Tryz.prog W 0 (fun _ => true) true Tryz.f5.params.toList args.toList ds p := hA0
  rw [Tryz.params5] at hA hval
  obtain ⟨v0, vs0, e0, es0, p0, q0, hargs0, rfl, rfl, h0, r0⟩ := trodAll_cons hA
  obtain ⟨v1, vs1, e1, es1, p1, q1, hargs1, rfl, rfl, h1, r1⟩ := trodAll_cons r0
  obtain ⟨rfl, rfl, rfl⟩ := trodAll_nil r1
  obtain rfl : args = #[v0, v1] := by cases args; simp_all
  have h0 := Go.TM.trods_of h0
  have hv0 := hval 0 _ v0 rfl rfl
  have h1 := Go.TM.trods_of h1
  have hv1 := hval 1 _ v1 rfl rfl
  have key : Calls Tryz.prog 5 #[v0, v1] W fun e W' => e = .returned (.bool true) ∧ Below W.heap.size W W' := by
    obtain ⟨x0, b0, a0⟩ := Go.TM.argR_of (n := 39) (c := tFlat) (g := true) hv0 h0 (by kernel_rfl) (by kernel_rfl)
    obtain ⟨x1, b1, a1⟩ := Go.TM.argR_of (n := 39) (c := .sl (.int .u8)) (g := false) hv1 h1 (by kernel_rfl) (by kernel_rfl)
    obtain ⟨m, hG⟩ := Tryz.maxLen W hsh
    obtain ⟨n, hn⟩ := law5 x0 x1 b1
    exact Go.TM.law_call (oklaw28_StepRuns ⟨m, hG⟩ n) (x := (x0, x1)) hn (Go.TM.gall W) (⟨v0, [v1], _, _, [], [], rfl, rfl, a0, ⟨v1, rfl, a1⟩, Go.TM.disj_no, fun b => by simp⟩) ()
  refine key.mono fun e W' ⟨he, hB⟩ => ?_
  subst he
  exact ⟨_, rfl, Go.TM.law_post laid5 (by intro t ht; rw [Tryz.params5] at ht; simp at ht; rcases ht with rfl | rfl <;> exact ⟨by kernel_rfl, of_decide_eq_true (by kernel_rfl)⟩) rfl rfl (by kernel_rfl) hW' rfl hB⟩
theorem stepRuns_holds : Rows.StepRunsSaid :=
  OpenClaim.holds_of_wide 5 Tryz.f5 rfl rfl rfl rfl rfl rfl rfl ⟨rfl, rfl, rfl, rfl, rfl⟩ rfl rfl rfl rfl rfl (by kernel_rfl) Tryz.func5 (by kernel_rfl)
    (of_decide_eq_true (by kernel_rfl)) (by unfold Func.isWrapper; first | (rw [if_pos (by decide +kernel)]; kernel_rfl) | (rw [if_neg (by decide +kernel)]; exact ⟨rfl, rfl⟩))
    (fun os started H enc _ => lifted5 os started H enc)
end Go.Proofs.YtfbipcdllbdijaaGreat
