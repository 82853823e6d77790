/- fathomlaw28.StepTurns returns true for every input. -/
import Derived.Test.YtfbipcdllbdijaaGreatRows
import Derived.Test.YtfbipcdllbdijaaGreatProg
import Derived.Calls
import Derived.Orders
import Derived.OrdersHeld
import Derived.Below
import Derived.Laws.Cells
import Derived.Laws.Append
import Derived.KernelRfl
import Derived.Maps.RangeRun
import Derived.Laws.StructEq
import Derived.Laws.Tables
import Derived.Laws.MakeOwn
import Derived.Conc.SmallLaws
import Derived.ChangeMaps5
import Derived.Laws.IdiomCopy
import Derived.Deep.Upon
import Derived.Laws.AppendOwn
import Derived.Laws.IdiomStrings
import Derived.Conc.LoneSelect
import Derived.LoopN
import Derived.Scope
import Derived.Shelf.Small.Strs
import Derived.Shelf.Strings.Search1
import Derived.Shelf.Strings.Search2
import Derived.Shelf.Strings.Search3
import Derived.Shelf.LaysM
import Derived.Shelf.Strings.Shaped
import Derived.WalkKit
import Derived.ProofKit
import Derived.OpenShut
import Derived.Carry
import Derived.ChangeSame
import Derived.HandedShaped
import Derived.Shelf.Vars
import Derived.IntWalk
import Derived.Test.YtfbipcdllbdijaaGreatQT6
set_option linter.unusedVariables false
set_option linter.unusedSimpArgs false
set_option linter.unusedSectionVars false
set_option linter.constructorNameAsVariable false
set_option maxRecDepth 100000
namespace Go.Proofs.YtfbipcdllbdijaaGreat
open Go Go.ChangeShapes Go.WideShapes Go.ChangeAt Go.RowKit
theorem own3 : ownKnob Tryz.prog.godebug = none := by kernel_rfl
theorem laid3 : laidOutB Tryz.prog = true := by kernel_rfl
theorem lifted3 (os : Os) (started : os.Started) (H : Type) (enc : TypeId × Value → H) :
    ReturnsInHanded {} Tryz.checked os 3 .any (Rows.stepTurnsSpec.pre6 enc Tryz.prog Tryz.f3 Rows.stepTurnsRow.domain false) (Rows.stepTurnsSpec.post enc Tryz.prog Tryz.f3 false true false false) := by
  refine returnsInHanded_of_change_shaped (C := Tryz.checked) own3 started (by kernel_rfl) Tryz.func3
    (ChangeSpec.witness6 (enc := enc) (C := Tryz.checked) false ⟨#[], #[.agg #[.int .i64 0, .slice none 0 0, .slice none 0 0, .slice none 0 0, .int .i64 0], .agg #[.slice none 0 0, .slice none 0 0, .slice none 0 0, .slice none 0 0, .slice none 0 0, .slice none 0 0, .bool false], .agg #[.int .i64 0, .int .i64 0, .int .i64 0]], []⟩ 8 (by kernel_rfl) (by kernel_rfl) (by kernel_rfl) (by kernel_rfl)) ?_
  intro W base args ds gs before hval0 hW hcnd _ hsh _
  have hval : ∀ (j : Nat) t v, Tryz.f3.params[j]? = some t → args[j]? = some v → Value.okWide Tryz.prog W .any base t v := hval0
  have hW' := hW
  obtain ⟨p, q, hA0, hV, hbe, hfz, hnd⟩ := hW
  have hA : DataW.TrodAll enc Tryz.prog W 0 (fun _ => true) true Tryz.f3.params.toList args.toList ds p := hA0
  rw [Tryz.params3] at hA hval
  obtain ⟨v0, vs0, e0, es0, p0, q0, hargs0, rfl, rfl, h0, r0⟩ := trodAll_cons hA
  obtain ⟨v1, vs1, e1, es1, p1, q1, hargs1, rfl, rfl, h1, r1⟩ := trodAll_cons r0
  obtain ⟨v2, vs2, e2, es2, p2, q2, hargs2, rfl, rfl, h2, r2⟩ := trodAll_cons r1
  obtain ⟨rfl, rfl, rfl⟩ := trodAll_nil r2
  obtain rfl : args = #[v0, v1, v2] := by cases args; simp_all
  have h0 := Go.TM.trods_of h0
  have hv0 := hval 0 _ v0 rfl rfl
  have h1 := Go.TM.trods_of h1
  have hv1 := hval 1 _ v1 rfl rfl
  have h2 := Go.TM.trods_of h2
  have hv2 := hval 2 _ v2 rfl rfl
  have key : Calls Tryz.prog 3 #[v0, v1, v2] W fun e W' => e = .returned (.bool true) ∧ Below W.heap.size W W' := by
    obtain ⟨x0, b0, a0⟩ := Go.TM.argR_of (n := 39) (c := tFlat) (g := true) hv0 h0 (by kernel_rfl) (by kernel_rfl)
    obtain ⟨x1, b1, a1⟩ := Go.TM.argR_of (n := 39) (c := tState) (g := true) hv1 h1 (by kernel_rfl) (by kernel_rfl)
    obtain ⟨x2, b2, a2⟩ := Go.TM.argR_of (n := 39) (c := tTurn) (g := true) hv2 h2 (by kernel_rfl) (by kernel_rfl)
    obtain ⟨m, hG⟩ := Tryz.maxLen W hsh
    obtain ⟨n, hn⟩ := law3 x0 x1 x2
    exact Go.TM.law_call (oklaw28_StepTurns ⟨m, hG⟩ n) (x := (x0, x1, x2)) hn (Go.TM.gall W) (⟨v0, [v1, v2], _, _, [], [], rfl, rfl, a0, ⟨v1, [v2], _, _, [], [], rfl, rfl, a1, ⟨v2, rfl, a2⟩, Go.TM.disj_no, fun b => by simp⟩, Go.TM.disj_no, fun b => by simp⟩) ()
  refine key.mono fun e W' ⟨he, hB⟩ => ?_
  subst he
  exact ⟨_, rfl, Go.TM.law_post laid3 (by intro t ht; rw [Tryz.params3] at ht; simp at ht; rcases ht with rfl | rfl | rfl <;> exact ⟨by kernel_rfl, of_decide_eq_true (by kernel_rfl)⟩) rfl rfl (by kernel_rfl) hW' rfl hB⟩
theorem stepTurns_holds : Rows.StepTurnsSaid :=
  OpenClaim.holds_of_wide 3 Tryz.f3 rfl rfl rfl rfl rfl rfl rfl ⟨rfl, rfl, rfl, rfl, rfl⟩ rfl rfl rfl rfl rfl (by kernel_rfl) Tryz.func3 (by kernel_rfl)
    (of_decide_eq_true (by kernel_rfl)) (by unfold Func.isWrapper; first | (rw [if_pos (by decide +kernel)]; kernel_rfl) | (rw [if_neg (by decide +kernel)]; exact ⟨rfl, rfl⟩))
    (fun os started H enc _ => lifted3 os started H enc)
end Go.Proofs.YtfbipcdllbdijaaGreat
