/- fathomlaw30.WeakNobody returns true for every input. -/
import Derived.Test.YtjcpomcoiglmoaaGreatRows
import Derived.Test.YtjcpomcoiglmoaaGreatVt2
import Derived.Test.YtjcpomcoiglmoaaGreatV20
set_option maxRecDepth 100000
namespace Go.Proofs.YtjcpomcoiglmoaaGreat
open Go.ChangeShapes Go.WideShapes Go.ChangeAt Go.RowKit
theorem own6 : ownKnob Tryz.prog.godebug = none := by kernel_rfl
theorem laid6 : laidOutB Tryz.prog = true := by kernel_rfl
set_option maxRecDepth 100000 in
theorem lifted6 (os : Os) (started : os.Started) (H : Type) (enc : TypeId × Value → H) :
    ReturnsInHanded {} Tryz.checked os 6 .any (Rows.weakNobodySpec.pre6 enc Tryz.prog Tryz.f6 Rows.weakNobodyRow.domain false) (Rows.weakNobodySpec.post enc Tryz.prog Tryz.f6 false true false false) := by
  refine returnsInHanded_of_change_shaped (C := Tryz.checked) own6 started (by kernel_rfl) Tryz.func6
    (ChangeSpec.witness6 (enc := enc) (C := Tryz.checked) false ⟨#[], #[.agg #[.int .i64 0, .int .i64 0, .int .i64 0]], []⟩ 8 (by kernel_rfl) (by kernel_rfl) (by kernel_rfl) (by kernel_rfl)) ?_
  intro W base args ds gs before hval0 hW hcnd _ hsh _
  have hval : ∀ (j : Nat) t v, Tryz.f6.params[j]? = some t → args[j]? = some v → Value.okWide Tryz.prog W .any base t v := hval0
  have hW' := hW
  obtain ⟨p, q, hA0, hV, hbe, hfz, hnd⟩ := hW
  have hA : DataW.TrodAll enc Tryz.prog W 0 (fun _ => true) true Tryz.f6.params.toList args.toList ds p := hA0
  rw [Tryz.params6] at hA hval
  obtain ⟨v0, vs0, e0, es0, p0, q0, hargs, rfl, rfl, h0, r0⟩ := trodAll_cons hA
  obtain ⟨rfl, rfl, rfl⟩ := trodAll_nil r0
  obtain rfl : args = #[v0] := by cases args; simp_all
  obtain ⟨m, hG⟩ := Tryz.maxLen W hsh
  have h0 := Go.VM.trods_of h0
  have hv0 := hval 0 _ v0 rfl rfl
  have key : Calls Tryz.prog 6 #[v0] W fun e W' => e = .returned (.bool true) ∧ Below W.heap.size W W' := by
    obtain ⟨cs, rfl, hsz⟩ := okWide_struct Tryz.underlying48 hv0
    exact call6 m W hG (.agg cs) (Go.VM.rep_opqs (d := 4) (k := 3) (by kernel_rfl) h0 (by simpa using hsz.trans (by kernel_rfl)))
  refine key.mono fun e W' ⟨he, hB⟩ => ?_
  subst he
  exact ⟨_, rfl, Go.VM.law_post laid6 (by intro t ht; rw [Tryz.params6] at ht; simp at ht; subst ht; exact ⟨by kernel_rfl, of_decide_eq_true (by kernel_rfl)⟩) rfl rfl (by kernel_rfl) hW' rfl hB⟩
theorem weakNobody_holds : Rows.WeakNobodySaid :=
  OpenClaim.holds_of_wide 6 Tryz.f6 rfl rfl rfl rfl rfl rfl rfl ⟨rfl, rfl, rfl, rfl, rfl⟩ rfl rfl rfl rfl rfl (by kernel_rfl) Tryz.func6 (by kernel_rfl)
    (of_decide_eq_true (by kernel_rfl)) (by unfold Func.isWrapper; first | (rw [if_pos (by decide +kernel)]; kernel_rfl) | (rw [if_neg (by decide +kernel)]; exact ⟨rfl, rfl⟩))
    (fun os started H enc _ => lifted6 os started H enc)
end Go.Proofs.YtjcpomcoiglmoaaGreat
