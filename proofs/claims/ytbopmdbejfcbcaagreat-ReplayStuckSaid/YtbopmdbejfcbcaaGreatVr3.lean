/- fathomlaw31.ReplayStuck returns true for every input. -/
import Derived.Test.YtbopmdbejfcbcaaGreatRows
import Derived.Test.YtbopmdbejfcbcaaGreatVt2
import Derived.Test.YtbopmdbejfcbcaaGreatV20
set_option maxRecDepth 100000
namespace Go.Proofs.YtbopmdbejfcbcaaGreat
open Go.ChangeShapes Go.WideShapes Go.ChangeAt Go.RowKit
theorem own3 : ownKnob Tryz.prog.godebug = none := by kernel_rfl
theorem laid3 : laidOutB Tryz.prog = true := by kernel_rfl
set_option maxRecDepth 100000 in
theorem lifted3 (os : Os) (started : os.Started) (H : Type) (enc : TypeId × Value → H) :
    ReturnsInHanded {} Tryz.checked os 3 .any (Rows.replayStuckSpec.pre6 enc Tryz.prog Tryz.f3 Rows.replayStuckRow.domain false) (Rows.replayStuckSpec.post enc Tryz.prog Tryz.f3 false true false false) := by
  refine returnsInHanded_of_change_shaped (C := Tryz.checked) own3 started (by kernel_rfl) Tryz.func3
    (ChangeSpec.witness6 (enc := enc) (C := Tryz.checked) false ⟨#[], #[.agg #[.bool false, .slice none 0 0, .bool false, .slice none 0 0, .bool false]], []⟩ 8 (by kernel_rfl) (by kernel_rfl) (by kernel_rfl) (by kernel_rfl)) ?_
  intro W base args ds gs before hval0 hW hcnd _ hsh _
  have hval : ∀ (j : Nat) t v, Tryz.f3.params[j]? = some t → args[j]? = some v → Value.okWide Tryz.prog W .any base t v := hval0
  have hW' := hW
  obtain ⟨p, q, hA0, hV, hbe, hfz, hnd⟩ := hW
  have hA : DataW.TrodAll enc Tryz.prog W 0 (fun _ => true) true Tryz.f3.params.toList args.toList ds p := hA0
  rw [Tryz.params3] at hA hval
  obtain ⟨v0, vs0, e0, es0, p0, q0, hargs, rfl, rfl, h0, r0⟩ := trodAll_cons hA
  obtain ⟨rfl, rfl, rfl⟩ := trodAll_nil r0
  obtain rfl : args = #[v0] := by cases args; simp_all
  obtain ⟨m, hG⟩ := Tryz.maxLen W hsh
  have h0 := Go.VM.trods_of h0
  have hv0 := hval 0 _ v0 rfl rfl
  have key : Calls Tryz.prog 3 #[v0] W fun e W' => e = .returned (.bool true) ∧ Below W.heap.size W W' := by
    haveI : Go.VM.Val := ⟨fun _ => .bool false⟩
    obtain ⟨cs, rfl, hsz⟩ := okWide_struct Tryz.underlying25 hv0
    have hl : cs.toList.length = 5 := by simpa using hsz.trans (by kernel_rfl)
    obtain ⟨c0, c1, c2, c3, c4, hcs⟩ : ∃ c0 c1 c2 c3 c4, cs.toList = [c0, c1, c2, c3, c4] := by
      match cs.toList, hl with
      | [a, b, c, d, e], _ => exact ⟨a, b, c, d, e, rfl⟩
    have h0 : Go.VM.Trods enc Tryz.prog W 25 [c0, c1, c2, c3, c4] := hcs ▸ h0
    have hp := Go.VM.plain_cells (d := 4) (by kernel_rfl) h0
    obtain ⟨mk, hmk0⟩ := (h0.part Tryz.underlying25 (i := 2) rfl).bool Tryz.underlying4
    obtain ⟨ov, hov0⟩ := (h0.part Tryz.underlying25 (i := 4) rfl).bool Tryz.underlying4
    have hw := (h0.part Tryz.underlying25 (i := 3) rfl).slice Tryz.underlying23 (of_decide_eq_true (by kernel_rfl))
    have k1 : Tryz.prog.cellsOf 4 = 1 := by kernel_rfl
    have k2 : Tryz.prog.cellsOf 23 = 1 := by kernel_rfl
    have hmk : c2 = .bool mk := by have : [c2] = [Value.bool mk] := by rw [← hmk0]; show _ = List.take (Tryz.prog.cellsOf 4) _; rw [k1]; rfl
                                   injection this
    have hov : c4 = .bool ov := by have : [c4] = [Value.bool ov] := by rw [← hov0]; show _ = List.take (Tryz.prog.cellsOf 4) _; rw [k1]; rfl
                                   injection this
    have hw3 : List.take (Tryz.prog.cellsOf 23) (List.drop 3 [c0, c1, c2, c3, c4]) = [c3] := by rw [k2]; rfl
    subst hmk; subst hov
    have rep : ∀ {X : Nat → Prop} {φ : Go.VM.Loc} {wv : Go.VM.V}, Go.VM.Rep W X φ wv c3 → Go.VM.Rep W X φ (endV mk ov wv) (.agg cs) := fun {X φ wv} hr => by
      have e : cs = #[c0, c1, .bool mk, c3, .bool ov] := Array.ext' (by simpa using hcs)
      subst e
      refine .agg _ [c0, c1, .bool mk, c3, .bool ov] rfl fun i c v g1 g2 => ?_
      match i, g1, g2 with
      | 0, g1, g2 => have g1 := Option.some.inj g1; have g2 := Option.some.inj g2; subst g1; subst g2; exact .opq _ (hp 0 _ rfl)
      | 1, g1, g2 => have g1 := Option.some.inj g1; have g2 := Option.some.inj g2; subst g1; subst g2; exact .opq _ (hp 1 _ rfl)
      | 2, g1, g2 => have g1 := Option.some.inj g1; have g2 := Option.some.inj g2; subst g1; subst g2; exact .raw _ rfl
      | 3, g1, g2 => have g1 := Option.some.inj g1; have g2 := Option.some.inj g2; subst g1; subst g2; exact hr
      | 4, g1, g2 => have g1 := Option.some.inj g1; have g2 := Option.some.inj g2; subst g1; subst g2; exact .raw _ rfl
      | _ + 5, g1, g2 => simp at g1
    have hp1 := Go.VM.prims_ok Tryz.strFns (G := Go.VM.GAll W) hG (mAw_mk hG)
    rcases hw with hw | ⟨a, cap, hw⟩ | ⟨a, len, cap, hw, hs, _⟩
    · obtain rfl : c3 = .slice none 0 0 := by have := hw3.symm.trans hw; injection this
      exact Go.VM.start_one hp1 (run3n mk ov) (Go.VM.gall W) (rep (.raw _ rfl))
    · obtain rfl : c3 = .slice (some a) 0 cap := by have := hw3.symm.trans hw; injection this
      exact Go.VM.start_one hp1 (run3z mk ov) (Go.VM.gall W) (rep (.froZero _ _ _ _))
    · obtain rfl : c3 = .slice (some a) (len + 1) cap := by have := hw3.symm.trans hw; injection this
      exact Go.VM.start_one hp1 (run3s mk ov len) (Go.VM.gall W) (rep (.sl 0 1 0 (len + 1) none a cap hs (by simp [Go.VM.Gone]) fun b hb => (Go.VM.gone_some hb).elim))
  refine key.mono fun e W' ⟨he, hB⟩ => ?_
  subst he
  exact ⟨_, rfl, Go.VM.law_post laid3 (by intro t ht; rw [Tryz.params3] at ht; simp at ht; subst ht; exact ⟨by kernel_rfl, of_decide_eq_true (by kernel_rfl)⟩) rfl rfl (by kernel_rfl) hW' rfl hB⟩
theorem replayStuck_holds : Rows.ReplayStuckSaid :=
  OpenClaim.holds_of_wide 3 Tryz.f3 rfl rfl rfl rfl rfl rfl rfl ⟨rfl, rfl, rfl, rfl, rfl⟩ rfl rfl rfl rfl rfl (by kernel_rfl) Tryz.func3 (by kernel_rfl)
    (of_decide_eq_true (by kernel_rfl)) (by unfold Func.isWrapper; first | (rw [if_pos (by decide +kernel)]; kernel_rfl) | (rw [if_neg (by decide +kernel)]; exact ⟨rfl, rfl⟩))
    (fun os started H enc _ => lifted3 os started H enc)
end Go.Proofs.YtbopmdbejfcbcaaGreat
