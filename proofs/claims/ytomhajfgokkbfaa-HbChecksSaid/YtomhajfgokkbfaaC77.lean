/- HbChecks holds: at every shape of events and every log the law answers true and leaves its arguments as they were. -/
import Derived.Test.YtomhajfgokkbfaaRows
import Derived.Calls
import Derived.Orders
import Derived.Below
import Derived.Laws.Cells
import Derived.Laws.Append
import Derived.KernelRfl
import Derived.OrdersHeld
import Derived.Laws.Tables
import Derived.Laws.MakeOwn
import Derived.Deep.AppendSrc
import Derived.Deep.Upon
import Derived.WalkKit
import Derived.ProofKit
import Derived.OpenShut
import Derived.Carry
import Derived.ChangeSame
import Derived.Test.YtomhajfgokkbfaaProg
import Derived.Test.YtomhajfgokkbfaaC76
set_option linter.unusedVariables false
set_option linter.unusedSimpArgs false
set_option maxHeartbeats 4000000
namespace Go.Proofs.Ytomhajfgokkbfaa
open Go.AM Go.ChangeShapes Go.WideShapes Go.ChangeAt Go.RowKit
theorem rd3 {H : Type} {enc : TypeId × Value → H} {W : World} : RD enc Try.prog W 3 1 (fun (x : Int) _ => .raw (.int .i64 x)) := RD.int Try.underlying3
theorem rd35 {H : Type} {enc : TypeId × Value → H} {W : World} : RD enc Try.prog W 35 4 api_Event.cell := fun fuel cs x h => by
  obtain ⟨a0, h0⟩ := RD.part (i := 0) Try.underlying35 h rfl rd3 (by kernel_rfl)
  obtain ⟨a1, h1⟩ := RD.part (i := 1) Try.underlying35 h rfl rd3 (by kernel_rfl)
  obtain ⟨a2, h2⟩ := RD.part (i := 2) Try.underlying35 h rfl rd3 (by kernel_rfl)
  obtain ⟨a3, h3⟩ := RD.part (i := 3) Try.underlying35 h rfl rd3 (by kernel_rfl)
  have hl : cs.length = 4 := (RD.len Try.underlying35 h).trans (by kernel_rfl)
  refine ⟨⟨a0, a1, a2, a3⟩, hl, fun i v hv => ?_⟩
  have hlt : i < 4 := hl ▸ (List.getElem?_eq_some_iff.1 hv).1
  match i, hv, hlt with
  | 0, hv, _ => exact h0 0 v hv (by decide) (by decide)
  | 1, hv, _ => exact h1 1 v hv (by decide) (by decide)
  | 2, hv, _ => exact h2 2 v hv (by decide) (by decide)
  | 3, hv, _ => exact h3 3 v hv (by decide) (by decide)
  | _ + 4, _, h => exact absurd h (by omega)
theorem rd22 {H : Type} {enc : TypeId × Value → H} {W : World} : RD enc Try.prog W 22 1 (fun (l : List api_Event) _ => AV.sl 4 api_Event.cell default l) := RD.slice default Try.underlying22 rd35 (by kernel_rfl) (by decide)
theorem rd23 {H : Type} {enc : TypeId × Value → H} {W : World} : RD enc Try.prog W 23 1 (fun (l : List Int) _ => AV.sl 1 cI 0 l) := RD.slice 0 Try.underlying23 rd3 (by kernel_rfl) (by decide)
theorem rd25 {H : Type} {enc : TypeId × Value → H} {W : World} : RD enc Try.prog W 25 2 api_Shape.cell := fun fuel cs x h => by
  obtain ⟨a0, h0⟩ := RD.part (i := 0) Try.underlying25 h rfl rd22 (by kernel_rfl)
  obtain ⟨a1, h1⟩ := RD.part (i := 1) Try.underlying25 h rfl rd23 (by kernel_rfl)
  have hl : cs.length = 2 := (RD.len Try.underlying25 h).trans (by kernel_rfl)
  refine ⟨⟨a0, a1⟩, hl, fun i v hv => ?_⟩
  have hlt : i < 2 := hl ▸ (List.getElem?_eq_some_iff.1 hv).1
  match i, hv, hlt with
  | 0, hv, _ => exact h0 0 v hv (by decide) (by decide)
  | 1, hv, _ => exact h1 1 v hv (by decide) (by decide)
  | _ + 2, _, h => exact absurd h (by omega)
theorem rd9 {H : Type} {enc : TypeId × Value → H} {W : World} : RD enc Try.prog W 9 1 cS := RD.string Try.underlying9
theorem rd54 {H : Type} {enc : TypeId × Value → H} {W : World} : RD enc Try.prog W 54 4 api_Decl.cell := fun fuel cs x h => by
  obtain ⟨a0, h0⟩ := RD.part (i := 0) Try.underlying54 h rfl rd3 (by kernel_rfl)
  obtain ⟨a1, h1⟩ := RD.part (i := 1) Try.underlying54 h rfl rd9 (by kernel_rfl)
  obtain ⟨a2, h2⟩ := RD.part (i := 2) Try.underlying54 h rfl rd3 (by kernel_rfl)
  obtain ⟨a3, h3⟩ := RD.part (i := 3) Try.underlying54 h rfl rd3 (by kernel_rfl)
  have hl : cs.length = 4 := (RD.len Try.underlying54 h).trans (by kernel_rfl)
  refine ⟨⟨a0, a1, a2, a3⟩, hl, fun i v hv => ?_⟩
  have hlt : i < 4 := hl ▸ (List.getElem?_eq_some_iff.1 hv).1
  match i, hv, hlt with
  | 0, hv, _ => exact h0 0 v hv (by decide) (by decide)
  | 1, hv, _ => exact h1 1 v hv (by decide) (by decide)
  | 2, hv, _ => exact h2 2 v hv (by decide) (by decide)
  | 3, hv, _ => exact h3 3 v hv (by decide) (by decide)
  | _ + 4, _, h => exact absurd h (by omega)
theorem rd26 {H : Type} {enc : TypeId × Value → H} {W : World} : RD enc Try.prog W 26 1 (fun (l : List api_Decl) _ => AV.sl 4 api_Decl.cell default l) := RD.slice default Try.underlying26 rd54 (by kernel_rfl) (by decide)
theorem rd44 {H : Type} {enc : TypeId × Value → H} {W : World} : RD enc Try.prog W 44 3 api_Entry.cell := fun fuel cs x h => by
  obtain ⟨a0, h0⟩ := RD.part (i := 0) Try.underlying44 h rfl rd3 (by kernel_rfl)
  obtain ⟨a1, h1⟩ := RD.part (i := 1) Try.underlying44 h rfl rd3 (by kernel_rfl)
  obtain ⟨a2, h2⟩ := RD.part (i := 2) Try.underlying44 h rfl rd3 (by kernel_rfl)
  have hl : cs.length = 3 := (RD.len Try.underlying44 h).trans (by kernel_rfl)
  refine ⟨⟨a0, a1, a2⟩, hl, fun i v hv => ?_⟩
  have hlt : i < 3 := hl ▸ (List.getElem?_eq_some_iff.1 hv).1
  match i, hv, hlt with
  | 0, hv, _ => exact h0 0 v hv (by decide) (by decide)
  | 1, hv, _ => exact h1 1 v hv (by decide) (by decide)
  | 2, hv, _ => exact h2 2 v hv (by decide) (by decide)
  | _ + 3, _, h => exact absurd h (by omega)
theorem rd27 {H : Type} {enc : TypeId × Value → H} {W : World} : RD enc Try.prog W 27 1 (fun (l : List api_Entry) _ => AV.sl 3 api_Entry.cell default l) := RD.slice default Try.underlying27 rd44 (by kernel_rfl) (by decide)
theorem rd29 {H : Type} {enc : TypeId × Value → H} {W : World} : RD enc Try.prog W 29 2 fathomlaw29_Log.cell := fun fuel cs x h => by
  obtain ⟨a0, h0⟩ := RD.part (i := 0) Try.underlying29 h rfl rd26 (by kernel_rfl)
  obtain ⟨a1, h1⟩ := RD.part (i := 1) Try.underlying29 h rfl rd27 (by kernel_rfl)
  have hl : cs.length = 2 := (RD.len Try.underlying29 h).trans (by kernel_rfl)
  refine ⟨⟨a0, a1⟩, hl, fun i v hv => ?_⟩
  have hlt : i < 2 := hl ▸ (List.getElem?_eq_some_iff.1 hv).1
  match i, hv, hlt with
  | 0, hv, _ => exact h0 0 v hv (by decide) (by decide)
  | 1, hv, _ => exact h1 1 v hv (by decide) (by decide)
  | _ + 2, _, h => exact absurd h (by omega)
theorem own7 : ownKnob Try.prog.godebug = none := by kernel_rfl
theorem laid7 : laidOutB Try.prog = true := by kernel_rfl
set_option maxRecDepth 100000 in
theorem lifted7 (hp : ∀ (d0 : api_Shape) (d1 : fathomlaw29_Log), ∃ n, s7 n d0 d1 = some true) (os : Os) (started : os.Started) (H : Type) (enc : TypeId × Value → H) :
    ReturnsInHanded {} Try.checked os 7 .any (Rows.hbChecksSpec.pre6 enc Try.prog Try.f7 Rows.hbChecksRow.domain false) (Rows.hbChecksSpec.post enc Try.prog Try.f7 false true false false) := by
  refine returnsInHanded_of_change (C := Try.checked) own7 started (by kernel_rfl) Try.func7
    (ChangeSpec.witness6 (enc := enc) (C := Try.checked) false ⟨#[], #[.agg #[.slice none 0 0, .slice none 0 0], .agg #[.slice none 0 0, .slice none 0 0]], []⟩ 8 (by kernel_rfl) (by kernel_rfl) (by kernel_rfl) (by kernel_rfl)) ?_
  intro W base args ds gs before hval0 hW hcnd _
  have hval : ∀ (j : Nat) t v, Try.f7.params[j]? = some t → args[j]? = some v → Value.okWide Try.prog W .any base t v := hval0
  have hW' := hW
  obtain ⟨p, q, hA0, hV, hbe, hfz, hnd⟩ := hW
  have hA : DataW.TrodAll enc Try.prog W 0 (fun _ => true) true Try.f7.params.toList args.toList ds p := hA0
  rw [Try.params7] at hA hval
  obtain ⟨v0, vs0, e0, es0, p0, q0, hargs, rfl, rfl, h0, r0⟩ := trodAll_cons hA
  obtain ⟨v1, vs1, e1, es1, p1, q1, rfl, rfl, rfl, h1, r1⟩ := trodAll_cons r0
  obtain ⟨rfl, rfl, rfl⟩ := trodAll_nil r1
  obtain rfl : args = #[v0, v1] := by cases args; simp_all
  obtain ⟨cs0, rfl, _⟩ := okWide_struct Try.underlying25 (hval 0 25 v0 rfl rfl)
  obtain ⟨d0, f0⟩ := RD.many rd25 h0 (fun a => [AV.sl 4 api_Event.cell default a.Events, AV.sl 1 cI 0 a.Starts]) (fun a => ⟨rfl, fun i c h => by match i, h with | 0, h => exact (Option.some.inj h).symm | 1, h => exact (Option.some.inj h).symm | _ + 2, h => simp at h⟩)
  obtain ⟨cs1, rfl, _⟩ := okWide_struct Try.underlying29 (hval 1 29 v1 rfl rfl)
  obtain ⟨d1, f1⟩ := RD.many rd29 h1 (fun a => [AV.sl 4 api_Decl.cell default a.D, AV.sl 3 api_Entry.cell default a.L]) (fun a => ⟨rfl, fun i c h => by match i, h with | 0, h => exact (Option.some.inj h).symm | 1, h => exact (Option.some.inj h).symm | _ + 2, h => simp at h⟩)
  obtain ⟨n, hn⟩ := hp d0 d1
  refine (law_call (c7 hn) rfl (fun i c v g1 g2 => ?_)).mono fun e W' ⟨he, hB⟩ => ?_
  · match i, g1, g2 with
    | 0, g1, g2 => have g1 := Option.some.inj g1; have g2 := Option.some.inj g2; subst g1; subst g2; exact f0
    | 1, g1, g2 => have g1 := Option.some.inj g1; have g2 := Option.some.inj g2; subst g1; subst g2; exact f1
    | _ + 2, g1, g2 => simp at g1
  · subst he
    exact ⟨_, rfl, law_post laid7 (by intro t ht; rw [Try.params7] at ht; simp at ht; rcases ht with rfl | rfl <;> exact ⟨by kernel_rfl, of_decide_eq_true (by kernel_rfl)⟩) rfl rfl Try.underlying4 hW' rfl hB⟩
theorem over7 (hp : ∀ (d0 : api_Shape) (d1 : fathomlaw29_Log), ∃ n, s7 n d0 d1 = some true) : Rows.hbChecksRow.holds Try.pinned (OpenSpec.ofChange Rows.hbChecksSpec) :=
  OpenClaim.holds_of_wide 7 Try.f7 rfl rfl rfl rfl rfl rfl rfl ⟨rfl, rfl, rfl, rfl, rfl⟩ rfl rfl rfl rfl rfl (by kernel_rfl) Try.func7 (by kernel_rfl)
    (of_decide_eq_true (by kernel_rfl)) (by unfold Func.isWrapper; first | (rw [if_pos (by decide +kernel)]; kernel_rfl) | (rw [if_neg (by decide +kernel)]; exact ⟨rfl, rfl⟩))
    (fun os started H enc _ => lifted7 hp os started H enc)
theorem hbChecks_holds : Rows.HbChecksSaid := over7 fun d0 d1 => ⟨100, law7 d0 d1⟩
end Go.Proofs.Ytomhajfgokkbfaa
