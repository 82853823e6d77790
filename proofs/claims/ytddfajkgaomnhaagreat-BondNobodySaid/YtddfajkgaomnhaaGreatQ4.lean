/- Texts of a proof, joined. -/
import Derived.Test.YtddfajkgaomnhaaGreatRows
import Derived.Test.YtddfajkgaomnhaaGreatQ3
set_option linter.unusedVariables false
set_option linter.unusedSectionVars false
set_option linter.unusedSimpArgs false
set_option linter.constructorNameAsVariable false
section
/- The machine VM, part 21: a function of a law's own argument, told by its contract. -/
set_option linter.unusedVariables false
set_option linter.unusedSectionVars false
set_option linter.unusedSimpArgs false
namespace Go.VM
open Go.RowKit
variable [Val]

def conUp : Nat → List V → Bool
  | _, [] => true
  | i, .con j :: r => match Nat.beq i j with | true => conUp (Nat.succ i) r | false => false
  | _, _ => false

/-- the function k, of a struct of n cells, whose cells are the values numbered 0, 1, .. -/
def conPrim (k n : Nat) (b : Bool) (rest : Prims) : Prims := fun g h args => match Nat.beq k g with
  | true => match args with
    | [.agg cs] => match Nat.beq cs.length n && conUp 0 cs with | true => some (.raw (.bool b)) | false => none
    | _ => none
  | false => rest g h args

section
variable {P : Program} {G : Nat → Nat → Value → Prop} {w : World} {X : Nat → Prop} {φ : Loc}

theorem conUp_spec : ∀ {l : List V} {i : Nat}, conUp i l = true → ∀ (j : Nat) (d : V), l[j]? = some d → d = .con (i + j)
  | [], i, _, j, d, h => by cases h
  | c :: r, i, hq, j, d, h => by
    cases c with
    | con k =>
      simp only [conUp] at hq
      split at hq
      · rename_i hk
        have hk := Nat.eq_of_beq_eq_true hk
        cases j with
        | zero => simp at h; subst h; rw [hk]; rfl
        | succ j =>
          have := conUp_spec hq j d (by simpa using h)
          rw [this, show Nat.succ i + j = i + (j + 1) from by omega]
      · cases hq
    | _ => cases hq

theorem conPrim_ok {k n : Nat} {b : Bool} {rest : Prims} (hr : PrimOk P G rest) (hf : ∃ fn, P.funcs[k]? = some fn ∧ (fn.name == "runtime.NumGoroutine") = false ∧ fn.body.isNone = false) {cs : Array Value} (hn : cs.size = n) (hρ : ∀ i, i < n → cs[i]? = some (Val.ρ i))
    (hc : ∀ w, GAt G w → Calls P k #[.agg cs] w fun e w' => e = .returned (.bool b) ∧ Below w.heap.size w w') : PrimOk P G (conPrim k n b rest) := by
  intro g h args v hv
  unfold conPrim at hv
  split at hv
  · rename_i h1
    have h1 := Nat.eq_of_beq_eq_true h1
    subst h1
    refine ⟨hf, fun B fr φ w vals H hlen hargs => ?_⟩
    split at hv
    · rename_i ds
      split at hv
      · rename_i hq
        injection hv with hv
        subst hv
        rw [Bool.and_eq_true] at hq
        have hl := Nat.eq_of_beq_eq_true hq.1
        match vals, hlen with
        | [u], _ =>
          obtain ⟨vs, rfl, hlv, hvs⟩ := rep_agg (hargs 0 _ _ rfl rfl)
          have e : vs.toArray = cs := by
            apply Array.ext
            · simp; omega
            · intro i h1 h2
              have hi : i < vs.length := by simpa using h1
              have hd : ds[i]? = some ds[i] := List.getElem?_eq_getElem (by omega)
              have hcon := conUp_spec hq.2 i _ hd
              have hrep := hvs i _ vs[i] hd (by simp [hi])
              rw [hcon, Nat.zero_add] at hrep
              have hv : vs[i] = Val.ρ i := by cases hrep; assumption
              have := hρ i (by omega)
              rw [Array.getElem?_eq_getElem h2] at this
              injection this with this
              rw [this]
              simpa using hv
          rw [show ([Value.agg vs.toArray] : List Value).toArray = #[.agg cs] from by rw [e]]
          refine (hc w fun b o v hb => ⟨(H.gl b o v hb).1.1, (H.gl b o v hb).2⟩).mono ?_
          rintro e w' ⟨rfl, hB⟩
          exact ⟨_, rfl, hB, mk_b⟩
      · cases hv
    · cases hv
  · exact hr g h args v hv

theorem rep_cons {cs : List Value} (h1 : ∀ (i : Nat) (v : Value), cs[i]? = some v → v.oneCell' = true) (hρ : ∀ i, i < cs.length → cs[i]? = some (Val.ρ i)) : Rep w X φ (.agg ((List.range cs.length).map .con)) (.agg cs.toArray) := by
  refine .agg _ cs (by simp) fun i c v g1 g2 => ?_
  rw [List.getElem?_map] at g1
  obtain ⟨j, hj, rfl⟩ := Option.map_eq_some_iff.1 g1
  have hi : i < cs.length := (List.getElem?_eq_some_iff.1 g2).1
  rw [List.getElem?_range hi] at hj
  injection hj with hj
  subst hj
  have := hρ i hi
  rw [g2] at this
  injection this with this
  exact .con i v this (h1 i v g2)

end
end Go.VM
end

section
/- nobody's net: the run -/
set_option maxRecDepth 100000
set_option linter.unusedSectionVars false
namespace Go.Proofs.YtddfajkgaomnhaaGreat
open Go.VM
variable [Val]
theorem run4 : startN Tryz.prog (prims 363 364 mAw_ms) 5000 4 [.opq] 0 isTrue = true := by kernel_rfl
end Go.Proofs.YtddfajkgaomnhaaGreat
end

section
/- fathomlaw35.BondNobody returns true for every input. -/
set_option maxRecDepth 100000
namespace Go.Proofs.YtddfajkgaomnhaaGreat
open Go.ChangeShapes Go.WideShapes Go.ChangeAt Go.RowKit
set_option maxRecDepth 100000 in
theorem lifted4 (os : Os) (started : os.Started) (H : Type) (enc : TypeId × Value → H) :
    ReturnsInHanded {} Tryz.checked os 4 .any (Rows.bondNobodySpec.pre6 enc Tryz.prog Tryz.f4 Rows.bondNobodyRow.domain false) (Rows.bondNobodySpec.post enc Tryz.prog Tryz.f4 false true false false) := by
  refine returnsInHanded_of_change_shaped (C := Tryz.checked) own4 started (by kernel_rfl) Tryz.func4
    (ChangeSpec.witness6 (enc := enc) (C := Tryz.checked) false ⟨#[], #[.int .i64 0], []⟩ 8 (by kernel_rfl) (by kernel_rfl) (by kernel_rfl) (by kernel_rfl)) ?_
  intro W base args ds gs before hval0 hW hcnd _ hsh _
  have hval : ∀ (j : Nat) t v, Tryz.f4.params[j]? = some t → args[j]? = some v → Value.okWide Tryz.prog W .any base t v := hval0
  have hW' := hW
  obtain ⟨p, q, hA0, hV, hbe, hfz, hnd⟩ := hW
  have hA : DataW.TrodAll enc Tryz.prog W 0 (fun _ => true) true Tryz.f4.params.toList args.toList ds p := hA0
  rw [Tryz.params4] at hA hval
  obtain ⟨v0, vs0, e0, es0, p0, q0, hargs, rfl, rfl, h0, r0⟩ := trodAll_cons hA
  obtain ⟨rfl, rfl, rfl⟩ := trodAll_nil r0
  obtain rfl : args = #[v0] := by cases args; simp_all
  obtain ⟨m, hG⟩ := Tryz.maxLen W hsh
  have h0T := h0
  have h0 := Go.VM.trods_of h0
  have hv0 := hval 0 _ v0 rfl rfl
  have key : Calls Tryz.prog 4 #[v0] W fun e W' => e = .returned (.bool true) ∧ Below W.heap.size W W' := by
    obtain ⟨x, rfl⟩ := okWide_int Tryz.underlying3 hv0
    letI : Go.VM.Val := ⟨fun _ => .bool false⟩
    exact Go.VM.start_one (Go.VM.prims_ok Tryz.strFns (G := Go.VM.GAll W) hG (mAw_mk hG)) run4 (Go.VM.gall W) (.opq _ rfl)
  refine key.mono fun e W' ⟨he, hB⟩ => ?_
  subst he
  exact ⟨_, rfl, Go.VM.law_post laid4 (by intro t ht; rw [Tryz.params4] at ht; simp at ht; subst ht; exact ⟨by kernel_rfl, of_decide_eq_true (by kernel_rfl)⟩) rfl rfl (by kernel_rfl) hW' rfl hB⟩
end Go.Proofs.YtddfajkgaomnhaaGreat
end
