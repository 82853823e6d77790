/- The machine VM, part 16: code, functions, calls from nothing. -/
import Derived.Test.YtbopmdbejfcbcaaGreatV15
import Derived.LoopN
set_option linter.unusedVariables false
set_option linter.unusedSectionVars false
set_option linter.unusedSimpArgs false
set_option linter.constructorNameAsVariable false
namespace Go.VM
open Go.RowKit
variable [Val]

section
variable {P : Program} {N : Nat} {B : Nat → Prop} {G : Nat → Nat → Value → Prop} {fr U : Nat → Prop} {φ : Loc} {a : Act} {w : World} {e : T V} {h : Heap} {nx : Nat} {pr : List Nat}

/-- what is said behind a piece of code -/
def Lift (N : Nat) (B : Nat → Prop) (G : Nat → Nat → Value → Prop) (U : Nat → Prop) (pr : List Nat) (nx : Nat) (φ : Loc) (w : World) (q : Out → Bool) : Exit → Act → World → Prop
  | .normal, a', w' => After N B G U pr nx φ w (fun s => q (.normal s)) a' w'
  | .exit id, a', w' => After N B G U pr nx φ w (fun s => q (.exit id s)) a' w'
  | .ret, a', w' => After N B G U pr nx φ w (fun s => q (.ret s)) a' w'
  | _, _, _ => False

theorem Lift.from {q : Out → Bool} {φ₁ : Loc} {w₁ : World} {nx₁ : Nat} (F : Fwd pr φ w φ₁ w₁) (hn : nx ≤ nx₁) {x : Exit} {a' : Act} {w' : World} (hh : Lift N B G U pr nx₁ φ₁ w₁ q x a' w') : Lift N B G U pr nx φ w q x a' w' := by
  cases x <;> simp only [Lift] at hh ⊢
  all_goals
    obtain ⟨s', φ', h1, h2, h3, h4, h5⟩ := hh
    exact ⟨s', φ', h1, h2, h3, Nat.le_trans hn h4, F.trans h5⟩

/-- What is to be known of functions that are told. -/
def PrimOk (P : Program) (G : Nat → Nat → Value → Prop) (prim : Prims) : Prop := ∀ (g : Nat) (h : Heap) (args : List V) (v : V), prim g h args = some v →
  (∃ fn, P.funcs[g]? = some fn ∧ (fn.name == "runtime.NumGoroutine") = false ∧ fn.body.isNone = false) ∧
  ∀ (B : Nat → Prop) (fr : Nat → Prop) (φ : Loc) (w : World) (vals : List Value), HeapAt B G fr φ h w → args.length = vals.length →
    (∀ (i : Nat) (c : V) (u : Value), args[i]? = some c → vals[i]? = some u → Rep w (Excl B φ) φ c u) →
    Calls P g vals.toArray w fun e w' => ∃ u, e = .returned u ∧ Below w.heap.size w w' ∧ Rep w' (Excl B φ) φ v u

/-- what code comes to -/
def CodeOk (P : Program) (G : Nat → Nat → Value → Prop) (go : CCode → S → (Out → Bool) → Bool) : Prop := ∀ (N : Nat) (c : Code) (e : T V) (h : Heap) (nx : Nat) (pr : List Nat) (q : Out → Bool), go (tCode P N c) ⟨e, h, nx, pr⟩ q = true →
  ∀ (B : Nat → Prop) (U : Nat → Prop) (φ : Loc) (a : Act) (w : World), (∀ x, U x → x < nx) → RelAt N B G (FR U nx) φ ⟨e, h, nx, pr⟩ a w → c.wp P (Lift N B G U pr nx φ w q) a w

/-! results -/

theorem params_spec : ∀ {args : List V} {k : Nat} {e : T V} {q : T V → Bool}, params k args e q = true → ∃ e', (∀ t, e'.get t = if k ≤ t ∧ t < k + args.length then args[t - k]? else e.get t) ∧ q e' = true
  | [], k, e, q, h => ⟨e, fun t => by simp; omega, h⟩
  | c :: r, k, e, q, h => by
    simp only [params, force_eq] at h
    obtain ⟨e₁, hp, h⟩ := T.putK_spec h
    obtain ⟨e', h1, h2⟩ := params_spec h
    refine ⟨e', fun t => ?_, h2⟩
    rw [h1 t]
    simp only [List.length_cons, Nat.succ_eq_add_one]
    by_cases ht : t = k
    · subst ht
      rw [if_neg (by omega), if_pos (by omega), hp, if_pos rfl]
      simp
    · by_cases h3 : k + 1 ≤ t ∧ t < k + 1 + r.length
      · rw [if_pos h3, if_pos (by omega), show t - k = (t - (k + 1)) + 1 from by omega]
        simp
      · rw [if_neg h3, if_neg (by omega), hp, if_neg ht]

def resOne (tmps : Array Value) : ResultVar → Sem Value
  | .tmp t => pure (tmps.getD t undef)
  | .cell a t => do loadVar t (← asAddr (tmps.getD a undef))

theorem res_one (R : RelAt N B G fr φ ⟨e, h, nx, pr⟩ a w) {r : ResultVar} {v : V} (hr : resv e h (tRes P r) = some v) : ∃ u, (resOne a.tmps r).run P w = .ok u w ∧ Rep w (Excl B φ) φ v u := by
  cases r with
  | tmp t => exact ⟨_, rfl, (R.env t v hr).2⟩
  | cell p t =>
    simp only [tRes] at hr
    split at hr
    · rename_i agg k hg hk
      simp only [resv] at hr
      split at hr
      · rename_i x off hx
        split at hr
        · rename_i cs hs
          split at hr
          · rename_i hle
            have hle := Nat.le_of_ble_eq_true hle
            obtain ⟨b, hb, vs, t', z, hh, hz, hlen, hp⟩ := R.st x _ hs
            obtain ⟨ad, hv, _, _, had⟩ := rep_ptr (R.env p _ hx).2
            obtain rfl := had b hb
            obtain ⟨u, h4, h5⟩ := load_of_cells (P := P) (w := w) (X := Excl B φ) (φ := φ) (b := b) (of := off) hg hk (cut_len hle) (fun i d hd => by
              obtain ⟨h1, h2⟩ := cut_get hd
              have hlt : off + i < vs.size := by omega
              exact ⟨vs[off + i], by rw [cell_of_heap hh]; simp [hlt], (hp (off + i) d _ h2 (by simp [hlt])).1⟩) hr
            refine ⟨u, ?_, h5⟩
            simp only [resOne, Sem.run_bind, hv]
            simpa [asAddr] using h4 w rfl
          · cases hr
        · cases hr
      · cases hr
    · cases hr

theorem ress_run (R : RelAt N B G fr φ ⟨e, h, nx, pr⟩ a w) : ∀ {l : List ResultVar} {vs : List V}, ress e h (tRess P l) = some vs → ∃ us : List Value, (l.mapM (m := Sem) (resOne a.tmps)).run P w = .ok us w ∧ vs.length = us.length ∧ ∀ (i : Nat) (c : V) (u : Value), vs[i]? = some c → us[i]? = some u → Rep w (Excl B φ) φ c u
  | [], vs, hr => by
    simp only [tRess, ress, Option.some.injEq] at hr
    subst hr
    exact ⟨[], rfl, rfl, fun i c u h => by cases h⟩
  | r :: l, vs, hr => by
    simp only [tRess, ress] at hr
    split at hr
    · rename_i v l' hv hl
      injection hr with hr
      subst hr
      obtain ⟨u, h1, h2⟩ := res_one R hv
      obtain ⟨us, h3, h4, h5⟩ := ress_run R hl
      refine ⟨u :: us, by rw [List.mapM_cons]; simp only [Sem.run_bind, h1, Result.andThen_ok, h3, Sem.run_pure], by simp [h4], fun i c x g1 g2 => ?_⟩
      cases i with
      | zero => simp at g1 g2; subst g1; subst g2; exact h2
      | succ i => exact h5 i c x (by simpa using g1) (by simpa using g2)
    · cases hr

theorem result_run (R : RelAt N B G fr φ ⟨e, h, nx, pr⟩ a w) {fn : Func} {v : V} (hr : result e h (tRess P fn.results.toList) = some v) : ∃ u, (results fn a.tmps).run P w = .ok u w ∧ Rep w (Excl B φ) φ v u := by
  have hres : ∀ us : List Value, (fn.results.toList.mapM (m := Sem) (resOne a.tmps)).run P w = .ok us w → (results fn a.tmps).run P w = .ok (if h : us.toArray.size = 1 then us.toArray[0] else .tuple us.toArray) w := fun us hus => by
    have e1 : (fn.results.mapM (m := Sem) (resOne a.tmps)).run P w = .ok us.toArray w := by
      rw [Array.mapM_eq_mapM_toList]
      simp [hus]
    show ((fn.results.mapM (m := Sem) (resOne a.tmps)) >>= fun vs => pure (if h : vs.size = 1 then vs[0] else .tuple vs)).run P w = _
    simp only [Sem.run_bind, e1, Result.andThen_ok, Sem.run_pure]
  unfold result at hr
  split at hr
  · rename_i v' hv
    injection hr with hr
    subst hr
    obtain ⟨us, h1, h2, h3⟩ := ress_run R hv
    match us, h2 with
    | [u], _ => exact ⟨u, by rw [hres _ h1]; simp, h3 0 v' u rfl rfl⟩
  · rename_i vs hne hv
    injection hr with hr
    subst hr
    obtain ⟨us, h1, h2, h3⟩ := ress_run R hv
    refine ⟨.tuple us.toArray, ?_, .tup vs us h2 h3⟩
    rw [hres _ h1, dif_neg]
    intro h
    have : vs.length = 1 := by rw [h2]; simpa using h
    match vs, this with
    | [v'], _ => exact hne v' rfl
  · cases hr

/-- A call, of what code comes to. -/
theorem enter_ok {go : CCode → S → (Out → Bool) → Bool} (hgo : CodeOk P G go) {g : Nat} {args : List V} {h : Heap} {nx : Nat} {pr : List Nat} {q : V → Heap → Nat → Bool} (hq : enter go args h nx pr q (fnOf P P.funcs[g]?) = true) :
    (∃ fn, P.funcs[g]? = some fn ∧ (fn.name == "runtime.NumGoroutine") = false ∧ fn.body.isNone = false) ∧
    ∀ (B : Nat → Prop) (U : Nat → Prop) (φ : Loc) (w : World) (vals : List Value), HeapAt B G (FR U nx) φ h w → (∀ x, U x → x < nx) → args.length = vals.length →
      (∀ (i : Nat) (c : V) (v : Value), args[i]? = some c → vals[i]? = some v → Rep w (Excl B φ) φ c v) →
      Calls P g vals.toArray w fun e w' => ∃ v c φ' h' nx', e = .returned v ∧ q c h' nx' = true ∧ HeapAt B G (FR U nx') φ' h' w' ∧ nx ≤ nx' ∧ Fwd pr φ w φ' w' ∧ Rep w' (Excl B φ') φ' c v := by
  cases hf : P.funcs[g]? with
  | none => rw [hf] at hq; cases hq
  | some fn =>
  rw [hf] at hq
  simp only [fnOf, tFn] at hq
  split at hq
  · · rename_i c hb hname
      refine ⟨⟨fn, rfl, hname, by rw [hb]; rfl⟩, fun B U φ w vals H hU hlen hargs => ?_⟩
      simp only [enter] at hq
      split at hq
      · rename_i hle
        have hle := Nat.le_of_ble_eq_true hle
        obtain ⟨e, he, hq⟩ := params_spec hq
        refine calls_of_wp hf hb ?_
        have R : RelAt fn.ntmps B G (FR U nx) φ ⟨e, h, nx, pr⟩ { tmps := vals.toArray ++ Array.replicate (fn.ntmps - vals.toArray.size) undef, defers := [] } w :=
          { H with
            size := by simp; omega
            defers := rfl
            env := fun t c' ht => by
              have ht : e.get t = some c' := ht
              rw [he t] at ht
              split at ht
              · rename_i hlt
                rw [Nat.sub_zero] at ht
                have hlv : t < vals.length := by omega
                refine ⟨by omega, hargs t c' _ ht ?_⟩
                simp only [Array.getD]
                split
                · rw [List.getElem?_eq_getElem hlv]
                  simp [Array.getElem_append, hlv]
                · rename_i hn; simp at hn; omega
              · rw [T.get_e] at ht; cases ht }
        refine wp_mono (hgo fn.ntmps c e h nx pr _ hq B U φ _ w hU R) fun x a' w' hh => ?_
        have fin : ∀ {s' : S} {φ' : Loc}, RelAt fn.ntmps B G (FR U s'.nx) φ' s' a' w' → nx ≤ s'.nx → Fwd pr φ w φ' w' → (match result s'.env s'.h (tRess P fn.results.toList) with | some v => force v fun v => q v s'.h s'.nx | none => false) = true →
            a'.defers = [] ∧ ∃ v, (results fn a'.tmps).run P w' = .ok v w' ∧ ∃ v' c φ' h' nx', Ending.returned v = .returned v' ∧ q c h' nx' = true ∧ HeapAt B G (FR U nx') φ' h' w' ∧ nx ≤ nx' ∧ Fwd pr φ w φ' w' ∧ Rep w' (Excl B φ') φ' c v' := by
          rintro ⟨e', h', nx', pr'⟩ φ' R' hn F hk
          dsimp only at hk
          split at hk
          · rename_i v hv
            rw [force_eq] at hk
            obtain ⟨u, hu, hrep⟩ := result_run R' hv
            exact ⟨R'.defers, u, hu, u, v, φ', h', nx', rfl, hk, R'.toHeapAt, hn, F, hrep⟩
          · cases hk
        cases x <;> simp only [Lift, bodyPost] at hh ⊢
        · obtain ⟨s', φ', h1, h2, h3, h4, h5⟩ := hh
          exact fin h2 h4 h5 h1
        · obtain ⟨s', φ', h1, h2, h3, h4, h5⟩ := hh
          cases h1
        · obtain ⟨s', φ', h1, h2, h3, h4, h5⟩ := hh
          exact fin h2 h4 h5 h1
      · cases hq
  · cases hq

theorem callF_ok {prim : Prims} (hp : PrimOk P G prim) {go : CCode → S → (Out → Bool) → Bool} (hgo : CodeOk P G go) : CallOk P G (callF P prim go) := by
  intro g args h nx pr q hq
  simp only [callF] at hq
  split at hq
  · rename_i v hv
    rw [force_eq] at hq
    obtain ⟨h1, h2⟩ := hp g h args v hv
    refine ⟨h1, fun B U φ w vals H hU hlen hargs => (h2 B _ φ w vals H hlen hargs).mono ?_⟩
    rintro e w' ⟨u, rfl, hB, hrep⟩
    have F : Fwd pr φ w φ w' := ⟨hB.os, hB.tape, hB.output, hB.size, fun b hb _ => hB.block b hb, fun x b hx => .inl ⟨x, hx, .inl rfl⟩, fun x v hx => .inl hx, keep_of hB.block⟩
    refine ⟨u, v, φ, h, nx, rfl, hq, H.step F (fun x k hk => .inl ⟨hk, rfl, fun b hb => hB.block b (H.lt x b hb).1⟩) H.inj (fun x b hx => ?_) H.free, Nat.le_refl _, F, hrep⟩
    have := H.lt x b hx
    exact ⟨Nat.lt_of_lt_of_le this.1 hB.size, this.2⟩
  · exact enter_ok hgo hq

theorem RelAt.drew (R : RelAt N B G fr φ ⟨e, h, nx, pr⟩ a w) : RelAt N B G fr φ ⟨e, h, nx, pr⟩ a w.drew ∧ Fwd pr φ w φ w.drew := by
  have F : Fwd pr φ w φ w.drew := ⟨rfl, rfl, rfl, Nat.le_refl _, fun _ _ _ => rfl, fun x b hx => .inl ⟨x, hx, .inl rfl⟩, fun x v hx => .inl hx, keep_of fun _ _ => rfl⟩
  exact ⟨R.step (pr'' := pr) (nx' := nx) F (R.toHeapAt.step F (fun x k hk => .inl ⟨hk, rfl, fun b hb => rfl⟩) R.inj (fun x b hx => R.lt x b hx) R.free), F⟩

theorem region_ok (call : Calling) (hcall : CallOk P G call) {id : Nat} {ops : Array Oper} {q : Out → Bool} (hq : runRegion call (tOpers P N ops ops.toList) q ⟨e, h, nx, pr⟩ = true) (hU : ∀ x, U x → x < nx) (R : RelAt N B G (FR U nx) φ ⟨e, h, nx, pr⟩ a w) :
    (Code.region id ops false).wp P (Lift N B G U pr nx φ w q) a w := by
  simp only [runRegion, forceN_eq, tOpers_len] at hq
  refine wp_region ?_
  have hlen : ops.toList.length = ops.size := by simp
  rw [hlen] at hq
  have hq : evR call (nx + 0) (tOpers P N ops ops.toList) ⟨e, h, nx + ops.size, pr⟩ (fun s => q (.normal s)) = true := hq
  have := sound_evR (U := U) (Q := Lift N B G U pr nx φ w q) call hcall (base := nx) (n := ops.size) (nx₀ := nx + ops.size) (φ₀ := φ) (w₀ := w) hU (Nat.le_refl _) (fun a' w' ⟨s', φ', h1, h2, h3, h4, h5⟩ => ⟨s', φ', h1, h2, h3, by omega, h5⟩) ops.toList 0 e h (nx + ops.size) φ a w (fun i => by simp) (by simp) hq (Nat.le_refl _) (R.less fun x hx => by
    rcases hx with (hx | hx) | hx
    · exact .inl hx
    · exact .inr (by omega)
    · exact .inr (by omega)) (Fwd.refl _ _ _)
  rw [hlen] at this
  rw [List.range_eq_range']
  exact this

theorem drawn_ok (call : Calling) (hcall : CallOk P G call) {id : Nat} {ops : Array Oper} (hm : P.follows .mixedOrders = true) (hsel : Region.noSelect ops = true) {q : Out → Bool} (hq : runDrawn call (tROps P N ops (tLooks ops ops.toList) 0 ops.toList) q ⟨e, h, nx, pr⟩ = true) (hU : ∀ x, U x → x < nx) (R : RelAt N B G (FR U nx) φ ⟨e, h, nx, pr⟩ a w) :
    (Code.region id ops true).wp P (Lift N B G U pr nx φ w q) a w := by
  have hlen : (tROps P N ops (tLooks ops ops.toList) 0 ops.toList).length = ops.size := by
    have : ∀ (ks : List (Option Nat × List Nat × Nat)) (l : List Oper) (k : Nat), (tROps P N ops ks k l).length = l.length := fun ks l => by
      induction l with
      | nil => intro k; rfl
      | cons o r ih => intro k; simp [tROps, ih]
    rw [this]; simp
  simp only [runDrawn, forceN_eq, hlen] at hq
  obtain ⟨R', F⟩ := R.drew
  refine wp_region_any hm (wpAny_of_E _ [] _ _ _ ?_)
  exact sound_evD (U := U) (Q := Lift N B G U pr nx φ w q) call hcall hsel (fun c a w h => h) (base := nx) (nx₀ := nx + ops.size) (K := fun s => q (.normal s)) (φ₀ := φ) (w₀ := w.drew) hU (Nat.le_refl _) (fun a' w' ⟨s', φ', h1, h2, h3, h4, h5⟩ => ⟨s', φ', h1, h2, h3, by omega, F.trans h5⟩)
    ops.size 0 [] [] _ e h (nx + ops.size) φ a w.drew hq (by simp) (fun i hi => by simp [Array.getD, hi]) (fun i hi => by simp at hi) (Nat.le_refl _) (R'.less fun x hx => by
      rcases hx with (hx | hx) | hx
      · exact .inl hx
      · exact .inr (by omega)
      · exact .inr (by omega)) (Fwd.refl _ _ _) (fun p hp => by cases hp)

end
end Go.VM
