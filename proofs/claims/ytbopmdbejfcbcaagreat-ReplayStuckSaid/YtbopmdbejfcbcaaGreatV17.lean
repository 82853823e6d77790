/- The machine VM, part 17: code to any depth; a call from nothing. -/
import Derived.Test.YtbopmdbejfcbcaaGreatV16
set_option linter.unusedVariables false
set_option linter.unusedSectionVars false
set_option linter.unusedSimpArgs false
set_option linter.constructorNameAsVariable false
namespace Go.VM
open Go.RowKit
variable [Val]

section
variable {P : Program} {N : Nat} {B : Nat → Prop} {G : Nat → Nat → Value → Prop} {fr U : Nat → Prop} {φ : Loc} {a : Act} {w : World} {e : T V} {h : Heap} {nx : Nat} {pr : List Nat}

theorem lift_then {c : Code} {q : Out → Bool} {k : S → (Out → Bool) → Bool} {next : Act → World → Prop}
    (h : c.wp P (Lift N B G U pr nx φ w (thenK k q)) a w)
    (hk : ∀ (e' : T V) (h' : Heap) (nx' : Nat) (φ' : Loc) (a' : Act) (w' : World), k ⟨e', h', nx', pr⟩ q = true → RelAt N B G (FR U nx') φ' ⟨e', h', nx', pr⟩ a' w' → nx ≤ nx' → Fwd pr φ w φ' w' → next a' w') :
    c.wp P (Exit.then next (Lift N B G U pr nx φ w q)) a w := by
  refine wp_mono h fun x a' w' hh => ?_
  cases x with
  | normal =>
    obtain ⟨⟨e', h', nx', pr'⟩, φ', h1, h2, h3, h4, h5⟩ := hh
    have h3 : pr = pr' := h3.symm
    subst h3
    exact hk e' h' nx' φ' a' w' h1 h2 h4 h5
  | exit id => exact hh
  | ret => exact hh
  | goto l => exact hh
  | panic ch => exact hh
  | outgrown => exact hh

theorem code_ok {prim : Prims} (hp : PrimOk P G prim) : ∀ n, CodeOk P G (run P prim n) ∧ ∀ (N : Nat) (c : Code) (e : T V) (h : Heap) (nx : Nat) (pr : List Nat) (q : Out → Bool), run P prim n (.loop (tCode P N c)) ⟨e, h, nx, pr⟩ q = true →
    ∀ (B : Nat → Prop) (U : Nat → Prop) (φ : Loc) (a : Act) (w : World), (∀ x, U x → x < nx) → RelAt N B G (FR U nx) φ ⟨e, h, nx, pr⟩ a w → Code.rounds P c (Lift N B G U pr nx φ w q) n a w
  | 0 => ⟨fun N c e h nx pr q hq => absurd hq (by simp [run]), fun N c e h nx pr q hq => absurd hq (by simp [run])⟩
  | n + 1 => by
    obtain ⟨ih, il⟩ := code_ok hp n
    have hL : ∀ (N : Nat) (c : Code) (e : T V) (h : Heap) (nx : Nat) (pr : List Nat) (q : Out → Bool), run P prim (n + 1) (.loop (tCode P N c)) ⟨e, h, nx, pr⟩ q = true →
        ∀ (B : Nat → Prop) (U : Nat → Prop) (φ : Loc) (a : Act) (w : World), (∀ x, U x → x < nx) → RelAt N B G (FR U nx) φ ⟨e, h, nx, pr⟩ a w → Code.rounds P c (Lift N B G U pr nx φ w q) (n + 1) a w := by
      intro N c e h nx pr q hq B U φ a w hU R
      rw [rounds_succ]
      refine lift_then (k := run P prim n (.loop (tCode P N c))) (ih N c e h nx pr _ hq B U φ a w hU R) fun e' h' nx' φ' a' w' hq' R' hn F => ?_
      have := il N c e' h' nx' pr q hq' B U φ' a' w' (fun x hx => Nat.lt_of_lt_of_le (hU x hx) hn) R'
      have mono : ∀ m a₁ w₁, Code.rounds P c (Lift N B G U pr nx' φ' w' q) m a₁ w₁ → Code.rounds P c (Lift N B G U pr nx φ w q) m a₁ w₁ := by
        intro m
        induction m with
        | zero => intro a₁ w₁ h; exact h
        | succ m ihm =>
          intro a₁ w₁ h
          rw [rounds_succ] at h ⊢
          refine wp_mono h fun x a₂ w₂ hh => ?_
          cases x with
          | normal => exact ihm _ _ hh
          | exit id => exact Lift.from F hn (x := .exit id) hh
          | ret => exact Lift.from F hn (x := .ret) hh
          | goto l => exact hh
          | panic ch => exact hh
          | outgrown => exact hh
      exact mono n a' w' this
    refine ⟨fun N c e h nx pr q hq B U φ a w hU R => ?_, hL⟩
    cases c with
    | skip => exact wp_skip ⟨_, φ, hq, R, rfl, Nat.le_refl _, Fwd.refl _ _ _⟩
    | exit id => exact wp_exit ⟨_, φ, hq, R, rfl, Nat.le_refl _, Fwd.refl _ _ _⟩
    | ret => exact wp_ret ⟨_, φ, hq, R, rfl, Nat.le_refl _, Fwd.refl _ _ _⟩
    | seq x y =>
      refine wp_seq (lift_then (k := run P prim n (tCode P N y)) (ih N x e h nx pr _ hq B U φ a w hU R) fun e' h' nx' φ' a' w' hq' R' hn F => ?_)
      exact wp_mono (ih N y e' h' nx' pr q hq' B U φ' a' w' (fun x hx => Nat.lt_of_lt_of_le (hU x hx) hn) R') fun x a w hh => Lift.from F hn hh
    | cond x y z =>
      have hq : condK (run P prim n (tCode P N y) ⟨e, h, nx, pr⟩ q) (run P prim n (tCode P N z) ⟨e, h, nx, pr⟩ q) (VM.opd e (tOpd x)) = true := hq
      unfold condK at hq
      split at hq
      · rename_i hx; exact wp_cond_true (rep_b (R.opd hx)) (ih N y e h nx pr q hq B U φ a w hU R)
      · rename_i hx; exact wp_cond_false (rep_b (R.opd hx)) (ih N z e h nx pr q hq B U φ a w hU R)
      · cases hq
    | block id c =>
      refine wp_block (wp_mono (ih N c e h nx pr _ hq B U φ a w hU R) fun x a' w' hh => ?_)
      cases x with
      | normal => exact hh
      | exit id' =>
        obtain ⟨s', φ', h1, h2, h3, h4, h5⟩ := hh
        simp only [blockK] at h1
        split at h1
        · rename_i hb
          have hb := Nat.eq_of_beq_eq_true hb
          subst hb
          show ite _ _ _
          rw [if_pos rfl]
          exact ⟨s', φ', h1, h2, h3, h4, h5⟩
        · rename_i hb
          have hb := Nat.ne_of_beq_eq_false hb
          show ite _ _ _
          rw [if_neg hb]
          exact ⟨s', φ', h1, h2, h3, h4, h5⟩
      | ret => exact hh
      | goto l => exact hh
      | panic ch => exact hh
      | outgrown => exact hh
    | loop c => exact wp_loop_rounds (n + 1) (hL N c e h nx pr q hq B U φ a w hU R)
    | region id ops d =>
      cases d with
      | false => exact region_ok _ (callF_ok hp ih) hq hU R
      | true =>
        simp only [tCode] at hq
        split at hq
        · rename_i hm
          rw [Bool.and_eq_true] at hm
          exact drawn_ok _ (callF_ok hp ih) hm.1 hm.2 hq hU R
        · cases hq
    | _ => cases hq

/-- A call from nothing: what its arguments stand for, it may only read. Names below nx stand for nothing that is told. -/
def startH (P : Program) (prim : Prims) (n f : Nat) (args : List V) (nx : Nat) (q : V → Heap → Bool) : Bool :=
  enter (run P prim n) args .e nx [] (fun v h _ => q v h) (fnOf P P.funcs[f]?)
def startN (P : Program) (prim : Prims) (n f : Nat) (args : List V) (nx : Nat) (q : V → Bool) : Bool := startH P prim n f args nx fun v _ => q v

/-- names below nx are given away -/
def Gone (nx : Nat) : Loc := fun x => if x < nx then some none else none

theorem gone_some {nx x b : Nat} (h : Gone nx x = some (some b)) : False := by
  unfold Gone at h
  split at h <;> cases h

theorem excl_gone (nx : Nat) : Excl (fun _ => False) (Gone nx) = fun _ => False := by
  funext b
  apply propext
  constructor
  · rintro (h | ⟨x, h⟩)
    · exact h
    · exact gone_some h
  · exact False.elim

/-- what is said of cells that belong to nobody -/
def GAt (G : Nat → Nat → Value → Prop) (w : World) : Prop := ∀ b o v, G b o v → b < w.heap.size ∧ w.cell? ⟨b, o, none⟩ = some v

theorem start_okH {prim : Prims} (hp : PrimOk P G prim) {n f nx : Nat} {args : List V} {q : V → Heap → Bool} (hq : startH P prim n f args nx q = true) (w : World) (hG : GAt G w) (vals : List Value) (hlen : args.length = vals.length)
    (hargs : ∀ (i : Nat) (c : V) (v : Value), args[i]? = some c → vals[i]? = some v → Rep w (fun _ => False) (Gone nx) c v) :
    Calls P f vals.toArray w fun e w' => ∃ v c φ h fr, e = .returned v ∧ q c h = true ∧ Below w.heap.size w w' ∧ HeapAt (fun _ => False) G fr φ h w' ∧ (∀ x b, φ x = some (some b) → w.heap.size ≤ b) ∧ Rep w' (Excl (fun _ => False) φ) φ c v := by
  have H : HeapAt (fun _ => False) G (FR (fun _ => False) nx) (Gone nx) .e w :=
    { st := fun x k h => by rw [T.get_e] at h; cases h
      inj := fun x y b h => (gone_some h).elim
      lt := fun x b h => (gone_some h).elim
      ltB := fun b h => h.elim
      free := fun x h => by
        rcases h with h | h
        · exact h.elim
        · unfold Gone; rw [if_neg (by omega)]
      gl := fun b o v h => ⟨⟨(hG b o v h).1, fun x hx => gone_some hx⟩, (hG b o v h).2⟩ }
  refine ((enter_ok (code_ok hp n).1 hq).2 (fun _ => False) (fun _ => False) (Gone nx) w vals H (fun x h => h.elim) hlen (fun i c v h1 h2 => by rw [excl_gone]; exact hargs i c v h1 h2)).mono ?_
  rintro e w' ⟨v, c, φ', h', nx', rfl, hc, H', hn, F, hr⟩
  refine ⟨v, c, φ', h', _, rfl, hc, ⟨F.os, F.tape, F.output, F.size, fun k hk => F.block k hk fun x hx => (gone_some hx).elim⟩, H', fun x b hx => ?_, hr⟩
  rcases F.new x b hx with ⟨y, hy, _⟩ | h
  · exact (gone_some hy).elim
  · exact h

theorem start_ok {prim : Prims} (hp : PrimOk P G prim) {n f nx : Nat} {args : List V} {q : V → Bool} (hq : startN P prim n f args nx q = true) (w : World) (hG : GAt G w) (vals : List Value) (hlen : args.length = vals.length)
    (hargs : ∀ (i : Nat) (c : V) (v : Value), args[i]? = some c → vals[i]? = some v → Rep w (fun _ => False) (Gone nx) c v) :
    Calls P f vals.toArray w fun e w' => ∃ v c X φ, e = .returned v ∧ q c = true ∧ Below w.heap.size w w' ∧ Rep w' X φ c v :=
  (start_okH hp hq w hG vals hlen hargs).mono fun e w' ⟨v, c, φ, h, fr, h1, h2, h3, h4, h5, h6⟩ => ⟨v, c, _, φ, h1, h2, h3, h6⟩

theorem isTrue_rep {X : Nat → Prop} {c : V} {v : Value} (h : isTrue c = true) (hr : Rep w X φ c v) : v = .bool true := by
  unfold isTrue at h
  split at h
  · rename_i b; subst h; exact rep_b hr
  · cases h

/-- A law's call. -/
theorem start_true {prim : Prims} (hp : PrimOk P G prim) {n f nx : Nat} {args : List V} (hq : startN P prim n f args nx isTrue = true) (w : World) (hG : GAt G w) (vals : List Value) (hlen : args.length = vals.length)
    (hargs : ∀ (i : Nat) (c : V) (v : Value), args[i]? = some c → vals[i]? = some v → Rep w (fun _ => False) (Gone nx) c v) :
    Calls P f vals.toArray w fun e w' => e = .returned (.bool true) ∧ Below w.heap.size w w' :=
  (start_ok hp hq w hG vals hlen hargs).mono fun e w' ⟨v, c, X, φ, he, hc, hB, hr⟩ => ⟨by rw [he, isTrue_rep hc hr], hB⟩

end
end Go.VM
