/- The machine VM, part 13: guards; regions in the text's order. -/
import Derived.Test.YtbopmdbejfcbcaaGreatV12
set_option linter.unusedVariables false
set_option linter.unusedSectionVars false
set_option linter.unusedSimpArgs false
set_option linter.constructorNameAsVariable false
namespace Go.VM
open Go.RowKit
variable [Val]

section
variable {P : Program} {ty : TypeId} {N : Nat} {B : Nat → Prop} {G : Nat → Nat → Value → Prop} {fr U : Nat → Prop} {φ : Loc} {a : Act} {w : World} {e : T V} {h : Heap} {nx : Nat} {pr : List Nat}
variable {o : Oper} {nm : Nat} {q : S → Bool} {ops : Array Oper}

theorem tOper_spec {dst : Option Nat} {op : COp} {g : Option (Nat × Bool)} (hc : tOper P N ops o = ⟨dst, op, g⟩) : (op = .bad ∧ g = none) ∨ (dst = o.dst ∧ (∀ d, o.dst = some d → d < N) ∧ tOp P o.op = op ∧ ((g = none ∧ o.guard = none) ∨ ∃ j b t, o.guard = some (j, b) ∧ g = some (t, b) ∧ (ops[j]?).bind (·.dst) = some t)) := by
  unfold tOper at hc
  split at hc
  · rename_i hd
    have hd' : ∀ d, o.dst = some d → d < N := fun d h => by rw [h] at hd; exact Nat.le_of_ble_eq_true hd
    split at hc
    · rename_i hg
      injection hc with h1 h2 h3
      exact .inr ⟨h1.symm, hd', h2, .inl ⟨h3.symm, hg⟩⟩
    · rename_i j b hg
      split at hc
      · rename_i t ht
        injection hc with h1 h2 h3
        exact .inr ⟨h1.symm, hd', h2, .inr ⟨j, b, t, hg, h3.symm, ht⟩⟩
      · injection hc with h1 h2 h3; exact .inl ⟨h2.symm, h3.symm⟩
  · injection hc with h1 h2 h3; exact .inl ⟨h2.symm, h3.symm⟩

theorem rep_nil_tup {X : Nat → Prop} : Rep w X φ (.tup []) undef := .tup [] [] rfl fun _ _ _ h => by cases h

theorem skipped_spec (R : RelAt N B G (FR U nx) φ ⟨e, h, nx, pr⟩ a w) {dst : Option Nat} (hd : ∀ d, dst = some d → d < N) (hq : skipped ⟨e, h, nx, pr⟩ dst q = true) : After N B G U pr nx φ w q (a.put dst undef) w := by
  simp only [skipped] at hq
  obtain ⟨e', he, hq⟩ := setO_spec hq
  exact ⟨_, _, hq, R.put hd rep_nil_tup he, rfl, Nat.le_refl _, Fwd.refl _ _ _⟩

/-- a guard, read off -/
theorem guard_spec (R : RelAt N B G (FR U nx) φ ⟨e, h, nx, pr⟩ a w) {j t : Nat} {want go skip : Bool} (hg : o.guard = some (j, want)) (hj : (ops[j]?).bind (·.dst) = some t) (hq : evGd want go skip (e.get t) = true) :
    (Region.wanted o (yielded ops a.tmps) = true ∧ go = true) ∨ (Region.wanted o (yielded ops a.tmps) = false ∧ skip = true) := by
  unfold evGd at hq
  split at hq
  · rename_i b hb
    obtain ⟨hlt, hr⟩ := R.env t _ hb
    have hv := rep_b hr
    have hlt' : t < a.tmps.size := by rw [R.size]; exact hlt
    have hy : yielded ops a.tmps j = some b := by
      unfold yielded
      rw [hj]
      simp only [Option.bind_some]
      have : a.tmps[t]? = some (.bool b) := by
        rw [← hv]
        simp [Array.getD, hlt']
      rw [this]
    have hw : Region.wanted o (yielded ops a.tmps) = (b == want) := by
      unfold Region.wanted
      rw [hg]
      simp only [hy]
      cases b <;> cases want <;> rfl
    rw [hw, ← eqB_eq]
    split at hq
    · rename_i h; exact .inl ⟨h, hq⟩
    · rename_i h; exact .inr ⟨h, hq⟩
  · rename_i hb
    obtain ⟨hlt, hr⟩ := R.env t _ hb
    obtain ⟨vs, hv, hlen, _⟩ := rep_tup hr
    have hnil : vs = [] := List.eq_nil_of_length_eq_zero hlen.symm
    subst hnil
    have hlt' : t < a.tmps.size := by rw [R.size]; exact hlt
    refine .inr ⟨?_, hq⟩
    have hy : yielded ops a.tmps j = none := by
      unfold yielded
      rw [hj]
      simp only [Option.bind_some]
      have : a.tmps[t]? = some (.tuple #[]) := by
        have hv' : a.tmps.getD t undef = .tuple #[] := hv
        rw [← hv']
        simp [Array.getD, hlt']
      rw [this]
    unfold Region.wanted
    rw [hg]
    simp only [hy]
    rfl
  · cases hq

theorem evOp_bad {call : Calling} {s : S} {dst : Option Nat} (hq : evOp call s nm dst q .bad = true) : False := by
  cases hq

/-- An operation of a region. -/
theorem sound_evG (call : Calling) (hcall : CallOk P G call) {i : Nat} (hi : ops[i]? = some o) (hU : U nm) (hUx : ∀ x, U x → x < nx) (hq : evG call ⟨e, h, nx, pr⟩ nm (tOper P N ops o) q = true) (R : RelAt N B G (FR U nx) φ ⟨e, h, nx, pr⟩ a w) (Q : Exit → Act → World → Prop) :
    wpOp P ops Q i (After N B G (fun x => U x ∧ x ≠ nm) pr nx φ w q) a w := by
  unfold wpOp
  rw [hi]
  dsimp only
  cases hco : tOper P N ops o with
  | mk dst op g =>
  rw [hco] at hq
  rcases tOper_spec hco with ⟨rfl, rfl⟩ | ⟨rfl, hd, hc, ⟨rfl, hg⟩ | ⟨j, b, t, hg, rfl, hj⟩⟩
  · exact (evOp_bad (call := call) (s := ⟨e, h, nx, pr⟩) (dst := dst) (nm := nm) (q := q) hq).elim
  · have hw : Region.wanted o (yielded ops a.tmps) = true := by unfold Region.wanted; rw [hg]
    rw [if_pos hw]
    exact .inl (sound_op call hcall hc hU hUx hd hq R Q)
  · simp only [evG] at hq
    rcases guard_spec R hg hj hq with ⟨hw, hgo⟩ | ⟨hw, hsk⟩
    · rw [if_pos hw]
      exact .inl (sound_op call hcall hc hU hUx hd hgo R Q)
    · rw [if_neg (by rw [hw]; simp)]
      exact (skipped_spec R hd hsk).less fun x hx => hx.1

theorem tOpers_get : ∀ (l : List Oper) (i : Nat), (tOpers P N ops l)[i]? = (l[i]?).map (tOper P N ops)
  | [], i => rfl
  | o :: r, i => by
    cases i with
    | zero => rfl
    | succ i => simpa [tOpers] using tOpers_get r i
theorem tOpers_len : ∀ (l : List Oper), (tOpers P N ops l).length = l.length
  | [] => rfl
  | o :: r => by simp [tOpers, tOpers_len r]

/-- names of a region in the text's order: those from k on are free -/
def UR (U : Nat → Prop) (base k n : Nat) : Nat → Prop := fun x => U x ∨ (base + k ≤ x ∧ x < base + n)

/-- A region in the text's order. -/
theorem sound_evR (call : Calling) (hcall : CallOk P G call) {Q : Exit → Act → World → Prop} {base n nx₀ : Nat} {K : S → Bool} {φ₀ : Loc} {w₀ : World} (hUx : ∀ x, U x → x < base) (hn : base + n ≤ nx₀) (hQ : ∀ a' w', After N B G U pr nx₀ φ₀ w₀ K a' w' → Q .normal a' w') :
    ∀ (l : List Oper) (k : Nat) (e : T V) (h : Heap) (nx : Nat) (φ : Loc) (a : Act) (w : World), (∀ i, l[i]? = ops[k + i]?) → k + l.length = n → evR call (base + k) (tOpers P N ops l) ⟨e, h, nx, pr⟩ K = true → nx₀ ≤ nx →
      RelAt N B G (FR (UR U base k n) nx) φ ⟨e, h, nx, pr⟩ a w → Fwd pr φ₀ w₀ φ w → wpOps P ops Q (List.range' k l.length) a w
  | [], k, e, h, nx, φ, a, w, _, hk, hq, hnx, R, F => by
    simp only [tOpers, evR] at hq
    simp only [List.length_nil, List.range'_zero, wpOps]
    exact hQ a w ⟨_, φ, hq, R.less fun x hx => hx.imp .inl id, rfl, hnx, F⟩
  | o :: l, k, e, h, nx, φ, a, w, hl, hk, hq, hnx, R, F => by
    simp only [tOpers, evR] at hq
    simp only [List.length_cons] at hk
    have hi : ops[k]? = some o := by simpa using (hl 0).symm
    simp only [List.length_cons, List.range'_succ, wpOps_cons]
    refine wpOp_mono ?_ (sound_evG call hcall hi (nm := base + k) (.inr ⟨Nat.le_refl _, by omega⟩) (fun x hx => ?_) hq R Q)
    · rintro a' w' ⟨⟨e', h', nx', pr'⟩, φ', hq', R', hp, hnx', F'⟩
      have hp' : pr = pr' := hp.symm
      subst hp'
      refine sound_evR call hcall hUx hn hQ l (k + 1) e' h' nx' φ' a' w' (fun i => by have := hl (i + 1); simpa [Nat.add_assoc, Nat.add_comm 1 i] using this) (by omega) hq' (by dsimp only at hnx'; omega) (R'.less fun x hx => ?_) (F.trans F')
      rcases hx with (hx | hx) | hx
      · exact .inl ⟨.inl hx, fun e => by have := hUx x hx; omega⟩
      · exact .inl ⟨.inr ⟨by omega, hx.2⟩, by omega⟩
      · exact .inr hx
    · rcases hx with hx | hx
      · have := hUx x hx; omega
      · omega

end
end Go.VM
