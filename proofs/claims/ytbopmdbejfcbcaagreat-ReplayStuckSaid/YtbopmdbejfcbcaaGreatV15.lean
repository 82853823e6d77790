/- The machine VM, part 15: regions whose order is drawn. -/
import Derived.Test.YtbopmdbejfcbcaaGreatV14
set_option linter.unusedVariables false
set_option linter.unusedSectionVars false
set_option linter.unusedSimpArgs false
set_option linter.constructorNameAsVariable false
namespace Go.VM
open Go.RowKit
variable [Val]

section
variable {P : Program} {ty : TypeId} {N : Nat} {B : Nat → Prop} {G : Nat → Nat → Value → Prop} {fr U : Nat → Prop} {φ : Loc} {a : Act} {w : World} {e : T V} {h : Heap} {nx : Nat} {pr : List Nat}
variable {o : Oper} {nm : Nat} {q : S → Bool} {ops : Array Oper}

/-- blocks are as they were -/
def AsWas (E : Nat → Prop) (w₀ : World) : World → Prop := fun w => ∀ b, E b → w.heap[b]? = w₀.heap[b]?

/-- What is held, by the machine's list. -/
def HeldOk (B : Nat → Prop) (φ : Loc) (w : World) (D : Held) (DL : HL) : Prop :=
  ∀ p ∈ DL, ∃ (E : Nat → Prop) (w₀ : World), p.2 = AsWas E w₀ ∧ AsWas E w₀ w ∧ ∀ b, E b → (b < w.heap.size ∧ ¬ Excl B φ b) ∨ ∃ y, (p.1, y) ∈ D ∧ φ y = some (some b)

/-- An operation is taken first. -/
theorem take_step {i : Nat} {D : Held} {q : Held → S → Bool} (hq : evTake ⟨e, h, nx, pr⟩ i nm D q (tOper P N ops o) = true) (R : RelAt N B G (FR U nx) φ ⟨e, h, nx, pr⟩ a w) :
    ∃ v D' E e', YieldsIf P ops (AsWas E w) o v a ∧ q D' ⟨e', h, nx, pr⟩ = true ∧ RelAt N B G (FR U nx) φ ⟨e', h, nx, pr⟩ (a.put o.dst v) w ∧ (∀ p ∈ D, p ∈ D') ∧ ∀ b, E b → (b < w.heap.size ∧ ¬ Excl B φ b) ∨ ∃ y, (i, y) ∈ D' ∧ φ y = some (some b) := by
  cases hco : tOper P N ops o with
  | mk dst op g =>
  rw [hco] at hq
  have bad : ∀ {r : Option (Option Nat)}, evTake2 ⟨e, h, nx, pr⟩ dst i D q r (yv e h nm .bad) = true → False := fun h => by cases h
  have taken : dst = o.dst → (∀ d, o.dst = some d → d < N) → tOp P o.op = op → Region.wanted o (yielded ops a.tmps) = true → evTake2 ⟨e, h, nx, pr⟩ dst i D q (reads op (VM.opd e op.addr)) (yv e h nm op) = true →
      ∃ v D' E e', YieldsIf P ops (AsWas E w) o v a ∧ q D' ⟨e', h, nx, pr⟩ = true ∧ RelAt N B G (FR U nx) φ ⟨e', h, nx, pr⟩ (a.put o.dst v) w ∧ (∀ p ∈ D, p ∈ D') ∧ ∀ b, E b → (b < w.heap.size ∧ ¬ Excl B φ b) ∨ ∃ y, (i, y) ∈ D' ∧ φ y = some (some b) := by
    rintro rfl hd hc hw hq
    unfold evTake2 at hq
    split at hq
    · rename_i v hy
      obtain ⟨u, E, hr, hx, hE⟩ := sound_quiet hc hy R
      have hY : YieldsIf P ops (AsWas E w) o u a := .inl ⟨hw, fun w' hw' => hx w' hw'⟩
      unfold evTake3 at hq
      split at hq
      · rename_i y hrd
        obtain ⟨e', he, hq⟩ := setO_spec hq
        refine ⟨u, _, E, e', hY, hq, R.put hd hr he, fun p hp => List.mem_cons_of_mem _ hp, fun b hb => ?_⟩
        rcases hE _ hrd b hb with h1 | ⟨y', h1, h2⟩
        · exact .inl h1
        · injection h1 with h1; subst h1; exact .inr ⟨y, by simp, h2⟩
      · rename_i hrd
        obtain ⟨e', he, hq⟩ := setO_spec hq
        refine ⟨u, _, E, e', hY, hq, R.put hd hr he, fun p hp => hp, fun b hb => ?_⟩
        rcases hE _ hrd b hb with h1 | ⟨y', h1, h2⟩
        · exact .inl h1
        · cases h1
      · cases hq
    · cases hq
  rcases tOper_spec hco with ⟨rfl, rfl⟩ | ⟨hdst, hd, hc, ⟨rfl, hg⟩ | ⟨j, b, t, hg, rfl, hj⟩⟩
  · exact (bad (show evTake2 ⟨e, h, nx, pr⟩ dst i D q (reads .bad (VM.opd e COp.bad.addr)) (yv e h nm .bad) = true from hq)).elim
  · exact taken hdst hd hc (by unfold Region.wanted; rw [hg]) hq
  · simp only [evTake] at hq
    rcases guard_spec R hg hj hq with ⟨hw, hgo⟩ | ⟨hw, hsk⟩
    · exact taken hdst hd hc hw hgo
    · subst hdst
      simp only [skipped] at hsk
      obtain ⟨e', he, hsk⟩ := setO_spec hsk
      exact ⟨undef, D, fun _ => False, e', .inr ⟨hw, rfl⟩, hsk, R.put hd rep_nil_tup he, fun p hp => hp, fun b hb => hb.elim⟩

/-- names of a region whose order is drawn -/
def UD (U : Nat → Prop) (base n L : Nat) : Nat → Prop := fun x => U x ∨ (base ≤ x ∧ x < base + n ∧ Nat.testBit L (x - base) = false)

/-- a step from which held blocks are kept clear -/
theorem HeldOk.step {D D' : Held} {DL : HL} (H : HeldOk B φ w D DL) {pr' : List Nat} {φ' : Loc} {w' : World} (F : Fwd pr' φ w φ' w') {i : Nat} (hinj : ∀ x y b, φ x = some (some b) → φ y = some (some b) → x = y) (hlt : ∀ x b, φ x = some (some b) → b < w.heap.size) (hD : ∀ p ∈ DL, ¬ Waits .any ops i p.1 → ∀ y, (p.1, y) ∈ D → (p.1, y) ∈ D' ∧ y ∈ pr') :
    (∀ p ∈ DL, ¬ Waits .any ops i p.1 → p.2 w') ∧ HeldOk B φ' w' D' (DL.past .any ops i) := by
  have key : ∀ p ∈ DL, ¬ Waits .any ops i p.1 → ∃ (E : Nat → Prop) (w₀ : World), p.2 = AsWas E w₀ ∧ AsWas E w₀ w' ∧ ∀ b, E b → (b < w'.heap.size ∧ ¬ Excl B φ' b) ∨ ∃ y, (p.1, y) ∈ D' ∧ φ' y = some (some b) := by
    intro p hp hw
    obtain ⟨E, w₀, h1, h2, h3⟩ := H p hp
    refine ⟨E, w₀, h1, fun b hb => ?_, fun b hb => ?_⟩
    · rw [← h2 b hb]
      rcases h3 b hb with ⟨h4, h5⟩ | ⟨y, h4, h5⟩
      · exact F.block b h4 fun x hx => absurd (.inr ⟨x, hx⟩) h5
      · refine F.block b (hlt y b h5) fun x hx => ?_
        rw [hinj x y b hx h5]
        exact (hD p hp hw y h4).2
    · rcases h3 b hb with ⟨h4, h5⟩ | ⟨y, h4, h5⟩
      · refine .inl ⟨Nat.lt_of_lt_of_le h4 F.size, fun hx => ?_⟩
        rcases hx with hx | ⟨x, hx⟩
        · exact h5 (.inl hx)
        · rcases F.new x b hx with ⟨y, hy, _⟩ | hge
          · exact h5 (.inr ⟨y, hy⟩)
          · omega
      · obtain ⟨h6, h7⟩ := hD p hp hw y h4
        refine .inr ⟨y, h6, ?_⟩
        rcases F.old y _ h5 with h8 | ⟨_, h8⟩
        · exact h8
        · exact absurd h7 h8
  refine ⟨fun p hp hw => ?_, fun p hp => key p (mem_past.1 hp).1 (mem_past.1 hp).2⟩
  obtain ⟨E, w₀, h1, h2, _⟩ := key p hp hw
  rw [h1]; exact h2

theorem readyOf_mem {L : Nat} : ∀ {rs : List ROp} {k i : Nat} {r : ROp}, (i, r) ∈ readyOf L k rs → k ≤ i ∧ rs[i - k]? = some r ∧ isReady r i L = true
  | [], k, i, r, h => by cases h
  | r' :: rs, k, i, r, h => by
    have tail : (i, r) ∈ readyOf L (Nat.succ k) rs → k ≤ i ∧ (r' :: rs)[i - k]? = some r ∧ isReady r i L = true := fun h => by
      obtain ⟨h1, h2, h3⟩ := readyOf_mem h
      simp only [Nat.succ_eq_add_one] at h1 h2
      exact ⟨by omega, by rw [show i - k = (i - (k + 1)) + 1 from by omega]; simpa using h2, h3⟩
    simp only [readyOf] at h
    split at h
    · rename_i hr
      rcases List.mem_cons.1 h with h | h
      · injection h with h1 h2
        subst h1; subst h2
        exact ⟨Nat.le_refl _, by simp, hr⟩
      · exact tail h
    · exact tail h

/-- A region whose order is drawn. -/
theorem sound_evD (call : Calling) (hcall : CallOk P G call) (hsel : Region.noSelect ops = true) {Q : Exit → Act → World → Prop} (hQp : ∀ c a w, ¬ Q (.panic c) a w) {base nx₀ : Nat} {K : S → Bool} {φ₀ : Loc} {w₀ : World} (hUx : ∀ x, U x → x < base) (hn : base + ops.size ≤ nx₀)
    (hQ : ∀ a' w', After N B G U pr nx₀ φ₀ w₀ K a' w' → Q .normal a' w') :
    ∀ (f L : Nat) (D : Held) (DL : HL) (listed : Array Bool) (e : T V) (h : Heap) (nx : Nat) (φ : Loc) (a : Act) (w : World),
      evD call base (tROps P N ops (tLooks ops ops.toList) 0 ops.toList) (Nat.sub (Nat.pow 2 ops.size) 1) f L D ⟨e, h, nx, pr⟩ K = true → listed.size = ops.size → (∀ i, i < ops.size → listed.getD i true = Nat.testBit L i) → (∀ i, Nat.testBit L i = true → i < ops.size) → nx₀ ≤ nx →
      RelAt N B G (FR (UD U base ops.size L) nx) φ ⟨e, h, nx, pr⟩ a w → Fwd pr φ₀ w₀ φ w → HeldOk B φ w D DL → wpAnyE P .any ops Q DL f listed a w := by
  -- what may come up
  have rget : ∀ i, (tROps P N ops (tLooks ops ops.toList) 0 ops.toList)[i]? = (ops[i]?).map fun o => (⟨tOper P N ops o, bitsOf (tPre o.after.toList), bitsOf (farOf i o.dst (o.looksAt ops) 0 (tLooks ops ops.toList)), mayTake o.op⟩ : ROp) := fun i => by
    rw [tROps_get]; simp
  have gd : ∀ {listed : Array Bool} {i : Nat}, i < listed.size → listed.getD i false = listed.getD i true := fun {listed i} hi => by simp [Array.getD, hi]
  have isRdy : ∀ {L : Nat} {listed : Array Bool} {i : Nat} {o : Oper}, listed.size = ops.size → (∀ i, i < ops.size → listed.getD i true = Nat.testBit L i) → (∀ i, Nat.testBit L i = true → i < ops.size) → ops[i]? = some o → ∀ {r : ROp}, r.pre = bitsOf (tPre o.after.toList) → (isReady r i L = true ↔ i ∈ Region.ready .any ops listed) := by
    intro L listed i o hs hl hL ho r hr
    have hi : i < ops.size := (Array.getElem?_eq_some_iff.1 ho).1
    rw [mem_ready]
    unfold isReady
    rw [hr, Bool.and_eq_true]
    constructor
    · rintro ⟨h1, h2⟩
      refine ⟨by rw [hl i hi]; simpa using h1, o, ho, fun e he hb => ?_⟩
      have h3 := land_sub h2 ((pre_test e.on).2 ⟨e, he, hb, rfl⟩)
      have h4 := hL _ h3
      rw [gd (by omega), hl _ h4]; exact h3
    · rintro ⟨h1, o', ho', h2⟩
      rw [ho] at ho'; injection ho' with ho'; subst ho'
      refine ⟨by rw [← hl i hi, h1]; rfl, ?_⟩
      have : Nat.land (bitsOf (tPre o.after.toList)) L = bitsOf (tPre o.after.toList) := by
        apply Nat.eq_of_testBit_eq
        intro k
        show Nat.testBit (bitsOf (tPre o.after.toList) &&& L) k = _
        rw [Nat.testBit_and]
        cases hk : Nat.testBit (bitsOf (tPre o.after.toList)) k with
        | false => rfl
        | true =>
          obtain ⟨e, he, hb, hek⟩ := (pre_test k).1 hk
          have h3 := h2 e he hb
          rw [hek] at h3
          have h4 : k < listed.size := by
            rcases Nat.lt_or_ge k listed.size with h | h
            · exact h
            · simp [Array.getD, Nat.not_lt.2 h] at h3
          rw [gd h4, hl k (by omega)] at h3
          rw [h3]; rfl
      rw [this]; exact Nat.beq_refl _
  have setL' : ∀ {L : Nat} {listed : Array Bool} {i : Nat}, i < ops.size → listed.size = ops.size → (∀ i, i < ops.size → listed.getD i true = Nat.testBit L i) → (∀ i, Nat.testBit L i = true → i < ops.size) →
      (listed.setIfInBounds i true).size = ops.size ∧ (∀ k, k < ops.size → (listed.setIfInBounds i true).getD k true = Nat.testBit (Nat.lor L (Nat.pow 2 i)) k) ∧ ∀ k, Nat.testBit (Nat.lor L (Nat.pow 2 i)) k = true → k < ops.size := by
    intro L listed i hi hs hl hL
    refine ⟨by simp [hs], fun k hk => ?_, fun k hk => ?_⟩
    · rw [set_bit]
      by_cases h : i = k
      · subst h; simp [Array.getD, hs, hk]
      · rw [getD_set_ne true h, hl k hk]; simp [h]
    · rw [set_bit, Bool.or_eq_true] at hk
      rcases hk with hk | hk
      · exact hL k hk
      · have := of_decide_eq_true hk; omega
  have done : ∀ {L : Nat} {listed : Array Bool}, listed.size = ops.size → (∀ i, i < ops.size → listed.getD i true = Nat.testBit L i) → (∀ i, Nat.testBit L i = true → i < ops.size) → readyOf L 0 (tROps P N ops (tLooks ops ops.toList) 0 ops.toList) = [] → Region.ready .any ops listed = [] := by
    intro L listed hs hl hL hr
    rw [List.eq_nil_iff_forall_not_mem]
    intro i hi
    obtain ⟨_, o, ho, _⟩ := mem_ready.1 hi
    have hg := rget i
    rw [ho] at hg
    have := readyOf_spec (L := L) (Nat.zero_le i) (by simpa using hg) ((isRdy hs hl hL ho rfl).2 hi)
    rw [hr] at this
    cases this
  have fin : ∀ {L : Nat} {e : T V} {h : Heap} {nx : Nat} {φ : Loc} {a : Act} {w : World}, K ⟨e, h, nx, pr⟩ = true → nx₀ ≤ nx → RelAt N B G (FR (UD U base ops.size L) nx) φ ⟨e, h, nx, pr⟩ a w → Fwd pr φ₀ w₀ φ w → Q .normal a w := fun hK hnx R F =>
    hQ _ _ ⟨_, _, hK, R.less fun x hx => hx.imp .inl id, rfl, hnx, F⟩
  intro f
  induction f with
  | zero =>
    intro L D DL listed e h nx φ a w hq hs hl hL hnx R F HH
    simp only [evD, plan] at hq
    split at hq
    · rename_i hp
      split at hp
      · cases hp
      · split at hp
        · rename_i hr
          exact ⟨done hs hl hL hr, fin hq hnx R F⟩
        · cases hp
    · cases hq
  | succ f ih =>
    intro L D DL listed e h nx φ a w hq hs hl hL hnx R F HH
    simp only [evD, plan] at hq
    split at hq
    · rename_i hp
      split at hp
      · cases hp
      · split at hp
        · rename_i hr
          exact wpAnyE_done (done hs hl hL hr) (fin hq hnx R F) _
        · cases hp
    · rename_i i c hp
      split at hp
      · rename_i i' c' hft
        injection hp with h1 h2
        subst h1; subst h2
        rw [forceN_eq] at hq
        obtain ⟨_, r, hr, hrdy, hfar, rfl⟩ := firstTake_spec hft
        rw [Nat.sub_zero, rget] at hr
        obtain ⟨o, ho, rfl⟩ := Option.map_eq_some_iff.1 hr
        have hi : i' < ops.size := (Array.getElem?_eq_some_iff.1 ho).1
        obtain ⟨v, D', E, e', hy, hq', R', hD', hE⟩ := take_step hq R
        obtain ⟨k1, k2, k3⟩ := setL' hi hs hl hL
        refine wpAnyE_first ho (Region.noSelect_spec hsel) (fun c a w h => absurd h (hQp _ _ _)) f DL listed a w (fun j oj hj hji hun hno => ?_) ((isRdy hs hl hL ho rfl).1 hrdy) hy (fun b _ => rfl) (fun p hp => ?_) ?_
        · have hjn : j < ops.size := (Array.getElem?_eq_some_iff.1 hj).1
          have hbit := land_sup hfar (k := j) (by rw [full_test]; simpa using hjn)
          have hbit : Nat.testBit (bitsOf (farOf i' o.dst (o.looksAt ops) 0 (tLooks ops ops.toList)) ||| L) j = true := hbit
          rw [Nat.testBit_or, ← hl j hjn, hun, Bool.or_false, bitsOf_test, decide_eq_true_iff] at hbit
          obtain ⟨_, dy, ly, p, hg, hc⟩ := farOf_spec _ _ _ _ _ _ hbit
          rw [Nat.sub_zero, tLooks_get] at hg
          have hj' : ops.toList[j]? = some oj := by simpa using hj
          rw [hj'] at hg
          injection hg with hg
          injection hg with hg1 hg2
          injection hg2 with hg2 hg3
          subst hg1; subst hg2; subst hg3
          rcases hc with hc | hc | hc
          · exact absurd hc.symm hji
          · obtain ⟨e, he, hb, hon⟩ := (pre_test i').1 hc
            exact absurd hon (hno e he hb)
          · exact apartB_spec hc
        · obtain ⟨E', w', h1, h2, _⟩ := HH p hp
          rw [h1]; exact h2
        · refine ih _ D' _ _ e' h nx φ _ w hq' k1 k2 k3 hnx (R'.less fun x hx => ?_) F (fun p hp => ?_)
          · rcases hx with (hx | ⟨h1, h2, h3⟩) | hx
            · exact .inl (.inl hx)
            · refine .inl (.inr ⟨h1, h2, ?_⟩)
              rw [set_bit, Bool.or_eq_false_iff] at h3
              exact h3.1
            · exact .inr hx
          · rcases List.mem_cons.1 hp with rfl | hp
            · exact ⟨E, w, rfl, fun b _ => rfl, hE⟩
            · obtain ⟨E', w', h1, h2, h3⟩ := HH p hp
              exact ⟨E', w', h1, h2, fun b hb => (h3 b hb).imp id fun ⟨y, h4, h5⟩ => ⟨y, hD' _ h4, h5⟩⟩
      · split at hp <;> cases hp
    · rename_i l hp
      split at hp
      · cases hp
      · split at hp
        · cases hp
        · rename_i hnil
          injection hp with hp
          subst hp
          refine ⟨fun h0 => ?_, fun i hi => ?_⟩
          · exfalso
            -- something may come up
            cases hrl : readyOf L 0 (tROps P N ops (tLooks ops ops.toList) 0 ops.toList) with
            | nil => exact hnil hrl
            | cons p r =>
              have hm : p ∈ readyOf L 0 (tROps P N ops (tLooks ops ops.toList) 0 ops.toList) := by rw [hrl]; simp
              obtain ⟨_, h1, h2⟩ := readyOf_mem (i := p.1) (r := p.2) hm
              rw [Nat.sub_zero, rget] at h1
              obtain ⟨o, ho, he⟩ := Option.map_eq_some_iff.1 h1
              have := (isRdy hs hl hL ho (r := p.2) (by rw [← he])).1 h2
              rw [h0] at this
              cases this
          · obtain ⟨_, o, ho, _⟩ := mem_ready.1 hi
            have hin : i < ops.size := (Array.getElem?_eq_some_iff.1 ho).1
            have hg := rget i
            rw [ho] at hg
            have hmem := readyOf_spec (L := L) (Nat.zero_le i) (by simpa using hg) ((isRdy hs hl hL ho rfl).2 hi)
            have hq := allB_spec hq _ hmem
            dsimp only at hq
            rw [forceN_eq] at hq
            simp only [evAlt, stillK_eq, addPrK_eq] at hq
            obtain ⟨k1, k2, k3⟩ := setL' hin hs hl hL
            have hbi : Nat.testBit L i = false := by rw [← hl i hin]; exact (mem_ready.1 hi).1
            refine wpOp_mono ?_ (sound_evG call hcall ho (nm := base + i) (.inr ⟨by omega, by omega, by rw [Nat.add_sub_cancel_left]; exact hbi⟩) (fun x hx => ?_) hq (R.less fun x hx => hx) Q)
            · rintro a' w' ⟨⟨e', h', nx', pr'⟩, φ', hq', R', hp, hnx', F'⟩
              simp only [setPr] at hq'
              have hpp : ∀ x ∈ pr, x ∈ addPr pr (still (bitsOf (tPre o.after.toList)) D) := fun x hx => addPr_mem.2 (.inl hx)
              have F'' := F'.mono hpp
              obtain ⟨s1, s2⟩ := HH.step (ops := ops) (D' := still (bitsOf (tPre o.after.toList)) D) (i := i) F' R.inj (fun x b hx => (R.lt x b hx).1) (fun p hp hw y hy => by
                have hb : Nat.testBit (bitsOf (tPre o.after.toList)) p.1 = false := by
                  rw [Bool.eq_false_iff]
                  intro hc
                  exact hw ⟨o, ho, (pre_test p.1).1 hc⟩
                have := still_mem hy hb
                exact ⟨this, addPr_mem.2 (.inr ⟨_, this⟩)⟩)
              refine ⟨s1, ?_⟩
              split at hq'
              · rename_i heq
                refine ih _ _ _ _ e' h' nx' φ' a' w' heq k1 k2 k3 (Nat.le_trans hnx hnx') (R'.less fun x hx => ?_) (F.trans F'') s2
                rcases hx with (hx | ⟨h1, h2, h3⟩) | hx
                · exact .inl ⟨.inl hx, fun e => by have := hUx x hx; omega⟩
                · rw [set_bit, Bool.or_eq_false_iff] at h3
                  refine .inl ⟨.inr ⟨h1, h2, h3.1⟩, fun e => ?_⟩
                  subst e
                  have := h3.2
                  rw [Nat.add_sub_cancel_left] at this
                  simp at this
                · exact .inr hx
              · cases hq'
            · rcases hx with hx | hx
              · have := hUx x hx; omega
              · omega

end
end Go.VM
