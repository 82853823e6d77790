/- The machine VM, part 14: a law for regions whose order is drawn: what was taken first holds until what waits for it comes up. -/
import Derived.Test.YtbopmdbejfcbcaaGreatV13
set_option linter.unusedVariables false
set_option linter.unusedSectionVars false
set_option linter.unusedSimpArgs false
set_option linter.constructorNameAsVariable false
namespace Go.VM
open Go.RowKit
variable [Val]

section law
variable {P : Program} {ops : Array Oper} {Q : Exit → Act → World → Prop} {md : Region.Mode}

/-- number j waits for number i -/
def Waits (md : Region.Mode) (ops : Array Oper) (j i : Nat) : Prop := ∃ o, ops[j]? = some o ∧ ∃ e ∈ o.after, Region.binds md e = true ∧ e.on = i

/-- what is held: each until what waits for it comes up -/
abbrev HL := List (Nat × (World → Prop))

open Classical in
noncomputable def HL.past (md : Region.Mode) (ops : Array Oper) (j : Nat) (D : HL) : HL := D.filter fun p => decide (¬ Waits md ops j p.1)

theorem mem_past {D : HL} {j : Nat} {p : Nat × (World → Prop)} : p ∈ D.past md ops j ↔ p ∈ D ∧ ¬ Waits md ops j p.1 := by
  classical
  unfold HL.past
  rw [List.mem_filter]
  simp

def wpAnyE (P : Program) (md : Region.Mode) (ops : Array Oper) (Q : Exit → Act → World → Prop) : HL → Nat → Array Bool → Act → World → Prop
  | _, 0, listed, a, w => Region.ready md ops listed = [] ∧ Q .normal a w
  | D, fuel + 1, listed, a, w =>
    (Region.ready md ops listed = [] → Q .normal a w) ∧
    ∀ j ∈ Region.ready md ops listed, wpOp P ops Q j (fun a' w' => (∀ p ∈ D, ¬ Waits md ops j p.1 → p.2 w') ∧ wpAnyE P md ops Q (D.past md ops j) fuel (listed.setIfInBounds j true) a' w') a w

theorem wpAny_of_E : ∀ (fuel : Nat) (D : HL) (listed : Array Bool) (a : Act) (w : World), wpAnyE P md ops Q D fuel listed a w → wpAny P md ops Q fuel listed a w
  | 0, _, _, _, _, h => h
  | fuel + 1, D, _, _, _, h => ⟨h.1, fun i hi => wpOp_mono (fun a' w' h' => wpAny_of_E fuel _ _ a' w' h'.2) (h.2 i hi)⟩

theorem wpAnyE_mono : ∀ (fuel : Nat) {D D' : HL} (hD : ∀ p ∈ D', p ∈ D) {listed : Array Bool} {a : Act} {w : World}, wpAnyE P md ops Q D fuel listed a w → wpAnyE P md ops Q D' fuel listed a w
  | 0, _, _, _, _, _, _, h => h
  | fuel + 1, D, D', hD, _, _, _, h => ⟨h.1, fun i hi => wpOp_mono (fun a' w' h' => ⟨fun p hp => h'.1 p (hD p hp), wpAnyE_mono fuel (fun p hp => mem_past.2 ⟨hD p (mem_past.1 hp).1, (mem_past.1 hp).2⟩) h'.2⟩) (h.2 i hi)⟩

theorem wpAnyE_first {i : Nat} {oi : Oper} {v : Value} {S : World → Prop} (hi : ops[i]? = some oi) (hsel : ∀ (j : Nat) (o : Oper) cs b, ops[j]? = some o → o.op ≠ .select cs b)
    (hQ : ∀ c a w, Q (.panic c) (a.put oi.dst v) w → Q (.panic c) a w) :
    ∀ (fuel : Nat) (D : HL) (listed : Array Bool) (a : Act) (w : World),
      (∀ j oj, ops[j]? = some oj → j ≠ i → listed.getD j true = false → (∀ e ∈ oj.after, Region.binds md e = true → e.on ≠ i) → oi.apart ops oj = true) →
      i ∈ Region.ready md ops listed → YieldsIf P ops S oi v a → S w → (∀ p ∈ D, p.2 w) →
      wpAnyE P md ops Q ((i, S) :: D) fuel (listed.setIfInBounds i true) (a.put oi.dst v) w → wpAnyE P md ops Q D (fuel + 1) listed a w := by
  have same : ∀ {fuel : Nat} {D : HL} {listed : Array Bool} {a : Act} {w : World}, YieldsIf P ops S oi v a → S w → (∀ p ∈ D, p.2 w) → wpAnyE P md ops Q ((i, S) :: D) fuel (listed.setIfInBounds i true) (a.put oi.dst v) w →
      wpOp P ops Q i (fun a' w' => (∀ p ∈ D, ¬ Waits md ops i p.1 → p.2 w') ∧ wpAnyE P md ops Q (D.past md ops i) fuel (listed.setIfInBounds i true) a' w') a w := fun hy hS hD H =>
    hy.wpOp hi hS ⟨fun p hp _ => hD p hp, wpAnyE_mono _ (fun p hp => List.mem_cons_of_mem _ (mem_past.1 hp).1) H⟩
  intro fuel
  induction fuel with
  | zero =>
    intro D listed a w _ hr hy hS hD H
    refine ⟨fun h => (by rw [h] at hr; cases hr), fun j hj => ?_⟩
    by_cases hji : j = i
    · subst hji; exact same hy hS hD H
    · have := ready_mono hj hji
      rw [H.1] at this
      cases this
  | succ fuel ih =>
    intro D listed a w hfree hr hy hS hD H
    refine ⟨fun h => (by rw [h] at hr; cases hr), fun j hj => ?_⟩
    by_cases hji : j = i
    · subst hji; exact same hy hS hD H
    · have h1 := H.2 j (ready_mono hj hji)
      obtain ⟨hjun, oj, hoj, hall⟩ := mem_ready.1 hj
      have hnot : ∀ e ∈ oj.after, Region.binds md e = true → e.on ≠ i := fun e he hb heq => by
        have h1 := hall e he hb
        have h0 := (mem_ready.1 hr).1
        rw [heq] at h1
        rcases Nat.lt_or_ge i listed.size with h' | h'
        · simp [h'] at h0 h1; rw [h0] at h1; cases h1
        · simp [Array.getElem?_eq_none h'] at h1
      have hnw : ¬ Waits md ops j i := fun ⟨o, ho, e, he, hb, heq⟩ => by
        rw [hoj] at ho; injection ho with ho; subst ho
        exact hnot e he hb heq
      have h2 := wpOp_putIf hoj (hfree j oj hoj hji hjun hnot) (fun cs b => hsel i oi cs b hi) (fun cs b => hsel j oj cs b hoj) hQ hy h1
      have hfree' : ∀ k ok, ops[k]? = some ok → k ≠ i → (listed.setIfInBounds j true).getD k true = false →
          (∀ e ∈ ok.after, Region.binds md e = true → e.on ≠ i) → oi.apart ops ok = true := fun k ok hk hki hun hno => by
        refine hfree k ok hk hki ?_ hno
        by_cases hjk : j = k
        · subst hjk; exact hjun
        · rw [getD_set_ne true hjk] at hun; exact hun
      refine wpOp_mono (fun a' w' ⟨hy', hS', h4⟩ => ⟨fun p hp hw => hS' p (List.mem_cons_of_mem _ hp) hw, ih (D.past md ops j) (listed.setIfInBounds j true) a' w' hfree' (ready_mono hr (Ne.symm hji)) hy' (hS' (i, S) (by simp) hnw) (fun p hp => hS' p (List.mem_cons_of_mem _ (mem_past.1 hp).1) (mem_past.1 hp).2) ?_⟩) h2
      rw [Array.setIfInBounds_comm _ _ hji]
      refine wpAnyE_mono _ (fun p hp => ?_) h4
      rcases List.mem_cons.1 hp with rfl | hp
      · exact mem_past.2 ⟨by simp, hnw⟩
      · exact mem_past.2 ⟨List.mem_cons_of_mem _ (mem_past.1 hp).1, (mem_past.1 hp).2⟩

theorem wpAnyE_done {D : HL} {listed : Array Bool} {a : Act} {w : World} (hr : Region.ready md ops listed = []) (h : Q .normal a w) : ∀ fuel, wpAnyE P md ops Q D fuel listed a w
  | 0 => ⟨hr, h⟩
  | _ + 1 => ⟨fun _ => h, by rw [hr]; simp⟩

end law

/-! bits -/

theorem bitsOf_test : ∀ (l : List Nat) (k : Nat), Nat.testBit (bitsOf l) k = decide (k ∈ l)
  | [], k => by simp [bitsOf]
  | i :: r, k => by
    show Nat.testBit (2 ^ i ||| bitsOf r) k = _
    rw [Nat.testBit_or, bitsOf_test r k, Nat.testBit_two_pow]
    by_cases h : i = k
    · subst h; simp
    · by_cases h2 : k ∈ r <;> simp [h, h2, Ne.symm h]

theorem set_bit (L i k : Nat) : Nat.testBit (Nat.lor L (Nat.pow 2 i)) k = (Nat.testBit L k || decide (i = k)) := by
  show Nat.testBit (L ||| 2 ^ i) k = _
  rw [Nat.testBit_or, Nat.testBit_two_pow]

theorem tPre_mem : ∀ (l : List Edge) (i : Nat), i ∈ tPre l ↔ ∃ e ∈ l, Region.binds .any e = true ∧ e.on = i
  | [], i => by simp [tPre]
  | e :: r, i => by
    simp only [tPre]
    split
    · rename_i hb
      rw [List.mem_cons, tPre_mem r i]
      constructor
      · rintro (rfl | ⟨e', he', h⟩)
        · exact ⟨e, by simp, hb, rfl⟩
        · exact ⟨e', by simp [he'], h⟩
      · rintro ⟨e', he', hb', rfl⟩
        rcases List.mem_cons.1 he' with rfl | he'
        · exact .inl rfl
        · exact .inr ⟨e', he', hb', rfl⟩
    · rename_i hb
      rw [tPre_mem r i]
      constructor
      · rintro ⟨e', he', h⟩; exact ⟨e', by simp [he'], h⟩
      · rintro ⟨e', he', hb', rfl⟩
        rcases List.mem_cons.1 he' with rfl | he'
        · rw [hb] at hb'; cases hb'
        · exact ⟨e', he', hb', rfl⟩

theorem pre_test {o : Oper} (i : Nat) : Nat.testBit (bitsOf (tPre o.after.toList)) i = true ↔ ∃ e ∈ o.after, Region.binds .any e = true ∧ e.on = i := by
  rw [bitsOf_test, decide_eq_true_iff, tPre_mem]
  simp

theorem land_sub {a b : Nat} (h : Nat.beq (Nat.land a b) a = true) {k : Nat} (hk : Nat.testBit a k = true) : Nat.testBit b k = true := by
  have h := Nat.eq_of_beq_eq_true h
  have h2 : Nat.testBit (a &&& b) k = true := by
    show Nat.testBit (Nat.land a b) k = true
    rw [h]; exact hk
  rw [Nat.testBit_and] at h2
  simp only [Bool.and_eq_true] at h2
  exact h2.2
theorem land_sup {a b : Nat} (h : Nat.beq (Nat.land a b) b = true) {k : Nat} (hk : Nat.testBit b k = true) : Nat.testBit a k = true := by
  have h := Nat.eq_of_beq_eq_true h
  have h2 : Nat.testBit (a &&& b) k = true := by
    show Nat.testBit (Nat.land a b) k = true
    rw [h]; exact hk
  rw [Nat.testBit_and] at h2
  simp only [Bool.and_eq_true] at h2
  exact h2.1

theorem full_test (n k : Nat) : Nat.testBit (Nat.sub (Nat.pow 2 n) 1) k = decide (k < n) := Nat.testBit_two_pow_sub_one n k

theorem memN_iff : ∀ {l : List Nat} {x : Nat}, memN x l = true ↔ x ∈ l
  | [], x => by simp [memN]
  | y :: r, x => by
    simp only [memN, List.mem_cons]
    split
    · rename_i h; have := Nat.eq_of_beq_eq_true h; simp [this]
    · rename_i h; have := Nat.ne_of_beq_eq_false h; rw [memN_iff]; simp [this]

theorem apartB_spec {ops : Array Oper} {x y : Oper} (h : apartB x.dst (x.looksAt ops) y.dst (y.looksAt ops) = true) : x.apart ops y = true := by
  unfold apartB at h
  unfold Oper.apart
  have hc : ∀ (l : List Nat) (d : Nat), memN d l = l.contains d := fun l d => by
    rw [Bool.eq_iff_iff, memN_iff]; simp
  simp only [hc] at h
  simp only [Bool.and_eq_true] at h ⊢
  refine ⟨?_, h.2⟩
  cases hx : x.dst with
  | none => rfl
  | some d =>
    have h1 := h.1
    rw [hx] at h1
    simp only [Bool.and_eq_true] at h1
    simp only [Bool.and_eq_true]
    refine ⟨h1.1, ?_⟩
    cases hy : y.dst with
    | none => simp
    | some d' =>
      rw [hy] at h1
      have := h1.2
      simp only [Bool.not_eq_true'] at this
      have := Nat.ne_of_beq_eq_false this
      simpa using this

theorem tLooks_get {ops : Array Oper} : ∀ (l : List Oper) (j : Nat), (tLooks ops l)[j]? = (l[j]?).map fun o => (o.dst, o.looksAt ops, bitsOf (tPre o.after.toList))
  | [], j => rfl
  | o :: r, j => by
    cases j with
    | zero => rfl
    | succ j => simpa [tLooks] using tLooks_get r j

theorem farOf_spec (i : Nat) (dx : Option Nat) (lx : List Nat) : ∀ (l : List (Option Nat × List Nat × Nat)) (k j : Nat), j ∈ farOf i dx lx k l → k ≤ j ∧ ∃ dy ly p, l[j - k]? = some (dy, ly, p) ∧ (i = j ∨ Nat.testBit p i = true ∨ apartB dx lx dy ly = true)
  | [], k, j, h => by cases h
  | (dy, ly, p) :: r, k, j, h => by
    have tail : j ∈ farOf i dx lx (Nat.succ k) r → k ≤ j ∧ ∃ dy' ly' p', ((dy, ly, p) :: r)[j - k]? = some (dy', ly', p') ∧ (i = j ∨ Nat.testBit p' i = true ∨ apartB dx lx dy' ly' = true) := fun h => by
      obtain ⟨h1, dy', ly', p', h2, h3⟩ := farOf_spec i dx lx r _ j h
      simp only [Nat.succ_eq_add_one] at h1 h2
      exact ⟨by omega, dy', ly', p', by rw [show j - k = (j - (k + 1)) + 1 from by omega]; simpa using h2, h3⟩
    simp only [farOf] at h
    split at h
    · rename_i hc
      rcases List.mem_cons.1 h with rfl | h
      · simp only [Bool.or_eq_true] at hc
        refine ⟨Nat.le_refl _, dy, ly, p, by simp, ?_⟩
        rcases hc with (hc | hc) | hc
        · exact .inl (Nat.eq_of_beq_eq_true hc)
        · exact .inr (.inl hc)
        · exact .inr (.inr hc)
      · exact tail h
    · exact tail h

theorem tROps_get {P : Program} {N : Nat} {ops : Array Oper} (ks : List (Option Nat × List Nat × Nat)) : ∀ (l : List Oper) (k j : Nat), (tROps P N ops ks k l)[j]? = (l[j]?).map fun o => ⟨tOper P N ops o, bitsOf (tPre o.after.toList), bitsOf (farOf (k + j) o.dst (o.looksAt ops) 0 ks), mayTake o.op⟩
  | [], k, j => rfl
  | o :: r, k, j => by
    cases j with
    | zero => rfl
    | succ j => simp only [tROps, List.getElem?_cons_succ]; rw [tROps_get ks r (Nat.succ k) j, show Nat.succ k + j = k + (j + 1) from by omega]

theorem firstTake_spec {full L : Nat} : ∀ {rs : List ROp} {k i : Nat} {c : COper}, firstTake full L k rs = some (i, c) → k ≤ i ∧ ∃ r, rs[i - k]? = some r ∧ isReady r i L = true ∧ Nat.beq (Nat.land (Nat.lor r.far L) full) full = true ∧ c = r.c
  | [], k, i, c, h => by cases h
  | r :: rs, k, i, c, h => by
    simp only [firstTake] at h
    split at h
    · rename_i hc
      injection h with h
      injection h with h1 h2
      subst h1; subst h2
      simp only [Bool.and_eq_true] at hc
      exact ⟨Nat.le_refl _, r, by simp, hc.1.1, hc.2, rfl⟩
    · obtain ⟨h1, r', h2, h3⟩ := firstTake_spec h
      simp only [Nat.succ_eq_add_one] at h1 h2
      exact ⟨by omega, r', by rw [show i - k = (i - (k + 1)) + 1 from by omega]; simpa using h2, h3⟩

theorem readyOf_spec {L : Nat} : ∀ {rs : List ROp} {k i : Nat} {r : ROp}, k ≤ i → rs[i - k]? = some r → isReady r i L = true → (i, r) ∈ readyOf L k rs
  | [], k, i, r, _, h, _ => by cases h
  | r' :: rs, k, i, r, hk, h, hr => by
    simp only [readyOf]
    by_cases hik : i = k
    · subst hik
      simp at h
      subst h
      rw [hr]
      simp
    · have ih := readyOf_spec (L := L) (rs := rs) (k := Nat.succ k) (i := i) (r := r) (by simp only [Nat.succ_eq_add_one]; omega) (by rw [show i - k = (i - (k + 1)) + 1 from by omega] at h; simpa using h) hr
      split
      · exact List.mem_cons_of_mem _ ih
      · exact ih

theorem allB_spec {α : Type} {p : α → Bool} : ∀ {l : List α}, allB p l = true → ∀ x ∈ l, p x = true
  | [], _, x, hx => by cases hx
  | a :: r, h, x, hx => by
    simp only [allB] at h
    split at h
    · rename_i ha
      rcases List.mem_cons.1 hx with rfl | hx
      · exact ha
      · exact allB_spec h x hx
    · cases h

theorem still_mem {pre : Nat} : ∀ {D : Held} {i y : Nat}, (i, y) ∈ D → Nat.testBit pre i = false → (i, y) ∈ still pre D
  | [], i, y, h, _ => by cases h
  | (j, z) :: r, i, y, h, hp => by
    simp only [still]
    split
    · rename_i hj
      rcases List.mem_cons.1 h with h | h
      · injection h with h1 h2; subst h1; rw [hj] at hp; cases hp
      · exact still_mem h hp
    · rcases List.mem_cons.1 h with h | h
      · rw [h]; simp
      · exact List.mem_cons_of_mem _ (still_mem h hp)
theorem addPr_mem {pr : List Nat} : ∀ {D : Held} {x : Nat}, x ∈ addPr pr D ↔ x ∈ pr ∨ ∃ i, (i, x) ∈ D
  | [], x => by simp [addPr]
  | (j, z) :: r, x => by
    simp only [addPr, List.mem_cons, addPr_mem (D := r)]
    constructor
    · rintro (rfl | h | ⟨i, h⟩)
      · exact .inr ⟨j, .inl rfl⟩
      · exact .inl h
      · exact .inr ⟨i, .inr h⟩
    · rintro (h | ⟨i, h | h⟩)
      · exact .inr (.inl h)
      · injection h with h1 h2; exact .inl h2
      · exact .inr (.inr ⟨i, h⟩)

end Go.VM
