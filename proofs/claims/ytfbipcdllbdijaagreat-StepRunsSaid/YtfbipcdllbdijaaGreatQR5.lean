/- Part 5 of the proof. fathomlaw28.StepRuns returns true for every input. -/
import Derived.Test.YtfbipcdllbdijaaGreatQR4
set_option linter.unusedVariables false
set_option linter.unusedSimpArgs false
set_option linter.unusedSectionVars false
set_option linter.constructorNameAsVariable false
set_option maxRecDepth 100000
namespace Go.Proofs.YtfbipcdllbdijaaGreat
open Go Go.TM
theorem contains_iff (s sub : List UInt8) : Lib.contains s sub = true ↔ sub <:+: s := by
  unfold Lib.contains
  rw [decide_eq_true_eq]
  induction s with
  | nil =>
    unfold Lib.index
    cases sub with
    | nil => simp
    | cons a t => simp
  | cons b l ih =>
    rw [List.infix_cons_iff]
    unfold Lib.index
    rw [← ih]
    by_cases hp : sub <+: b :: l
    · rw [if_pos (List.isPrefixOf_iff_prefix.mpr hp)]
      simp [hp]
    · rw [if_neg (fun h => hp (List.isPrefixOf_iff_prefix.mp h))]
      have hge := Lib.index_ge l sub
      by_cases hm : Lib.index l sub = -1
      · rw [if_pos (by simp [hm]), hm]
        simp [hp]
      · rw [if_neg (by simp [hm])]
        simp only [hp, false_or]
        omega
theorem indexByte_neg (s : List UInt8) (c : UInt8) : Lib.indexByte s c < 0 ↔ c ∉ s := by
  induction s with
  | nil => simp [Lib.indexByte]
  | cons b l ih =>
    unfold Lib.indexByte
    have hge := Lib.indexByte_ge l c
    by_cases hb : b = c
    · simp [hb]
    · rw [if_neg (by simp [hb])]
      by_cases hm : Lib.indexByte l c = -1
      · rw [if_pos (by simp [hm])]
        have := ih.mp (by omega)
        simp [this, Ne.symm hb]
      · rw [if_neg (by simp [hm])]
        have : ¬ (c ∉ l) := fun h => by have := ih.mpr h; omega
        simp only [List.mem_cons]
        constructor
        · intro h; omega
        · intro h; exact absurd (fun h' => h (.inr h')) this
theorem Ev.allE {A : Type} {body : A → (A → Option Bool) → Option Bool} (st : Nat → A) (N : Nat) (p : Nat → Prop) (E : Prop)
    (hs : ∀ i rec, i < N → Ev (rec (st (i + 1))) (fun b => b = true ↔ (∀ j, i < j → j < N → p j) ∧ E) → Ev (body (st i) rec) fun b => b = true ↔ (∀ j, i ≤ j → j < N → p j) ∧ E)
    (he : ∀ rec, Ev (body (st N) rec) fun b => b = true ↔ E) :
    ∀ (n i : Nat), i ≤ N → N - i < n → Ev (iter body n (st i)) fun b => b = true ↔ (∀ j, i ≤ j → j < N → p j) ∧ E
  | 0, i, _, h => absurd h (Nat.not_lt_zero _)
  | n + 1, i, hi, h => by
    rw [iter_s]
    by_cases hlt : i < N
    · exact hs i _ hlt (Ev.mono (Ev.allE st N p E hs he n (i + 1) hlt (by omega)) fun b hb => hb)
    · have : i = N := by omega
      subst this
      exact Ev.mono (he _) fun b hb => hb.trans ⟨fun h => ⟨fun j h1 h2 => by omega, h⟩, fun h => h.2⟩
theorem Ev.roundE {N i : Nat} {p : Nat → Prop} {E : Prop} {q : Bool} {rec : Option Bool} (hi : i < N) (hq : q = true ↔ p i) (h : Ev rec fun b => b = true ↔ (∀ j, i < j → j < N → p j) ∧ E) : Ev (TM.ask q rec (some false)) fun b => b = true ↔ (∀ j, i ≤ j → j < N → p j) ∧ E := by
  cases hb : q with
  | false =>
    refine Ev.some ⟨fun e => (by cases e), fun hall => ?_⟩
    rw [hq.mpr (hall.1 i (Nat.le_refl _) hi)] at hb
    cases hb
  | true =>
    refine Ev.mono h fun b hb' => hb'.trans ⟨fun hall => ⟨fun j h1 h2 => ?_, hall.2⟩, fun hall => ⟨fun j h1 h2 => hall.1 j (by omega) h2, hall.2⟩⟩
    rcases Nat.lt_or_ge i j with h3 | h3
    · exact hall.1 j h3 h2
    · rw [show j = i from by omega]; exact hq.mp hb
theorem Ev.roundEN {N i : Nat} {p : Nat → Prop} {E : Prop} {q : Bool} {rec : Option Bool} (hi : i < N) (hq : q = true ↔ ¬ p i) (h : Ev rec fun b => b = true ↔ (∀ j, i < j → j < N → p j) ∧ E) : Ev (TM.ask q (some false) rec) fun b => b = true ↔ (∀ j, i ≤ j → j < N → p j) ∧ E := by
  have : TM.ask q (some false) rec = TM.ask (!q) rec (some false) := by cases q <;> rfl
  rw [this]
  refine Ev.roundE hi ?_ h
  cases q <;> simp_all
def flat (c : UInt8) : List (List UInt8) → List UInt8
  | [] => []
  | w :: r => w ++ c :: flat c r
theorem pre_word {c : UInt8} : ∀ {s w rest : List UInt8}, c ∉ s → c ∉ w → (s ++ [c] <+: w ++ c :: rest ↔ s = w)
  | [], [], rest, _, _ => by simp
  | [], b :: w, rest, _, hw => by
    simp only [List.nil_append, List.cons_append, List.cons_prefix_cons, List.mem_cons, not_or] at hw ⊢
    constructor
    · intro h; exact absurd h.1 hw.1
    · intro h; cases h
  | a :: s, [], rest, hs, _ => by
    simp only [List.nil_append, List.cons_append, List.cons_prefix_cons, List.mem_cons, not_or] at hs ⊢
    constructor
    · intro h; exact absurd h.1.symm hs.1
    · intro h; cases h
  | a :: s, b :: w, rest, hs, hw => by
    simp only [List.cons_append, List.cons_prefix_cons, List.mem_cons, not_or] at hs hw ⊢
    rw [pre_word hs.2 hw.2]
    constructor
    · rintro ⟨rfl, rfl⟩; rfl
    · intro h; injection h with h1 h2; exact ⟨h1, h2⟩
theorem skip_word {c : UInt8} {x : List UInt8} : ∀ {w rest : List UInt8}, c ∉ w → (c :: x <:+: w ++ rest ↔ c :: x <:+: rest)
  | [], rest, _ => by simp
  | b :: w, rest, hw => by
    simp only [List.mem_cons, not_or] at hw
    rw [List.cons_append, List.infix_cons_iff, skip_word hw.2, List.cons_prefix_cons]
    constructor
    · rintro (h | h)
      · exact absurd h.1 hw.1
      · exact h
    · intro h; exact .inr h
theorem in_flat {c : UInt8} {s : List UInt8} (hs : c ∉ s) : ∀ {ws : List (List UInt8)}, (∀ w ∈ ws, c ∉ w) → (c :: (s ++ [c]) <:+: c :: flat c ws ↔ s ∈ ws)
  | [], _ => by
    simp only [flat, List.not_mem_nil, iff_false]
    intro h
    have := h.length_le
    simp at this
  | w :: r, hw => by
    rw [List.infix_cons_iff, List.cons_prefix_cons, flat]
    simp only [List.mem_cons] at hw ⊢
    rw [skip_word (hw w (.inl rfl)), in_flat hs (fun v hv => hw v (.inr hv)), pre_word hs (hw w (.inl rfl))]
    simp
def keys : List (List Int) := [[119, 105, 100, 116, 104], [118, 97, 114], [97, 116, 111, 109, 105, 99], [109, 117, 116, 101, 120], [99, 104, 97, 110], [112, 114, 111, 99], [115, 101, 116], [108, 111, 97, 100], [115, 116, 111, 114, 101], [103, 101, 116], [112, 117, 116], [97, 100, 100], [99, 97, 115], [108, 111, 99, 107], [115, 101, 110, 100], [114, 101, 99, 118], [103, 111], [105, 102], [101, 108, 115, 101], [119, 104, 105, 108, 101], [98, 114, 101, 97, 107], [99, 111, 110, 116, 105, 110, 117, 101], [97, 115, 115, 101, 114, 116]]
def letter (c : Int) : Prop := 97 ≤ c ∧ c ≤ 122
instance (c : Int) : Decidable (letter c) := by unfold letter; infer_instance
def digit (c : Int) : Prop := 48 ≤ c ∧ c ≤ 57
instance (c : Int) : Decidable (digit c) := by unfold digit; infer_instance
def okName (s : List Int) : Prop := (∀ i < s.length, letter (s.getD i 0) ∨ digit (s.getD i 0)) ∧ letter (s.getD 0 0) ∧ (1 ≤ s.length ∧ s.length ≤ 12) ∧ s ∉ keys
instance (s : List Int) : Decidable (okName s) := by unfold okName; infer_instance
theorem e_Letter (n : Nat) (c : Int) : sref20_Letter n c = some (decide (letter c)) := by
  unfold sref20_Letter
  simp only [ask_ss, bindO_s, ltI_d, eqI_d, eqS_d, notB_d, andB_d, eqB_d, inB_d, leB_d, ble_d, Int.ofNat_eq_natCast, Int.cast_ofNat_Int]
  refine some_dec ?_
  simp [letter]
theorem e_Digit (n : Nat) (c : Int) : sref20_Digit n c = some (decide (digit c)) := by
  unfold sref20_Digit
  simp only [ask_ss, bindO_s, ltI_d, eqI_d, eqS_d, notB_d, andB_d, eqB_d, inB_d, leB_d, ble_d, Int.ofNat_eq_natCast, Int.cast_ofNat_Int]
  refine some_dec ?_
  simp [digit]
theorem e_letter (n : Nat) (c : Int) : slex_letter n c = some (decide (letter c)) := by
  unfold slex_letter
  simp only [ask_ss, bindO_s, ltI_d, eqI_d, eqS_d, notB_d, andB_d, eqB_d, inB_d, leB_d, ble_d, Int.ofNat_eq_natCast, Int.cast_ofNat_Int]
  refine some_dec ?_
  simp [letter]
theorem e_digit (n : Nat) (c : Int) : slex_digit n c = some (decide (digit c)) := by
  unfold slex_digit
  simp only [ask_ss, bindO_s, ltI_d, eqI_d, eqS_d, notB_d, andB_d, eqB_d, inB_d, leB_d, ble_d, Int.ofNat_eq_natCast, Int.cast_ofNat_Int]
  refine some_dec ?_
  simp [digit]
theorem e_refKey {n : Nat} (hn : 30 ≤ n) (s : List Int) : sref20_Key n s = some (decide (s ∈ keys)) := by
  unfold sref20_Key
  rw [show sref20_Keys n = some keys from rfl, bindO_s]
  have hl : keys.length = 23 := rfl
  refine (iter_any (fun i => Int.ofNat i) keys.length (fun i => decide (keys.getD i [] = s)) (some true) (some false) (fun i rec hi => ?_) (fun rec => ?_) (n := n) (by omega)).trans ?_
  · rw [ask_t (lt_next hi), need_t (in_next hi), wr_next (by omega)]
    rw [eqS_d, ask_d]
    rfl
  · exact ask_f (lt_end _)
  · refine ite_dec ?_
    simp only [decide_eq_true_eq]
    rw [List.mem_iff_getElem]
    constructor
    · rintro ⟨j, h1, h2⟩
      refine ⟨j, h1, ?_⟩
      rw [← h2, List.getD_eq_getElem?_getD, List.getElem?_eq_getElem h1]
      rfl
    · rintro ⟨j, h1, h2⟩
      refine ⟨j, h1, ?_⟩
      rw [← h2, List.getD_eq_getElem?_getD, List.getElem?_eq_getElem h1]
      rfl
theorem e_refName {n : Nat} (hn : 30 ≤ n) {s : List Int} (hs : s.length < n) (hs2 : s.length < 1000) : sref20_Name n s = some (decide (okName s)) := by
  refine Ev.dec ?_
  unfold sref20_Name okName
  refine Ev.mono (Ev.allE (fun i => Int.ofNat i) s.length (fun i => letter (s.getD i 0) ∨ (i ≠ 0 ∧ digit (s.getD i 0))) ((1 ≤ s.length ∧ s.length ≤ 12) ∧ s ∉ keys) (fun i rec hi h => ?_) (fun rec => ?_) n 0 (Nat.zero_le _) (by omega)) fun b hb => hb.trans ?_
  · rw [ask_t (lt_next hi), need_t (in_next hi), need_t (in_next hi), wr_next (by omega)]
    simp only [e_Letter, e_Digit, bindO_s]
    rw [Int.ofNat_eq_natCast, Int.toNat_natCast]
    simp only [show Int.ofNat 0 = 0 from rfl]
    rw [bindO_eq (a := decide (¬ (letter (s.getD i 0) ∨ (i ≠ 0 ∧ digit (s.getD i 0)))))]
    · exact Ev.roundEN hi (by rw [decide_eq_true_eq]) h
    · simp only [notB_d, eqI_d]
      by_cases h1 : letter (s.getD i 0)
      · simp only [h1, decide_true, decide_false, and_true, true_and, Bool.not_true, Bool.not_false, ask_true, ask_false, need_true, bindO_s, true_or, not_true]
      · by_cases h2 : i = 0
        · subst h2
          simp only [h1, decide_true, decide_false, and_true, true_and, Bool.not_true, Bool.not_false, ask_true, ask_false, need_true, bindO_s, Int.natCast_eq_zero, ne_eq, not_true, false_and, or_self, not_false_eq_true]
        · by_cases h3 : digit (s.getD i 0)
          · simp only [h1, h2, h3, decide_true, decide_false, and_true, true_and, Bool.not_true, Bool.not_false, ask_true, ask_false, need_true, bindO_s, Int.natCast_eq_zero, ne_eq, not_true, not_false_eq_true, and_self, or_true]
          · simp only [h1, h2, h3, decide_true, decide_false, and_true, true_and, Bool.not_true, Bool.not_false, ask_true, ask_false, need_true, bindO_s, Int.natCast_eq_zero, ne_eq, not_true, not_false_eq_true, and_false, or_self]
  · rw [ask_f (lt_end _), e_refKey hn]
    refine Ev.bind (Q := fun b => b = true ↔ ((1 ≤ s.length ∧ s.length ≤ 12) ∧ s ∉ keys)) ?_ fun b hb => Ev.some hb
    refine Ev.ask (fun h1 => Ev.ask (fun h2 => Ev.some ?_) fun h2 => Ev.some ?_) fun h1 => Ev.some ?_
    · simp only [ask_ss, bindO_s, ltI_d, eqI_d, eqS_d, notB_d, andB_d, eqB_d, inB_d, leB_d, ble_d, Int.ofNat_eq_natCast, Int.cast_ofNat_Int] at h1 h2 ⊢
      simp at h1 h2 ⊢
      intro _; omega
    · simp only [ask_ss, bindO_s, ltI_d, eqI_d, eqS_d, notB_d, andB_d, eqB_d, inB_d, leB_d, ble_d, Int.ofNat_eq_natCast, Int.cast_ofNat_Int] at h1 h2
      simp at h1 h2
      simp; omega
    · simp only [ask_ss, bindO_s, ltI_d, eqI_d, eqS_d, notB_d, andB_d, eqB_d, inB_d, leB_d, ble_d, Int.ofNat_eq_natCast, Int.cast_ofNat_Int] at h1
      simp at h1
      simp
      intro _ _; omega
  · constructor
    · rintro ⟨h1, h2⟩
      refine ⟨fun i hi => ?_, ?_, h2⟩
      · rcases h1 i (Nat.zero_le _) hi with h3 | h3
        · exact .inl h3
        · exact .inr h3.2
      · rcases h1 0 (Nat.zero_le _) (by omega) with h3 | h3
        · exact h3
        · exact absurd rfl h3.1
    · rintro ⟨h1, h2, h3⟩
      refine ⟨fun i _ hi => ?_, h3⟩
      by_cases h0 : i = 0
      · subst h0; exact .inl h2
      · rcases h1 i hi with h4 | h4
        · exact .inl h4
        · exact .inr ⟨h0, h4⟩
theorem iter_while {A R : Type} {body : A → (A → Option R) → Option R} (st : Nat → A) (N : Nat) (p : Nat → Prop) [DecidablePred p] (ex : Nat → Option R)
    (hs : ∀ i rec, i < N → body (st i) rec = if p i then rec (st (i + 1)) else ex i) (he : ∀ rec, body (st N) rec = ex N) :
    ∀ n i, i ≤ N → N - i < n → ∃ j, i ≤ j ∧ j ≤ N ∧ iter body n (st i) = ex j ∧ (∀ k, i ≤ k → k < j → p k) ∧ (j < N → ¬ p j)
  | 0, i, _, h => absurd h (Nat.not_lt_zero _)
  | n + 1, i, hi, h => by
    rw [iter_s]
    by_cases hlt : i < N
    · rw [hs i _ hlt]
      by_cases hp : p i
      · rw [if_pos hp]
        obtain ⟨j, h1, h2, h3, h4, h5⟩ := iter_while st N p ex hs he n (i + 1) hlt (by omega)
        refine ⟨j, by omega, h2, h3, fun k h6 h7 => ?_, h5⟩
        rcases Nat.lt_or_ge i k with h8 | h8
        · exact h4 k h8 h7
        · rw [show k = i from by omega]; exact hp
      · rw [if_neg hp]
        exact ⟨i, Nat.le_refl _, hi, rfl, fun k h6 h7 => by omega, fun _ => hp⟩
    · have : i = N := by omega
      subst this
      exact ⟨i, Nat.le_refl _, hi, he _, fun k h6 h7 => by omega, fun h => by omega⟩
theorem Ev.while {A R : Type} {body : A → (A → Option R) → Option R} (st : Nat → A) (N : Nat) (p : Nat → Prop) [DecidablePred p] (ex : Nat → Option R) {Q : R → Prop} {n i : Nat} (hi : i ≤ N) (hn : N - i < n)
    (hs : ∀ i rec, i < N → body (st i) rec = if p i then rec (st (i + 1)) else ex i) (he : ∀ rec, body (st N) rec = ex N)
    (hq : ∀ j, i ≤ j → j ≤ N → (∀ k, i ≤ k → k < j → p k) → (j < N → ¬ p j) → Ev (ex j) Q) : Ev (iter body n (st i)) Q := by
  obtain ⟨j, h1, h2, h3, h4, h5⟩ := iter_while st N p ex hs he n i hi hn
  rw [h3]
  exact hq j h1 h2 h4 h5
theorem e_run {n : Nat} {s : List Int} (hs : s.length < n) (hs2 : s.length < 1000) : Ev (slex_run n s 0) fun r => r = s.length ↔ ∀ i < s.length, letter (s.getD i 0) ∨ digit (s.getD i 0) := by
  unfold slex_run
  refine Ev.while (fun i => Int.ofNat i) s.length (fun i => letter (s.getD i 0) ∨ digit (s.getD i 0)) (fun i => some (Int.ofNat i)) (i := 0) (Nat.zero_le _) (by omega) (fun i rec hi => ?_) (fun rec => ?_) ?_
  · rw [ask_t (lt_next hi), need_t (in_next hi), need_t (in_next hi), wr_next (by omega)]
    rw [Int.ofNat_eq_natCast, Int.toNat_natCast]
    simp only [e_letter, e_digit, bindO_s, show Int.ofNat 0 = 0 from rfl]
    by_cases h1 : letter (s.getD i 0)
    · rw [decide_eq_true h1, ask_true, bindO_s, ask_true, if_pos (.inl h1)]
    · by_cases h2 : digit (s.getD i 0)
      · rw [decide_eq_false h1, decide_eq_true h2, ask_false, bindO_s, ask_true, if_pos (.inr h2)]
      · rw [decide_eq_false h1, decide_eq_false h2, ask_false, bindO_s, ask_false, if_neg (fun h => h.elim h1 h2)]
  · exact (bindO_eq (ask_f (lt_end _))).trans rfl
  · intro j h1 h2 h4 h5
    refine Ev.some ?_
    rw [Int.ofNat_eq_natCast]
    constructor
    · intro h i hi
      have h : (j : Int) = s.length := h
      exact h4 i (Nat.zero_le _) (by omega)
    · intro h
      rcases Nat.lt_or_ge j s.length with h6 | h6
      · exact absurd (h j h6) (h5 h6)
      · exact (show (j : Int) = s.length by omega)
def keyText : List Int := [32, 119, 105, 100, 116, 104, 32, 118, 97, 114, 32, 97,
  116, 111, 109, 105, 99, 32, 109, 117, 116, 101, 120, 32,
  99, 104, 97, 110, 32, 112, 114, 111, 99, 32, 115, 101,
  116, 32, 108, 111, 97, 100, 32, 115, 116, 111, 114, 101,
  32, 103, 101, 116, 32, 112, 117, 116, 32, 97, 100, 100,
  32, 99, 97, 115, 32, 108, 111, 99, 107, 32, 115, 101,
  110, 100, 32, 114, 101, 99, 118, 32, 103, 111, 32, 105,
  102, 32, 101, 108, 115, 101, 32, 119, 104, 105, 108, 101,
  32, 98, 114, 101, 97, 107, 32, 99, 111, 110, 116, 105,
  110, 117, 101, 32, 97, 115, 115, 101, 114, 116, 32]
theorem keyText_flat : u8 keyText = 32 :: flat 32 (keys.map u8) := by decide +kernel
theorem keys_nice : ∀ w ∈ keys, ∀ c ∈ w, letter c := by decide +kernel
def nice (s : List Int) : Prop := ∀ c ∈ s, 33 ≤ c ∧ c < 256
theorem u8_inj : ∀ {s t : List Int}, nice s → nice t → u8 s = u8 t → s = t
  | [], [], _, _, _ => rfl
  | [], b :: t, _, _, h => by cases h
  | a :: s, [], _, _, h => by cases h
  | a :: s, b :: t, hs, ht, h => by
    have h1 : a.toNat.toUInt8 = b.toNat.toUInt8 := by injection h
    have h2 : u8 s = u8 t := by injection h
    have ha := hs a (by simp)
    have hb := ht b (by simp)
    have h3 := congrArg UInt8.toNat h1
    simp only [Nat.toUInt8, UInt8.toNat_ofNat'] at h3
    have : a = b := by omega
    rw [this, u8_inj (fun c hc => hs c (by simp [hc])) (fun c hc => ht c (by simp [hc])) h2]
theorem u8_32 {s : List Int} (hs : nice s) : (32 : UInt8) ∉ u8 s := by
  intro h
  unfold u8 at h
  rw [List.mem_map] at h
  obtain ⟨a, ha, h⟩ := h
  have h1 := hs a ha
  have h3 := congrArg UInt8.toNat h
  simp only [Nat.toUInt8, UInt8.toNat_ofNat'] at h3
  have : (32 : UInt8).toNat = 32 := rfl
  omega
theorem keys_in {s : List Int} (hs : nice s) : u8 s ∈ keys.map u8 ↔ s ∈ keys := by
  rw [List.mem_map]
  constructor
  · rintro ⟨w, hw, h⟩
    have : nice w := fun c hc => by have := keys_nice w hw c hc; unfold letter at this; omega
    rw [← u8_inj this hs h]
    exact hw
  · intro h; exact ⟨s, h, rfl⟩
theorem e_Key (n : Nat) {s : List Int} (hs : nice s) (h0 : s ≠ []) (hl : s.length ≤ 12) : slex_Key n s = some (decide (s ∈ keys)) := by
  unfold slex_Key
  rw [ask_t (by rw [notB_true, eqS_d]; simp [h0])]
  rw [show sstrings_IndexByte n s (Int.ofNat 32) = some (Lib.indexByte (u8 s) 32) from rfl, bindO_s, ask_t (by rw [ltI_iff]; exact (indexByte_neg _ _).mpr (u8_32 hs))]
  rw [need_t (by rw [ble_iff]; omega), need_t (by rw [ble_iff]; simp; omega)]
  unfold sstrings_Contains
  refine (bindO_eq ?_).trans rfl
  refine (bindO_eq (a := decide (s ∈ keys)) ?_).trans rfl
  rw [need_t (by kernel_rfl)]
  refine some_dec ?_
  rw [contains_iff]
  show u8 ([Int.ofNat 32] ++ s ++ [Int.ofNat 32]) <:+: u8 keyText ↔ _
  rw [keyText_flat, ← keys_in hs, ← in_flat (c := 32) (u8_32 hs)]
  · unfold u8
    rw [List.map_append, List.map_append]
    rfl
  · intro w hw
    rw [List.mem_map] at hw
    obtain ⟨v, hv, rfl⟩ := hw
    exact u8_32 fun c hc => by have := keys_nice v hv c hc; unfold letter at this; omega
theorem nice_of {s : List Int} (h : ∀ i < s.length, letter (s.getD i 0) ∨ digit (s.getD i 0)) : nice s := by
  intro c hc
  rw [List.mem_iff_getElem] at hc
  obtain ⟨i, h1, h2⟩ := hc
  have := h i h1
  rw [List.getD_eq_getElem?_getD, List.getElem?_eq_getElem h1, h2] at this
  unfold letter digit at this
  simp at this
  omega
theorem e_Name {n : Nat} {s : List Int} (hs : s.length < n) (hs2 : s.length < 1000) : slex_Name n s = some (decide (okName s)) := by
  refine Ev.dec ?_
  unfold slex_Name okName
  refine Ev.bind (Q := fun b => b = true ↔ _) ?_ fun b hb => Ev.some hb
  refine Ev.ask (fun h1 => Ev.ask (fun h2 => Ev.need ?_ ?_) fun h2 => Ev.some ?_) fun h1 => Ev.some ?_
  · rw [notB_true, eqS_d] at h1
    simp at h1
    rw [inB_iff]
    have := List.length_pos_iff.mpr h1
    exact ⟨by decide, by simpa using this⟩
  · rw [notB_true, eqS_d] at h1
    simp at h1
    have hpos := List.length_pos_iff.mpr h1
    rw [notB_true, ltI_false] at h2
    have h2 : (s.length : Int) ≤ 12 := h2
    rw [e_letter, bindO_s]
    refine Ev.ask (fun h3 => ?_) fun h3 => Ev.some ?_
    · have h3 : letter (s.getD 0 0) := by simpa using h3
      refine Ev.bind (e_run hs hs2) fun r hr => Ev.ask (fun h4 => ?_) fun h4 => Ev.some ?_
      · have h5 := hr.mp (by rw [eqI_iff] at h4; exact h4)
        rw [e_Key n (nice_of h5) h1 (by omega), bindO_s]
        refine Ev.some ?_
        rw [notB_true, decide_eq_false_iff_not]
        exact ⟨fun h => ⟨h5, h3, by omega, h⟩, fun h => h.2.2.2⟩
      · rw [eqI_false] at h4
        exact ⟨fun e => (by cases e), fun h => absurd (hr.mpr h.1) h4⟩
    · have h3 : ¬ letter (s.getD 0 0) := by simpa using h3
      exact ⟨fun e => (by cases e), fun h => absurd h.2.1 h3⟩
  · rw [notB_false, ltI_iff] at h2
    have h2 : (12 : Int) < s.length := h2
    exact ⟨fun e => (by cases e), fun h => by have := h.2.2.1.2; omega⟩
  · rw [notB_false, eqS_d, decide_eq_true_eq] at h1
    rw [h1]
    exact ⟨fun e => (by cases e), fun h => absurd h.2.2.1.1 (by decide)⟩
end Go.Proofs.YtfbipcdllbdijaaGreat
namespace Go.Proofs.YtfbipcdllbdijaaGreat
open Go Go.TM
theorem Ev.forN {A R : Type} {body : A → (A → Option R) → Option R} {Q : R → Prop} (N : Nat) (Inv : Nat → A → Prop)
    (hs : ∀ i x rec, i < N → Inv i x → (∀ y, Inv (i + 1) y → Ev (rec y) Q) → Ev (body x rec) Q) (he : ∀ x rec, Inv N x → Ev (body x rec) Q) :
    ∀ (n i : Nat) (x : A), Inv i x → i ≤ N → N - i < n → Ev (iter body n x) Q
  | 0, i, x, _, _, h => absurd h (Nat.not_lt_zero _)
  | n + 1, i, x, hx, hi, h => by
    rw [iter_s]
    by_cases hlt : i < N
    · exact hs i x _ hlt hx fun y hy => Ev.forN N Inv hs he n (i + 1) y hy hlt (by omega)
    · have : i = N := by omega
      subst this
      exact he x _ hx
def okDecl (w : Int) (d : De) : Prop := (1 ≤ d.1 ∧ d.1 ≤ 4) ∧ okName d.2.1 ∧ 0 ≤ d.2.2.1 ∧ (d.1 ≤ 2 → d.2.2.1 < 2 ^ w.toNat) ∧ (d.1 = 4 → d.2.2.1 ≤ 3) ∧ (d.1 = 3 → d.2.2.1 = 0)
instance (w : Int) (d : De) : Decidable (okDecl w d) := by unfold okDecl; infer_instance
def okDecls (w : Int) (D : List De) : Prop := (1 ≤ w ∧ w ≤ 8) ∧ D.length ≤ 12 ∧ ∀ i < D.length, okDecl w (D.getD i d0) ∧ ∀ k < i, (D.getD k d0).2.1 ≠ (D.getD i d0).2.1
instance (w : Int) (D : List De) : Decidable (okDecls w D) := by unfold okDecls; infer_instance
def short (D : List De) : Prop := ∀ i < D.length, (D.getD i d0).2.1.length ≤ 100
theorem e_Decls {n : Nat} (hn : 200 ≤ n) {w : Int} {D : List De} (hs : short D) : sref26_Decls n w D = some (decide (okDecls w D)) := by
  refine Ev.dec ?_
  unfold sref26_Decls
  rw [bindO_eq (a := decide (¬ ((1 ≤ w ∧ w ≤ 8) ∧ D.length ≤ 12))) (by
    simp only [ask_ss, bindO_s, ltI_d, eqI_d, eqS_d, notB_d, andB_d, eqB_d, inB_d, leB_d, ble_d, Int.ofNat_eq_natCast, Int.cast_ofNat_Int]
    refine some_dec ?_
    simp
    omega)]
  refine Ev.stage (P := True) (fun h => ?_) fun h => ?_
  · intro hq
    exact of_decide_eq_true h ⟨hq.1, hq.2.1⟩
  have hw : (1 ≤ w ∧ w ≤ 8) ∧ D.length ≤ 12 := Classical.not_not.mp (of_decide_eq_false h)
  clear h
  refine Ev.mono (Ev.all (fun i => (i : Int)) D.length (fun i => okDecl w (D.getD i d0) ∧ ∀ k < i, (D.getD k d0).2.1 ≠ (D.getD i d0).2.1) (fun i rec hi h => ?_) (fun rec => ?_) n 0 (Nat.zero_le _) (by omega)) fun b hb => hb.trans ⟨fun h => ⟨hw.1, hw.2, fun i hi => h i (Nat.zero_le _) hi⟩, fun h i _ hi => h.2.2 i hi⟩
  · refine Ev.askT (lt_next hi) (Ev.need (in_next hi) ?_)
    have hsh := hs i hi
    dsimp only [Int.toNat_natCast]
    generalize hX : D.getD i d0 = X at *
    simp only [ask_ss, bindO_s, ltI_d, eqI_d, eqS_d, notB_d, andB_d, eqB_d, inB_d, leB_d, ble_d, Int.ofNat_eq_natCast, Int.cast_ofNat_Int]
    rw [show wr .i64 (Int.add (i : Int) 1) = ((i + 1 : Nat) : Int) from wr_succ (by omega)]
    obtain ⟨(k : Int), (nm : List Int), (num : Int), (at' : Int)⟩ := X
    simp only at hsh
    simp only [hX, e_Name, e_refName (n := n) (s := nm) (by omega) (by omega) (by omega), bindO_s]
    rw [show shlI .i64 1 w = 2 ^ w.toNat from shl1 (by omega) (by omega)]
    simp only [show (w < 0) = False from eq_false (by omega), decide_true, decide_false, and_true, true_and, Bool.not_true, Bool.not_false, ask_true, ask_false, need_true, bindO_s]
    rw [bindO_eq (a := !decide (okDecl w (k, nm, num, at')))]
    · cases hd : decide (okDecl w (k, nm, num, at')) with
      | false =>
        refine Ev.some ⟨fun e => (by cases e), fun hall => ?_⟩
        have := (hall i (Nat.le_refl _) hi).1
        rw [hX] at this
        exact absurd this (of_decide_eq_false hd)
      | true =>
        rw [Bool.not_true, ask_false]
        refine Ev.mono (Ev.allE (fun k => (k : Int)) i (fun k => (D.getD k d0).2.1 ≠ nm) (∀ j, i < j → j < D.length → okDecl w (D.getD j d0) ∧ ∀ k < j, (D.getD k d0).2.1 ≠ (D.getD j d0).2.1) (fun k rec2 hk h2 => ?_) (fun rec2 => ?_) n 0 (Nat.zero_le _) (by omega)) fun b hb => hb.trans ?_
        · simp only [show ((k : Int) < (i : Int)) = True from eq_true (by omega), show (0 ≤ (k : Int)) = True from eq_true (by omega), show ((k : Int) < (D.length : Int)) = True from eq_true (by omega), decide_true, decide_false, and_true, true_and, Bool.not_true, Bool.not_false, ask_true, ask_false, need_true, bindO_s, Int.toNat_natCast]
          rw [show wr .i64 (Int.add (k : Int) 1) = ((k + 1 : Nat) : Int) from wr_succ (by omega)]
          exact Ev.roundEN hk (by simp) h2
        · simp only [show ((i : Int) < (i : Int)) = False from eq_false (by omega), decide_true, decide_false, and_true, true_and, Bool.not_true, Bool.not_false, ask_true, ask_false, need_true, bindO_s]
          exact h
        · constructor
          · rintro ⟨h3, h4⟩ j h5 h6
            rcases Nat.lt_or_ge i j with h7 | h7
            · exact h4 j h7 h6
            · rw [show j = i from by omega, hX]
              exact ⟨of_decide_eq_true hd, fun k hk => h3 k (Nat.zero_le _) hk⟩
          · intro h3
            refine ⟨fun k _ hk => ?_, fun j h5 h6 => h3 j (by omega) h6⟩
            have := (h3 i (Nat.le_refl _) hi).2 k hk
            rw [hX] at this
            exact this
    · simp only [ask_ss]
      congr 1
      rw [Bool.eq_iff_iff]
      simp only [okDecl]
      by_cases hnm : okName nm <;> simp [hnm] <;> grind
  · exact ask_f (lt_end _)
end Go.Proofs.YtfbipcdllbdijaaGreat
namespace Go.Proofs.YtfbipcdllbdijaaGreat
open Go Go.TM
theorem lt_nc {n N : Nat} (h : n < N) : ltI (n : Int) (Int.ofNat N) = true := lt_next h
theorem in_nc {n N : Nat} (h : n < N) : inB (n : Int) N = true := in_next h
theorem lt_ec (N : Nat) : ltI (N : Int) (Int.ofNat N) = false := lt_end N
theorem wr_nc {n : Nat} (h : n < 9223372036854775807) : wr .i64 (Int.add (n : Int) (Int.ofNat 1)) = ((n + 1 : Nat) : Int) := wr_succ h
def okTree (d : De) : Prop := (1 ≤ d.1 ∧ d.1 ≤ 4) ∧ okName d.2.1 ∧ (0 ≤ d.2.2.1 ∧ d.2.2.1 ≤ 65535) ∧ (d.1 = 3 → d.2.2.1 = 0)
instance (d : De) : Decidable (okTree d) := by unfold okTree; infer_instance
theorem e_treedecl {n : Nat} (hn : 200 ≤ n) {d : De} (hs : d.2.1.length ≤ 100) : stree_decl n d = some (decide (okTree d)) := by
  obtain ⟨(k : Int), (nm : List Int), (num : Int), (at' : Int)⟩ := d
  unfold stree_decl
  simp only at hs
  simp only [e_Name (n := n) (s := nm) (by omega) (by omega), bindO_s]
  simp only [ask_ss, bindO_s, ltI_d, eqI_d, eqS_d, notB_d, andB_d, eqB_d, inB_d, leB_d, ble_d, Int.ofNat_eq_natCast, Int.cast_ofNat_Int]
  refine some_dec ?_
  simp only [okTree]
  by_cases hnm : okName nm <;> simp [hnm] <;> grind
abbrev Pr : Type := List Int × List (tStmt.D) × Int
abbrev Pg : Type := Int × List De × List Pr
abbrev Ck : Type := Pg × Int × List (Int × Bool) × Int × Int
theorem mostI_nat (j : Nat) : mostI true (j : Int) [0] = j := by
  unfold mostI
  have : ltI (j : Int) 0 = false := by rw [ltI_false]; omega
  simp only [this, mostI]
def fine (w : Int) (D : List De) (i : Nat) : Prop := (∀ k < i, (D.getD k d0).2.1 ≠ (D.getD i d0).2.1) ∧ ((D.getD i d0).1 = 1 ∨ (D.getD i d0).1 = 2 → (D.getD i d0).2.2.1 < 2 ^ w.toNat) ∧ ((D.getD i d0).1 = 4 → (D.getD i d0).2.2.1 ≤ 3)
def CkInv (p : Pg) (F : Prop) (c : Ck) : Prop := c.1 = p ∧ 0 ≤ c.2.2.2.2 ∧ (c.2.2.2.2 = 0 ↔ F)
theorem wrong {p : Pg} {F B : Prop} {x : Ck} {o : Option Bool} {y : Ck} {why : Int} {b : Bool} (hx : CkInv p F x) (hw : 0 < why) (hy : y.1 = x.1 ∧ y.2.2.2.2 = why)
    (ho : o = some (b && eqI x.2.2.2.2 0)) (hb : b = true ↔ B) : Ev (bindO o fun q => bindO (TM.ask q (some y) (some x)) fun z => some z) (CkInv p (F ∧ ¬ B)) := by
  rw [ho, bindO_s, ask_ss, bindO_s]
  refine Ev.some ?_
  obtain ⟨h1, h2, h3⟩ := hx
  by_cases hB : B
  · rw [hb.mpr hB, Bool.true_and]
    by_cases hz : x.2.2.2.2 = 0
    · rw [if_pos (by rw [eqI_iff]; exact hz)]
      refine ⟨hy.1.trans h1, by rw [hy.2]; omega, ?_⟩
      rw [hy.2]
      constructor
      · intro h; omega
      · intro h; exact absurd hB h.2
    · rw [if_neg (by rw [eqI_iff]; exact hz)]
      refine ⟨h1, h2, ?_⟩
      constructor
      · intro h; exact absurd h hz
      · intro h; exact absurd (h3.mpr h.1) hz
  · have : b = false := by cases b <;> simp_all
    rw [this, Bool.false_and, if_neg (by decide)]
    refine ⟨h1, h2, h3.trans ?_⟩
    simp [hB]
theorem wrong' {R : Type} {p : Pg} {F B : Prop} {x : Ck} {o : Option Bool} {y : Ck} {why : Int} {b : Bool} {K : Ck → Option R} {Q : R → Prop} (hx : CkInv p F x) (hw : 0 < why) (hy : y.1 = x.1 ∧ y.2.2.2.2 = why)
    (ho : o = some (b && eqI x.2.2.2.2 0)) (hb : b = true ↔ B) (hk : ∀ z, CkInv p (F ∧ ¬ B) z → Ev (K z) Q) : Ev (bindO o fun q => bindO (TM.ask q (some y) (some x)) K) Q := by
  obtain ⟨r, h1, h2⟩ := wrong hx hw hy ho hb
  rw [ho, bindO_s] at h1 ⊢
  rw [ask_ss, bindO_s] at h1 ⊢
  injection h1 with h1
  rw [h1]
  exact hk _ h2
theorem Ev.find {A R : Type} {body : A → (A → Option R) → Option R} {Q : R → Prop} (st : Nat → A) (N : Nat) (p : Nat → Prop)
    (h1 : ∀ i rec, i < N → p i → body (st i) rec = rec (st (i + 1))) (h2 : ∀ i rec, i < N → ¬ p i → (∀ k < i, p k) → Ev (body (st i) rec) Q) {j : Nat} (hj : j < N) (hp : ¬ p j) :
    ∀ n i, i ≤ j → j - i < n → (∀ k < i, p k) → Ev (iter body n (st i)) Q
  | 0, i, _, h, _ => absurd h (Nat.not_lt_zero _)
  | n + 1, i, hi, h, hk => by
    rw [iter_s]
    by_cases hpi : p i
    · rw [h1 i _ (by omega) hpi]
      have hne : i ≠ j := fun e => hp (e ▸ hpi)
      refine Ev.find st N p h1 h2 hj hp n (i + 1) (by omega) (by omega) fun k hk2 => ?_
      rcases Nat.lt_or_ge k i with h3 | h3
      · exact hk k h3
      · rw [show k = i from by omega]; exact hpi
    · exact h2 i _ (by omega) hpi hk
theorem e_ckdecls {n : Nat} (hn : 200 ≤ n) {w : Int} (hw : 1 ≤ w ∧ w ≤ 8) {D : List De} (hD : D.length ≤ 12) (nm : List Int) (b : List (tStmt.D)) (z : Int) :
    Ev (scheck_checker_decls n ((w, D, [(nm, b, z)]), 0, [], 0, 0)) fun r => CkInv (w, D, [(nm, b, z)]) ((∀ i < D.length, fine w D i) ∧ ∀ i < D.length, (D.getD i d0).2.1 ≠ nm) r.2 := by
  unfold scheck_checker_decls
  generalize hp : ((w, D, [(nm, b, z)]) : Pg) = p
  refine Ev.need (by rw [notB_true, ltI_false, ← hp]; show (0 : Int) ≤ w; omega) ?_
  refine Ev.forN D.length (fun i (x : Int × Ck) => x.1 = (i : Int) ∧ CkInv p (∀ j < i, fine w D j) x.2) (fun i x rec hi hx hrec => ?_) (fun x rec hx => ?_) n 0 _ ⟨rfl, rfl, Int.le_refl _, by simp⟩ (Nat.zero_le _) (by omega)
  · obtain ⟨y, c⟩ := x
    obtain ⟨rfl, hc⟩ := hx
    have hcp := hc.1
    simp only
    have e1 : p.2.1 = D := by rw [← hp]
    have e2 : c.1.2.1 = D := by rw [hcp, e1]
    have e3 : p.1 = w := by rw [← hp]
    simp only [e1, e2, e3]
    refine Ev.askT (lt_next hi) (Ev.need (in_next hi) ?_)
    rw [Int.toNat_natCast]
    have hgoal : ∀ c', CkInv p ((((∀ j < i, fine w D j) ∧ ¬ ¬ (∀ k < i, (D.getD k d0).2.1 ≠ (D.getD i d0).2.1)) ∧ ¬ ¬ ((D.getD i d0).1 = 1 ∨ (D.getD i d0).1 = 2 → (D.getD i d0).2.2.1 < 2 ^ w.toNat)) ∧ ¬ ¬ ((D.getD i d0).1 = 4 → (D.getD i d0).2.2.1 ≤ 3)) c' → Ev (rec (wr IntKind.i64 (Int.add (i : Int) (Int.ofNat 1)), c')) fun r => CkInv p ((∀ i < D.length, fine w D i) ∧ ∀ i < D.length, (D.getD i d0).2.1 ≠ nm) r.2 := by
      intro c' hc'
      rw [show wr IntKind.i64 (Int.add (i : Int) (Int.ofNat 1)) = ((i + 1 : Nat) : Int) from wr_succ (by omega)]
      refine hrec _ ⟨rfl, hc'.1, hc'.2.1, hc'.2.2.trans ?_⟩
      rw [Classical.not_not, Classical.not_not, Classical.not_not]
      constructor
      · intro h j hj
        rcases Nat.lt_or_ge j i with h3 | h3
        · exact h.1.1.1 j h3
        · rw [show j = i from by omega]; exact ⟨h.1.1.2, h.1.2, h.2⟩
      · intro h
        have := h i (by omega)
        exact ⟨⟨⟨fun j hj => h j (by omega), this.1⟩, this.2.1⟩, this.2.2⟩
    generalize hX : D.getD i d0 = X at *
    refine Ev.find (fun k => (k : Int)) D.length (fun k => (D.getD k d0).2.1 ≠ X.2.1) (fun k rec2 hk hp2 => ?_) (fun k rec2 hk hp2 hall => ?_) hi (fun h => h (by rw [hX])) n 0 (Nat.zero_le _) (by omega) (fun k hk => absurd hk (Nat.not_lt_zero _))
    · rw [ask_t (lt_nc hk), need_t (in_nc hk), Int.toNat_natCast]
      rw [ask_f (by rw [eqS_d]; exact decide_eq_false hp2)]
      exact congrArg rec2 (wr_succ (by omega))
    · have hp2 := Classical.not_not.mp hp2
      refine Ev.askT (lt_next hk) (Ev.need (in_next hk) ?_)
      rw [Int.toNat_natCast]
      refine Ev.askT (by rw [eqS_d]; exact decide_eq_true hp2) ?_
      have hshl : shlI .i64 (Int.ofNat 1) w = 2 ^ w.toNat := shl1 (by omega) (by omega)
      have hki : k ≤ i := by
        rcases Nat.lt_or_ge i k with h3 | h3
        · have := hall i h3
          rw [hX] at this
          exact absurd rfl this
        · exact h3
      refine wrong' (why := 2) (b := decide (k < i)) (B := ¬ ∀ k < i, (D.getD k d0).2.1 ≠ X.2.1) hc (by decide) ⟨rfl, rfl⟩ ?_ ?_ fun z hz => ?_
      · rw [show mostI true (k : Int) [Int.ofNat 0] = (k : Int) from mostI_nat k, ask_ss, ltI_d]
        by_cases h : k < i
        · simp [h]
        · simp [h]
      · rw [decide_eq_true_eq]
        constructor
        · intro h hc2
          exact hc2 k h hp2
        · intro h
          apply Classical.byContradiction
          intro h2
          exact h fun m hm => hall m (by omega)
      refine Ev.bind (Q := CkInv p (((∀ j < i, fine w D j) ∧ ¬ ¬ ∀ k < i, (D.getD k d0).2.1 ≠ X.2.1) ∧ ¬ ¬ (X.1 = 1 ∨ X.1 = 2 → X.2.2.1 < 2 ^ w.toNat))) ?_ fun z2 hz2 => ?_
      · have hO : ∀ x : Ck, TM.ask (notB (ltI X.2.2.1 (shlI .i64 (Int.ofNat 1) w))) (some (eqI x.2.2.2.2 (Int.ofNat 0))) (some false) = some (decide (¬ X.2.2.1 < 2 ^ w.toNat) && eqI x.2.2.2.2 0) := by
          intro x
          rw [hshl, ask_ss, notB_d, ltI_d]
          by_cases h : X.2.2.1 < 2 ^ w.toNat <;> simp [h]
        refine Ev.ask (fun h => ?_) fun h => Ev.ask (fun h' => ?_) fun h' => Ev.some ?_
        · rw [eqI_iff] at h
          have h : X.1 = 1 := h
          refine Ev.mono (wrong (why := 3) (B := ¬ X.2.2.1 < 2 ^ w.toNat) hz (by decide) ⟨rfl, rfl⟩ (hO _) decide_eq_true_iff) fun r hr => ?_
          refine ⟨hr.1, hr.2.1, hr.2.2.trans ?_⟩
          simp [h]
        · rw [eqI_iff] at h'
          have h : X.1 = 2 := h'
          refine Ev.mono (wrong (why := 3) (B := ¬ X.2.2.1 < 2 ^ w.toNat) hz (by decide) ⟨rfl, rfl⟩ (hO _) decide_eq_true_iff) fun r hr => ?_
          refine ⟨hr.1, hr.2.1, hr.2.2.trans ?_⟩
          simp [h]
        · rw [eqI_false] at h h'
          have h : X.1 ≠ 1 := h
          have h' : X.1 ≠ 2 := h'
          refine ⟨hz.1, hz.2.1, hz.2.2.trans ?_⟩
          simp [h, h']
      refine Ev.bind (Q := CkInv p ((((∀ j < i, fine w D j) ∧ ¬ ¬ ∀ k < i, (D.getD k d0).2.1 ≠ X.2.1) ∧ ¬ ¬ (X.1 = 1 ∨ X.1 = 2 → X.2.2.1 < 2 ^ w.toNat)) ∧ ¬ ¬ (X.1 = 4 → X.2.2.1 ≤ 3))) ?_ fun z3 hz3 => hgoal z3 hz3
      refine Ev.ask (fun h => ?_) fun h => Ev.some ?_
      · rw [eqI_iff] at h
        have h : X.1 = 4 := h
        refine Ev.mono (wrong (why := 4) (b := decide (3 < X.2.2.1)) (B := 3 < X.2.2.1) hz2 (by decide) ⟨rfl, rfl⟩ ?_ decide_eq_true_iff) fun r hr => ?_
        · rw [ask_ss, ltI_d]
          by_cases h : 3 < X.2.2.1 <;> simp [h]
        · refine ⟨hr.1, hr.2.1, hr.2.2.trans ?_⟩
          simp [h]
      · rw [eqI_false] at h
        have h : X.1 ≠ 4 := h
        refine ⟨hz2.1, hz2.2.1, hz2.2.2.trans ?_⟩
        simp [h]
  · obtain ⟨y, c⟩ := x
    obtain ⟨rfl, hc⟩ := hx
    have hcp := hc.1
    simp only
    have e1 : p.2.1 = D := by rw [← hp]
    have e2 : c.1.2.1 = D := by rw [hcp, e1]
    have e3 : c.1.2.2 = [(nm, b, z)] := by rw [hcp, ← hp]
    simp only [e1, e2, e3]
    refine Ev.askF (lt_end _) ?_
    refine Ev.forN 1 (fun i (x : Int × Ck) => x.1 = (i : Int) ∧ CkInv p ((∀ j < D.length, fine w D j) ∧ (i = 1 → ∀ i < D.length, (D.getD i d0).2.1 ≠ nm)) x.2) (fun i x rec hi hx hrec => ?_) (fun x rec hx => ?_) n 0 _ ⟨rfl, hc.1, hc.2.1, hc.2.2.trans ⟨fun h => ⟨h, fun h => by cases h⟩, fun h => h.1⟩⟩ (Nat.zero_le _) (by omega)
    · obtain rfl : i = 0 := by omega
      obtain ⟨y, c'⟩ := x
      obtain ⟨rfl, hc'⟩ := hx
      simp only
      have f1 : c'.1 = p := hc'.1
      have f2 : c'.1.2.1 = D := by rw [f1, e1]
      have f3 : c'.1.2.2 = [(nm, b, z)] := by rw [f1, ← hp]
      simp only [f2, f3]
      refine Ev.askT rfl (Ev.need rfl ?_)
      have hfix : CkInv p (∀ j < D.length, fine w D j) c' := ⟨hc'.1, hc'.2.1, hc'.2.2.trans ⟨fun h => h.1, fun h => ⟨h, fun h => by cases h⟩⟩⟩
      -- the goroutine of that name: itself
      obtain ⟨m, rfl⟩ : ∃ m, n = m + 1 := ⟨n - 1, by omega⟩
      rw [iter_s]
      refine Ev.askT rfl (Ev.need rfl (Ev.askT (by rw [eqS_d]; simp) ?_))
      refine Ev.while (fun k => (k : Int)) D.length (fun k => (D.getD k d0).2.1 ≠ nm) (fun k => if k < D.length then (bindO (bindO (TM.ask (eqI c'.2.2.2.2 (Int.ofNat 0)) (some (c'.1, c'.2.1, c'.2.2.1, z, Int.ofNat 2)) (some c')) fun x => some x) fun x => rec (wr IntKind.i64 (Int.add 0 (Int.ofNat 1)), x)) else
          (bindO (bindO (TM.ask (ltI (mostI true (Int.ofNat 0) [Int.ofNat 0]) 0) (some (eqI c'.2.2.2.2 (Int.ofNat 0))) (some false)) fun x_4 => bindO (TM.ask x_4 (some (c'.1, c'.2.1, c'.2.2.1, z, Int.ofNat 2)) (some c')) fun x => some x) fun x => rec (wr IntKind.i64 (Int.add 0 (Int.ofNat 1)), x))) (i := 0) (Nat.zero_le _) (by omega) (fun k rec2 hk => ?_) (fun rec2 => ?_) (fun k _ hk hk1 hk2 => ?_)
      · rw [ask_t (lt_nc hk), need_t (in_nc hk), Int.toNat_natCast, if_pos hk]
        by_cases h : (D.getD k d0).2.1 = nm
        · rw [ask_t (by rw [eqS_d]; exact decide_eq_true h), if_neg (not_not_intro h)]
          rw [ask_t (b := notB (ltI (k : Int) (Int.ofNat 0))) (by rw [notB_true, ltI_false]; exact Int.natCast_nonneg _)]
          rfl
        · rw [ask_f (by rw [eqS_d]; exact decide_eq_false h), if_pos h]
          exact congrArg rec2 (wr_succ (by omega))
      · rw [ask_f (lt_ec _), if_neg (Nat.lt_irrefl _)]
        rfl
      · by_cases hlt : k < D.length
        · rw [if_pos hlt]
          refine Ev.bind (Q := CkInv p ((∀ j < D.length, fine w D j) ∧ ¬ True)) ?_ fun z2 hz2 => hrec _ ⟨rfl, hz2.1, hz2.2.1, hz2.2.2.trans ?_⟩
          · have := wrong (why := 2) (b := true) (B := True) (o := some (true && eqI c'.2.2.2.2 0)) (y := (c'.1, c'.2.1, c'.2.2.1, z, Int.ofNat 2)) hfix (by decide) ⟨rfl, rfl⟩ rfl (by simp)
            rw [bindO_s, Bool.true_and] at this
            exact this
          · constructor
            · intro h; exact absurd trivial h.2
            · intro h
              exact absurd (h.2 rfl k hlt) (hk2 hlt)
        · rw [if_neg hlt]
          refine Ev.bind (Q := CkInv p ((∀ j < D.length, fine w D j) ∧ ¬ False)) ?_ fun z2 hz2 => hrec _ ⟨rfl, hz2.1, hz2.2.1, hz2.2.2.trans ?_⟩
          · exact wrong (why := 2) (b := false) (B := False) hfix (by decide) ⟨rfl, rfl⟩ rfl (by simp)
          · constructor
            · intro h
              exact ⟨h.1, fun _ i hi => hk1 i (Nat.zero_le _) (by omega)⟩
            · intro h
              exact ⟨h.1, fun h => h⟩
    · obtain ⟨y, c'⟩ := x
      obtain ⟨rfl, hc'⟩ := hx
      simp only
      have f1 : c'.1 = p := hc'.1
      have f3 : c'.1.2.2 = [(nm, b, z)] := by rw [f1, ← hp]
      refine Ev.askF rfl (Ev.some ⟨hc'.1, hc'.2.1, hc'.2.2.trans ⟨fun h => ⟨h.1, h.2 rfl⟩, fun h => ⟨h.1, fun _ => h.2⟩⟩⟩)
end Go.Proofs.YtfbipcdllbdijaaGreat
namespace Go.Proofs.YtfbipcdllbdijaaGreat
open Go Go.TM
def okNm (D : List De) (nm : List Int) : Prop := okName nm ∧ ∀ i < D.length, (D.getD i d0).2.1 ≠ nm
theorem okDecls_iff {w : Int} {D : List De} : okDecls w D ↔ ((0 ≤ w ∧ w ≤ 65535) ∧ D.length ≤ 12) ∧ (∀ i < D.length, okTree (D.getD i d0)) ∧ (1 ≤ w ∧ w ≤ 8) ∧ ∀ i < D.length, fine w D i := by
  unfold okDecls
  constructor
  · rintro ⟨h1, h2, h3⟩
    refine ⟨⟨by omega, h2⟩, fun i hi => ?_, h1, fun i hi => ?_⟩
    · obtain ⟨⟨h4, h5, h6, h7, h8, h9⟩, h10⟩ := h3 i hi
      refine ⟨h4, h5, ⟨h6, ?_⟩, h9⟩
      by_cases hk : (D.getD i d0).1 ≤ 2
      · have := h7 hk
        obtain ⟨k, rfl, a1, a2, a3, a4, a5⟩ := wide_pow h1
        rw [a3] at this
        omega
      · by_cases hk3 : (D.getD i d0).1 = 3
        · rw [h9 hk3]; decide
        · have := h8 (by omega); omega
    · obtain ⟨⟨h4, h5, h6, h7, h8, h9⟩, h10⟩ := h3 i hi
      exact ⟨h10, fun hk => h7 (by omega), h8⟩
  · rintro ⟨⟨h1, h2⟩, h3, h4, h5⟩
    refine ⟨h4, h2, fun i hi => ?_⟩
    obtain ⟨h6, h7, h8, h9⟩ := h3 i hi
    obtain ⟨h10, h11, h12⟩ := h5 i hi
    exact ⟨⟨h6, h7, h8.1, fun hk => h11 (by omega), h12, h9⟩, h10⟩
theorem e_check {n : Nat} (hn : 200 ≤ n) (w : Int) {D : List De} (hD : D.length ≤ 20) (hs : short D) {nm : List Int} (hnm : nm.length ≤ 100) (z : Int) :
    Ev (scheck_Check n (w, D, [(nm, [], z)])) fun r => r.2.2 = 0 ↔ okDecls w D ∧ okNm D nm := by
  unfold scheck_Check
  simp only
  rw [bindO_eq (a := decide (¬ ((0 ≤ w ∧ w ≤ 65535) ∧ D.length ≤ 12))) (by
    simp only [ask_ss, bindO_s, ltI_d, eqI_d, eqS_d, notB_d, andB_d, eqB_d, inB_d, leB_d, ble_d, Int.ofNat_eq_natCast, Int.cast_ofNat_Int]
    refine some_dec ?_
    simp
    omega)]
  refine Ev.ask (fun h => Ev.some ?_) fun h => ?_
  · have h := of_decide_eq_true h
    exact ⟨fun e => absurd e (show ¬ (1 : Int) = 0 by decide), fun hq => absurd (okDecls_iff.mp hq.1).1 h⟩
  have hh := Classical.not_not.mp (of_decide_eq_false h)
  clear h
  have hsize := hh.2
  refine Ev.while (fun k => (k : Int)) D.length (fun k => okTree (D.getD k d0)) (fun k => if k < D.length then some (0, 0, 1) else
      iter (fun (x : Int × (Int × Int)) rec => TM.ask (ltI x.1 (Int.ofNat ([(nm, ([] : List (tStmt.D)), z)] : List Pr).length)) (need (inB x.1 ([(nm, ([] : List (tStmt.D)), z)] : List Pr).length)
        (bindO (bindO (slex_Name n (([(nm, ([] : List (tStmt.D)), z)] : List Pr).getD (Int.toNat x.1) (([] : List Int), [], Int.ofNat 0)).1) fun r => TM.ask (notB r) (some (true, x.2)) (bindO (stree_counter_all n x.2 (([(nm, ([] : List (tStmt.D)), z)] : List Pr).getD (Int.toNat x.1) (([] : List Int), [], Int.ofNat 0)).2.1 (Int.ofNat 12)) fun r => some (notB r.1, r.2)))
          fun x_1 => TM.ask x_1.1 (some (Int.ofNat 0, Int.ofNat 0, Int.ofNat 1)) (rec (wr IntKind.i64 (Int.add x.1 (Int.ofNat 1)), x_1.2))))
        (bindO (TM.ask (ltI w (Int.ofNat 1)) (some true) (some (ltI (Int.ofNat 8) w))) fun x_1 => TM.ask x_1 (some (Int.ofNat 0, Int.ofNat 1, Int.ofNat 8))
          (bindO (scheck_checker_decls n ((w, D, [(nm, [], z)]), Int.ofNat 0, [], Int.ofNat 0, Int.ofNat 0)) fun r =>
            iter (fun (x_2 : Int × Ck) rec => TM.ask (ltI x_2.1 (Int.ofNat ([(nm, ([] : List (tStmt.D)), z)] : List Pr).length)) (need (inB x_2.1 ([(nm, ([] : List (tStmt.D)), z)] : List Pr).length)
              (bindO (scheck_checker_stmts n (x_2.2.1, x_2.1, x_2.2.2.2) (([(nm, ([] : List (tStmt.D)), z)] : List Pr).getD (Int.toNat x_2.1) (([] : List Int), [], Int.ofNat 0)).2.1 []) fun r => rec (wr IntKind.i64 (Int.add x_2.1 (Int.ofNat 1)), r.2)))
              (TM.ask (ltI (Int.ofNat 0) x_2.2.2.2.2.2) (some (x_2.2.2.2.2.1, x_2.2.2.2.2.2, Int.ofNat 8)) (some (Int.ofNat 0, Int.ofNat 0, Int.ofNat 0)))) n (Int.ofNat 0, r.2)))) n (Int.ofNat 0, Int.ofNat 0, Int.ofNat 0)) (i := 0) (Nat.zero_le _) (by omega) (fun k rec hk => ?_) (fun rec => ?_) (fun k _ hk hk1 hk2 => ?_)
  · rw [ask_t (lt_nc hk), need_t (in_nc hk), Int.toNat_natCast]
    have := hs k hk
    generalize D.getD k d0 = X at *
    rw [e_treedecl hn this, bindO_s, wr_nc (by omega), if_pos hk]
    by_cases h : okTree X
    · rw [if_pos h, decide_eq_true h]
      rfl
    · rw [if_neg h, decide_eq_false h]
      rw [ask_t (b := notB false) rfl, ask_t (b := notB (ltI (k : Int) (Int.ofNat 0))) (by rw [notB_true, ltI_false]; exact Int.natCast_nonneg _)]
      rfl
  · rw [ask_f (lt_ec _), if_neg (Nat.lt_irrefl _)]
  · by_cases hlt : k < D.length
    · rw [if_pos hlt]
      refine Ev.some ⟨fun e => absurd e (show ¬ (1 : Int) = 0 by decide), fun hq => ?_⟩
      exact absurd ((okDecls_iff.mp hq.1).2.1 k hlt) (hk2 hlt)
    · rw [if_neg hlt]
      have htree : ∀ i < D.length, okTree (D.getD i d0) := fun i hi => hk1 i (Nat.zero_le _) (by omega)
      obtain ⟨m, rfl⟩ : ∃ m, n = m + 2 := ⟨n - 2, by omega⟩
      rw [iter_s]
      refine Ev.askT rfl (Ev.need rfl ?_)
      simp only
      rw [show (([(nm, ([] : List (tStmt.D)), z)] : List Pr).getD (Int.toNat (Int.ofNat 0)) (([] : List Int), [], Int.ofNat 0)) = (nm, [], z) from rfl]
      rw [show (nm, ([] : List (tStmt.D)), z).1 = nm from rfl, e_Name (n := m + 2) (s := nm) (by omega) (by omega), bindO_s]
      by_cases hok : okName nm
      · rw [decide_eq_true hok, ask_f (b := notB true) rfl, show stree_counter_all (m + 2) (Int.ofNat 0, Int.ofNat 0) (nm, ([] : List (tStmt.D)), z).2.1 (Int.ofNat 12) = some (true, (Int.ofNat 0, Int.ofNat 0)) from rfl, bindO_s, bindO_s]
        refine Ev.askF rfl ?_
        rw [iter_s]
        refine Ev.askF rfl ?_
        rw [bindO_eq (a := decide (¬ (1 ≤ w ∧ w ≤ 8))) (by
          simp only [ask_ss, bindO_s, ltI_d, eqI_d, eqS_d, notB_d, andB_d, eqB_d, inB_d, leB_d, ble_d, Int.ofNat_eq_natCast, Int.cast_ofNat_Int]
          refine some_dec ?_
          simp
          omega)]
        refine Ev.ask (fun h => Ev.some ?_) fun h => ?_
        · have h := of_decide_eq_true h
          exact ⟨fun e => absurd e (show ¬ (8 : Int) = 0 by decide), fun hq => absurd hq.1.1 h⟩
        have hw := Classical.not_not.mp (of_decide_eq_false h)
        refine Ev.bind (e_ckdecls hn hw hsize nm [] z) fun r hr => ?_
        rw [iter_s]
        refine Ev.askT rfl (Ev.need rfl ?_)
        simp only
        rw [show scheck_checker_stmts (m + 2) (r.2.1, Int.ofNat 0, r.2.2.2) (([(nm, ([] : List (tStmt.D)), z)] : List Pr).getD (Int.toNat (Int.ofNat 0)) (([] : List Int), [], Int.ofNat 0)).2.1 [] = some ((), (r.2.1, Int.ofNat 0, r.2.2.2)) from rfl, bindO_s, iter_s]
        refine Ev.askF rfl ?_
        simp only
        have hfin : (okDecls w D ∧ okNm D nm) ↔ ((∀ i < D.length, fine w D i) ∧ ∀ i < D.length, (D.getD i d0).2.1 ≠ nm) := by
          rw [okDecls_iff]
          exact ⟨fun h => ⟨h.1.2.2.2, h.2.2⟩, fun h => ⟨⟨hh, htree, hw, h.1⟩, hok, h.2⟩⟩
        rw [hfin]
        refine Ev.ask (fun h => Ev.some ?_) fun h => Ev.some ?_
        · rw [ltI_iff] at h
          have h : 0 < r.2.2.2.2.2 := h
          exact ⟨fun e => absurd e (show ¬ (8 : Int) = 0 by decide), fun hq => by rw [hr.2.2.mpr hq] at h; exact absurd h (by decide)⟩
        · rw [ltI_false] at h
          have h : r.2.2.2.2.2 ≤ 0 := h
          exact ⟨fun _ => hr.2.2.mp (Int.le_antisymm h hr.2.1), fun _ => rfl⟩
      · rw [decide_eq_false hok, ask_t (b := notB false) rfl, bindO_s]
        refine Ev.askT rfl (Ev.some ?_)
        exact ⟨fun e => absurd e (show ¬ (1 : Int) = 0 by decide), fun hq => absurd hq.2.1 hok⟩
end Go.Proofs.YtfbipcdllbdijaaGreat
namespace Go.Proofs.YtfbipcdllbdijaaGreat
open Go Go.TM
abbrev Row : Type := Nat → Bool
def rowOf (out : List Row) (i : Int) : Row := out.getD i.toNat fun _ => false
def row (out : List Row) : Te → Row := fun t r =>
  decide (t.1 = 2 ∧ t.2.2.1 = (r : Int)) || (decide (3 ≤ t.1) && rowOf out t.2.2.2.1 r) || (decide (4 ≤ t.1) && rowOf out t.2.2.2.2.1 r) || (decide (t.1 = 5) && rowOf out t.2.2.2.2.2 r)
def hg (l : List Te) : Nat → List Row
  | 0 => []
  | i + 1 => hg l i ++ [row (hg l i) (l.getD i t0)]
theorem hg_len (l : List Te) : ∀ i, (hg l i).length = i
  | 0 => rfl
  | i + 1 => by rw [hg, List.length_append, hg_len l i]; rfl
def lrow (f : Row) : List Bool := (List.range 64).map f
theorem lrow_len (f : Row) : (lrow f).length = 64 := by unfold lrow; rw [List.length_map, List.length_range]
theorem lrow_get (f : Row) {r : Nat} (h : r < 64) : (lrow f).getD r false = f r := by
  unfold lrow
  rw [List.getD_eq_getElem?_getD, List.getElem?_map, List.getElem?_range h]
  rfl
theorem lrow_set (f : Row) {r : Nat} (h : r < 64) (b : Bool) : (lrow f).set r b = lrow fun s => if s = r then b else f s := by
  unfold lrow
  refine List.ext_getElem (by simp) fun i h1 h2 => ?_
  rw [List.getElem_set]
  simp only [List.getElem_map, List.getElem_range]
  by_cases hi : r = i
  · rw [if_pos hi, if_pos hi.symm]
  · rw [if_neg hi, if_neg (Ne.symm hi)]
theorem lrow_congr {f g : Row} (h : ∀ r < 64, f r = g r) : lrow f = lrow g := by
  unfold lrow
  exact List.map_congr_left fun r hr => h r (List.mem_range.mp hr)
theorem getD_map {out : List Row} {i : Nat} (h : i < out.length) : (out.map lrow).getD i [] = lrow (out.getD i fun _ => false) := by
  rw [List.getD_eq_getElem?_getD, List.getD_eq_getElem?_getD, List.getElem?_map, List.getElem?_eq_getElem h]
  rfl
theorem or_loop {n : Nat} (hn : 100 ≤ n) {R : Type} {body : (List Bool × Int) → ((List Bool × Int) → Option R) → Option R} (f g : Row) (res : Option R)
    (hs : ∀ (h : Row) (r : Nat) rec, r < 64 → (∀ s, r ≤ s → h s = f s) → body (lrow h, (r : Int)) rec = rec (lrow (fun s => if s = r then (f s || g s) else h s), ((r + 1 : Nat) : Int)))
    (he : ∀ rec, body (lrow (fun s => f s || g s), (64 : Int)) rec = res) : iter body n (lrow f, (0 : Int)) = res := by
  have h0 : (lrow f, (0 : Int)) = (lrow (fun s => if s < 0 then (f s || g s) else f s), ((0 : Nat) : Int)) := by
    refine Prod.ext (lrow_congr fun r _ => ?_) rfl
    simp
  rw [h0]
  refine iter_to (fun r => (lrow (fun s => if s < r then (f s || g s) else f s), ((r : Nat) : Int))) 64 res (fun r rec hr => ?_) (fun rec => ?_) n 0 (Nat.zero_le _) (by omega)
  · rw [hs _ r rec hr fun s hs => by simp; omega]
    congr 2
    refine lrow_congr fun s _ => ?_
    by_cases h1 : s = r
    · rw [if_pos h1, if_pos (by omega)]
    · rw [if_neg h1]
      by_cases h2 : s < r
      · rw [if_pos h2, if_pos (by omega)]
      · rw [if_neg h2, if_neg (by omega)]
  · rw [← he rec]
    exact congrArg (fun x => body (x, (64 : Int)) rec) (lrow_congr fun s hs => by simp only [if_pos hs])
theorem e_refhangs {n : Nat} (hn : 8193 ≤ n) {w : Int} {l : List Te} (hl : okTerms w l) : sref26_hangs n l = some ((hg l l.length).map lrow) := by
  unfold sref26_hangs
  have hN := hl.2.1
  refine iter_to (fun i => ((hg l i).map lrow, (i : Int))) l.length _ (fun i rec hi => ?_) (fun rec => ?_) n 0 (Nat.zero_le _) (by omega)
  · have hlen := hg_len l i
    have ht := hl.2.2 i hi
    simp only
    rw [ask_t (lt_nc hi)]
    simp only [in_nc hi, need_true, Int.toNat_natCast, wr_nc (show i < 9223372036854775807 by omega)]
    rw [show hg l (i + 1) = hg l i ++ [row (hg l i) (l.getD i t0)] from rfl]
    unfold t0 at *
    generalize l.getD i (Int.ofNat 0, ([] : List Int), Int.ofNat 0, Int.ofNat 0, Int.ofNat 0, Int.ofNat 0) = t at *
    have hlen' : ((hg l i).length : Int) = (i : Int) := by rw [hlen]
    generalize hg l i = out at *
    obtain ⟨(k : Int), (op : List Int), (num : Int), (a : Int), (b : Int), (c : Int)⟩ := t
    rw [← hlen'] at ht
    simp only
    -- the parts
    have fin : ∀ (f : Row) (ps : List Int), ps.length ≤ 3 → (∀ p ∈ ps, 0 ≤ p ∧ p < (out.length : Int)) → (∀ r < 64, (f r || ps.any fun p => rowOf out p r) = row out (k, op, num, a, b, c) r) → 
        iter (fun (x_5 : List Bool × Int) rec_1 =>
                  TM.ask (ltI x_5.2 (Int.ofNat ps.length))
                  (iter
                  (fun (x_6 : List Bool × Int) rec =>
                  TM.ask (ltI x_6.2 (Int.ofNat 64))
                  (need (inB x_6.2 (x_6.1.length))
                  (TM.ask (x_6.1.getD (Int.toNat x_6.2) false) (need (inB x_6.2 (x_6.1.length)) (rec (x_6.1.set (Int.toNat x_6.2) true, wr IntKind.i64 (Int.add x_6.2 (Int.ofNat 1)))))
                  (need (inB x_5.2 (ps.length))
                  (need (inB (ps.getD (Int.toNat x_5.2) (Int.ofNat 0)) ((out.map lrow).length))
                  (need (inB x_6.2 (((out.map lrow).getD (Int.toNat (ps.getD (Int.toNat x_5.2) (Int.ofNat 0))) ([] : List Bool)).length))
                  (need (inB x_6.2 (x_6.1.length))
                  (rec (x_6.1.set (Int.toNat x_6.2) (((out.map lrow).getD (Int.toNat (ps.getD (Int.toNat x_5.2) (Int.ofNat 0))) ([] : List Bool)).getD (Int.toNat x_6.2) false),
                  wr IntKind.i64 (Int.add x_6.2 (Int.ofNat 1))))))))))
                  (rec_1 (x_6.1, wr IntKind.i64 (Int.add x_5.2 (Int.ofNat 1)))))
                  n (x_5.1, Int.ofNat 0))
                  (need (Nat.ble (((out.map lrow).length + 1) * 24) 140737488355328) (rec (out.map lrow ++ [x_5.1], ((i + 1 : Nat) : Int))))) n (lrow f, Int.ofNat 0) = rec ((out ++ [row out (k, op, num, a, b, c)]).map lrow, ((i + 1 : Nat) : Int)) := by
      intro f ps hp3 hps hrow
      refine (congrArg _ (show ((lrow f, Int.ofNat 0) : List Bool × Int) = (lrow (fun s => f s || (ps.take 0).any fun p => rowOf out p s), ((0 : Nat) : Int)) from ?_)).trans ?_
      · have : lrow f = lrow (fun s => f s || (ps.take 0).any fun p => rowOf out p s) := lrow_congr fun r _ => by simp
        rw [this]
        rfl
      refine iter_to (fun j => (lrow (fun s => f s || (ps.take j).any fun p => rowOf out p s), ((j : Nat) : Int))) ps.length _ (fun j rec_1 hj => ?_) (fun rec_1 => ?_) n 0 (Nat.zero_le _) (by omega)
      · rw [ask_t (lt_nc hj)]
        have hget : ps.getD (Int.toNat (j : Int)) (Int.ofNat 0) = ps[j] := by
          rw [Int.toNat_natCast, List.getD_eq_getElem?_getD, List.getElem?_eq_getElem hj]
          rfl
        have hp := hps _ (List.getElem_mem hj)
        simp only [hget, in_nc hj, need_true, wr_nc (show j < 9223372036854775807 by omega)]
        rw [getD_map (by omega)]
        generalize hp0 : ps[j] = p at *
        have htake : ps.take (j + 1) = ps.take j ++ [p] := by rw [← hp0, List.take_succ_eq_append_getElem hj]
        generalize hF : (fun s => f s || (ps.take j).any fun p => rowOf out p s) = F
        have hpl : inB p (out.map lrow).length = true := by rw [inB_iff, List.length_map]; omega
        refine (or_loop (by omega) F (rowOf out p) (rec_1 (lrow (fun s => F s || rowOf out p s), ((j + 1 : Nat) : Int))) (fun h r rec hr hh => ?_) (fun rec => ?_)).trans ?_
        · simp only
          rw [ask_t (lt_nc hr), need_t (b := inB (r : Int) (lrow h).length) (by rw [lrow_len]; exact in_nc hr), need_t (b := inB (r : Int) (lrow h).length) (by rw [lrow_len]; exact in_nc hr), need_t hpl, need_t (b := inB (r : Int) (lrow (out.getD p.toNat fun x => false)).length) (by rw [lrow_len]; exact in_nc hr), need_t (b := inB (r : Int) (lrow h).length) (by rw [lrow_len]; exact in_nc hr)]
          rw [Int.toNat_natCast, lrow_get _ hr, lrow_get _ hr, lrow_set _ hr, lrow_set _ hr, wr_nc (by omega), hh r (Nat.le_refl _)]
          cases hFr : F r with
          | true =>
            rw [ask_true]
            congr 2
            refine lrow_congr fun s _ => ?_
            by_cases hs : s = r
            · subst hs; simp [hFr]
            · simp [hs]
          | false =>
            rw [ask_false]
            congr 2
            refine lrow_congr fun s _ => ?_
            by_cases hs : s = r
            · subst hs; simp [hFr, rowOf]
            · simp [hs]
        · exact ask_f (lt_ec 64)
        · have : lrow (fun s => F s || rowOf out p s) = lrow (fun s => f s || (ps.take (j + 1)).any fun p => rowOf out p s) := lrow_congr fun s _ => by
            rw [← hF, htake]
            simp [Bool.or_assoc]
          rw [this]
      · simp only
        rw [ask_f (lt_ec _), need_t (by rw [ble_iff, List.length_map]; omega)]
        have : lrow (fun s => f s || (ps.take ps.length).any fun p => rowOf out p s) = lrow (row out (k, op, num, a, b, c)) := lrow_congr fun s hs => by
          rw [List.take_length]
          exact hrow s hs
        rw [this, List.map_append]
        rfl
    have hz : (List.replicate 64 false : List Bool) = lrow fun _ => false := by rfl
    rcases okTerm_cases ht with h | h | h | h | h <;> obtain ⟨rfl, h⟩ := h
    · rw [ask_f (b := eqI 1 (Int.ofNat 2)) rfl, bindO_s, ask_f (b := notB (ltI 1 (Int.ofNat 3))) rfl, bindO_s, ask_f (b := notB (ltI 1 (Int.ofNat 4))) rfl, bindO_s, ask_f (b := eqI 1 (Int.ofNat 5)) rfl, bindO_s]
      rw [hz]
      exact fin _ [] (by simp) (by simp) fun r _ => by simp [row]
    · rw [ask_t (b := eqI 2 (Int.ofNat 2)) rfl, need_t (b := inB num (List.replicate 64 false).length) (by rw [inB_iff]; simp; omega), bindO_s, ask_f (b := notB (ltI 2 (Int.ofNat 3))) rfl, bindO_s, ask_f (b := notB (ltI 2 (Int.ofNat 4))) rfl, bindO_s, ask_f (b := eqI 2 (Int.ofNat 5)) rfl, bindO_s]
      rw [hz, lrow_set _ (by omega)]
      refine fin _ [] (by simp) (by simp) fun r _ => ?_
      obtain ⟨m, rfl⟩ : ∃ m : Nat, num = m := ⟨num.toNat, by omega⟩
      simp [row]
      omega
    · rw [ask_f (b := eqI 3 (Int.ofNat 2)) rfl, bindO_s, ask_t (b := notB (ltI 3 (Int.ofNat 3))) rfl, bindO_s, ask_f (b := notB (ltI 3 (Int.ofNat 4))) rfl, bindO_s, ask_f (b := eqI 3 (Int.ofNat 5)) rfl, bindO_s]
      rw [hz]
      exact fin _ [a] (by simp) (by simp; exact h.2.2.1) fun r _ => by simp [row]
    · rw [ask_f (b := eqI 4 (Int.ofNat 2)) rfl, bindO_s, ask_t (b := notB (ltI 4 (Int.ofNat 3))) rfl, bindO_s, ask_t (b := notB (ltI 4 (Int.ofNat 4))) rfl, need_t (b := Nat.ble _ _) rfl, bindO_s, ask_f (b := eqI 4 (Int.ofNat 5)) rfl, bindO_s]
      rw [hz]
      exact fin _ [a, b] (by simp) (by simp; exact ⟨h.2.2.1, h.2.2.2.1⟩) fun r _ => by simp [row]
    · rw [ask_f (b := eqI 5 (Int.ofNat 2)) rfl, bindO_s, ask_t (b := notB (ltI 5 (Int.ofNat 3))) rfl, bindO_s, ask_t (b := notB (ltI 5 (Int.ofNat 4))) rfl, need_t (b := Nat.ble _ _) rfl, bindO_s, ask_t (b := eqI 5 (Int.ofNat 5)) rfl, need_t (b := Nat.ble _ _) rfl, bindO_s]
      rw [hz]
      exact fin _ [a, b, c] (by simp) (by simp; exact ⟨h.2.2.1, h.2.2.2.1, h.2.2.2.2⟩) fun r _ => by simp [row, Bool.or_assoc]
  · exact ask_f (lt_ec _)
end Go.Proofs.YtfbipcdllbdijaaGreat
namespace Go.Proofs.YtfbipcdllbdijaaGreat
open Go Go.TM
def Bits (m : Int) (f : Row) : Prop := ∃ M : Nat, m = M ∧ M < 18446744073709551616 ∧ ∀ r < 64, M.testBit r = f r
theorem ofInt64 {A : Nat} (h : A < 18446744073709551616) : (BitVec.ofInt 64 (A : Int)).toNat = A := by
  rw [BitVec.toNat_ofInt]
  omega
theorem wrap_u {A : Nat} (h : A < 18446744073709551616) : IntKind.u64.wrap (A : Int) = A := IntWalk.u64_in _ (by omega)
theorem Bits.zero : Bits 0 fun _ => false := ⟨0, rfl, by decide, fun r _ => Nat.zero_testBit r⟩
theorem Bits.congr {m : Int} {f g : Row} (h : Bits m f) (e : ∀ r < 64, f r = g r) : Bits m g := by
  obtain ⟨M, h1, h2, h3⟩ := h
  exact ⟨M, h1, h2, fun r hr => (h3 r hr).trans (e r hr)⟩
theorem Bits.or {a b : Int} {f g : Row} (ha : Bits a f) (hb : Bits b g) : Bits (TM.bits .or .u64 a b) fun r => f r || g r := by
  obtain ⟨A, rfl, hA, fA⟩ := ha
  obtain ⟨B, rfl, hB, fB⟩ := hb
  refine ⟨A ||| B, ?_, (Nat.or_lt_two_pow (n := 64) hA hB : A ||| B < 2 ^ 64), fun r hr => ?_⟩
  · show IntKind.u64.wrap ((BitVec.ofInt 64 (A : Int) ||| BitVec.ofInt 64 (B : Int)).toNat) = _
    rw [BitVec.toNat_or, ofInt64 hA, ofInt64 hB]
    exact wrap_u (Nat.or_lt_two_pow (n := 64) hA hB : A ||| B < 2 ^ 64)
  · rw [Nat.testBit_or, fA r hr, fB r hr]
theorem Bits.one {k : Int} (h0 : 0 ≤ k) (h1 : k < 64) : Bits (shlI .u64 (Int.ofNat 1) k) fun r => decide (k = (r : Int)) := by
  obtain ⟨m, rfl⟩ : ∃ m : Nat, k = m := ⟨k.toNat, by omega⟩
  have hm : m < 64 := by omega
  have hp : 2 ^ m < 2 ^ 64 := Nat.pow_lt_pow_right (by decide) hm
  refine ⟨2 ^ m, ?_, hp, fun r hr => ?_⟩
  · have : ∀ m : Nat, m < 64 → shlI .u64 (Int.ofNat 1) (m : Int) = ((2 ^ m : Nat) : Int) := by decide +kernel
    exact this m hm
  · rw [Nat.testBit_two_pow, Bool.eq_iff_iff, decide_eq_true_eq, decide_eq_true_eq]
    omega
theorem Bits.left {a b : Int} {f g : Row} (ha : Bits a f) (hb : Bits b g) : eqI (TM.bits .andNot .u64 a b) (Int.ofNat 0) = true ↔ ∀ r < 64, f r = true → g r = true := by
  obtain ⟨A, rfl, hA, fA⟩ := ha
  obtain ⟨B, rfl, hB, fB⟩ := hb
  rw [eqI_iff]
  have hn : (BitVec.ofInt 64 (A : Int) &&& ~~~(BitVec.ofInt 64 (B : Int))).toNat < 18446744073709551616 := BitVec.isLt _
  have h1 : TM.bits .andNot .u64 (A : Int) (B : Int) = ((BitVec.ofInt 64 (A : Int) &&& ~~~(BitVec.ofInt 64 (B : Int))).toNat : Int) := wrap_u hn
  rw [h1]
  have h2 : ((BitVec.ofInt 64 (A : Int) &&& ~~~(BitVec.ofInt 64 (B : Int))).toNat : Int) = Int.ofNat 0 ↔ (BitVec.ofInt 64 (A : Int) &&& ~~~(BitVec.ofInt 64 (B : Int))) = 0#64 := by
    constructor
    · intro h
      have h : ((BitVec.ofInt 64 (A : Int) &&& ~~~(BitVec.ofInt 64 (B : Int))).toNat : Int) = 0 := h
      apply BitVec.eq_of_toNat_eq
      rw [BitVec.toNat_zero]
      omega
    · intro h; rw [h]; rfl
  rw [h2]
  have hbA : ∀ r, r < 64 → (BitVec.ofInt 64 (A : Int)).getLsbD r = f r := fun r hr => by
    unfold BitVec.getLsbD
    rw [ofInt64 hA, fA r hr]
  have hbB : ∀ r, r < 64 → (BitVec.ofInt 64 (B : Int)).getLsbD r = g r := fun r hr => by
    unfold BitVec.getLsbD
    rw [ofInt64 hB, fB r hr]
  constructor
  · intro h r hr hf
    have h3 := congrArg (fun v => v.getLsbD r) h
    simp only [BitVec.getLsbD_and, BitVec.getLsbD_not, hbA r hr, hbB r hr, hf, hr, decide_true, Bool.true_and, BitVec.getLsbD_zero] at h3
    simpa using h3
  · intro h
    apply BitVec.eq_of_getLsbD_eq
    intro r hr
    rw [BitVec.getLsbD_and, BitVec.getLsbD_not, hbA r hr, hbB r hr, BitVec.getLsbD_zero]
    cases hf : f r with
    | false => rfl
    | true => simp [h r hr hf]
theorem e_uhangs {n : Nat} (hn : 8193 ≤ n) {w : Int} {l : List Te} (hl : okTerms w l) : Ev (sunroll_hangs n l) fun v => v.length = l.length ∧ ∀ i : Int, 0 ≤ i → i < l.length → Bits (v.getD i.toNat 0) (rowOf (hg l l.length) i) := by
  unfold sunroll_hangs
  have hN := hl.2.1
  refine Ev.forN l.length (fun i (x : List Int × Int) => x.2 = (i : Int) ∧ x.1.length = i ∧ ∀ j : Int, 0 ≤ j → j < i → Bits (x.1.getD j.toNat 0) (rowOf (hg l i) j)) (fun i x rec hi hx hrec => ?_) (fun x rec hx => ?_) n 0 _ ⟨rfl, rfl, fun j h1 h2 => by omega⟩ (Nat.zero_le _) (by omega)
  · obtain ⟨v, y⟩ := x
    obtain ⟨rfl, hvl, hv⟩ := hx
    simp only at hvl hv ⊢
    refine Ev.askT (lt_nc hi) (Ev.need (in_nc hi) ?_)
    have hlen := hg_len l i
    have ht := hl.2.2 i hi
    have hs : hg l (i + 1) = hg l i ++ [row (hg l i) (l.getD i t0)] := rfl
    rw [Int.toNat_natCast]
    unfold t0 at *
    generalize l.getD i (Int.ofNat 0, ([] : List Int), Int.ofNat 0, Int.ofNat 0, Int.ofNat 0, Int.ofNat 0) = t at *
    have hlen' : ((hg l i).length : Int) = (i : Int) := by rw [hlen]
    generalize hout : hg l i = out at *
    obtain ⟨(k : Int), (op : List Int), (num : Int), (a : Int), (b : Int), (c : Int)⟩ := t
    simp only
    refine Ev.bind (Q := fun m => Bits m (row out (k, op, num, a, b, c))) ?_ fun m hm => ?_
    · have hin : ∀ a : Int, 0 ≤ a ∧ a < (i : Int) → inB a v.length = true := fun a h => by rw [inB_iff]; omega
      rcases okTerm_cases ht with h | h | h | h | h <;> obtain ⟨rfl, h⟩ := h
      · refine Ev.askF rfl (Ev.bind (Q := fun m => Bits m (row out (1, op, num, a, b, c))) ?_ fun m hm => Ev.some hm)
        refine Ev.askF rfl (Ev.bind (Q := fun m => Bits m (row out (1, op, num, a, b, c))) ?_ fun m hm => Ev.some hm)
        refine Ev.askF rfl (Ev.bind (Q := fun m => Bits m (row out (1, op, num, a, b, c))) ?_ fun m hm => Ev.some hm)
        refine Ev.askF rfl (Ev.some (Bits.zero.congr fun r _ => by simp [row]))
      · refine Ev.askT rfl (Ev.need (by rw [notB_true, ltI_false]; exact h.2.1) (Ev.some ((Bits.one h.2.1 h.2.2.1).congr fun r _ => by simp [row])))
      · refine Ev.askF rfl (Ev.bind (Q := fun m => Bits m (row out (3, op, num, a, b, c))) ?_ fun m hm => Ev.some hm)
        exact Ev.askT rfl (Ev.need (hin a h.2.2.1) (Ev.some ((hv a h.2.2.1.1 h.2.2.1.2).congr fun r _ => by simp [row])))
      · refine Ev.askF rfl (Ev.bind (Q := fun m => Bits m (row out (4, op, num, a, b, c))) ?_ fun m hm => Ev.some hm)
        refine Ev.askF rfl (Ev.bind (Q := fun m => Bits m (row out (4, op, num, a, b, c))) ?_ fun m hm => Ev.some hm)
        exact Ev.askT rfl (Ev.need (hin a h.2.2.1) (Ev.need (hin b h.2.2.2.1) (Ev.some (((hv a h.2.2.1.1 h.2.2.1.2).or (hv b h.2.2.2.1.1 h.2.2.2.1.2)).congr fun r _ => by simp [row]))))
      · refine Ev.askF rfl (Ev.bind (Q := fun m => Bits m (row out (5, op, num, a, b, c))) ?_ fun m hm => Ev.some hm)
        refine Ev.askF rfl (Ev.bind (Q := fun m => Bits m (row out (5, op, num, a, b, c))) ?_ fun m hm => Ev.some hm)
        refine Ev.askF rfl (Ev.bind (Q := fun m => Bits m (row out (5, op, num, a, b, c))) ?_ fun m hm => Ev.some hm)
        exact Ev.askT rfl (Ev.need (hin a h.2.2.1) (Ev.need (hin b h.2.2.2.1) (Ev.need (hin c h.2.2.2.2) (Ev.some ((((hv a h.2.2.1.1 h.2.2.1.2).or (hv b h.2.2.2.1.1 h.2.2.2.1.2)).or (hv c h.2.2.2.2.1 h.2.2.2.2.2)).congr fun r _ => by simp [row, Bool.or_assoc])))))
    · refine Ev.need (by rw [ble_iff]; omega) ?_
      rw [wr_nc (by omega)]
      refine hrec _ ⟨rfl, by simp [hvl], fun j h0 h1 => ?_⟩
      rw [hs]
      unfold rowOf
      rcases Int.lt_or_le j (i : Int) with h2 | h2
      · have := hv j h0 h2
        rw [List.getD_eq_getElem?_getD, List.getElem?_append_left (by omega), ← List.getD_eq_getElem?_getD]
        rw [List.getD_eq_getElem?_getD (l := out ++ _), List.getElem?_append_left (by omega), ← List.getD_eq_getElem?_getD]
        exact this
      · have hj : j.toNat = i := by omega
        rw [hj, List.getD_eq_getElem?_getD, List.getElem?_append_right (by omega), List.getD_eq_getElem?_getD (l := out ++ _), List.getElem?_append_right (by omega), hvl, hlen]
        simpa using hm
  · obtain ⟨v, y⟩ := x
    obtain ⟨rfl, hvl, hv⟩ := hx
    exact Ev.askF (lt_ec _) (Ev.some ⟨hvl, hv⟩)
end Go.Proofs.YtfbipcdllbdijaaGreat
namespace Go.Proofs.YtfbipcdllbdijaaGreat
open Go Go.TM
def needs (out : List Row) (x : In) : Row := fun r => rowOf out x.2.2.1 r || (decide (0 < nTerms x.1) && rowOf out x.2.2.2.1 r) || (decide (1 < nTerms x.1) && rowOf out x.2.2.2.2.1 r)
def have_ (l : List In) (i : Nat) : Row := fun r => decide (∃ j, j < i ∧ (l.getD j i0).2.2.2.2.2.1 = (r : Int))
def okAlone (out : List Row) (l : List In) : Prop := ∀ i < l.length, ∀ r < 64, needs out (l.getD i i0) r = true → have_ l i r = true
instance (out : List Row) (l : List In) : Decidable (okAlone out l) := by unfold okAlone; infer_instance
def okParts (nT : Nat) (x : In) : Prop := (0 ≤ x.2.2.1 ∧ x.2.2.1 < nT) ∧ (0 < nTerms x.1 → 0 ≤ x.2.2.2.1 ∧ x.2.2.2.1 < nT) ∧ (1 < nTerms x.1 → 0 ≤ x.2.2.2.2.1 ∧ x.2.2.2.2.1 < nT) ∧ -1 ≤ x.2.2.2.2.2.1 ∧ x.2.2.2.2.2.1 < 64
theorem okParts_of {D : List De} {nT nP : Nat} {p R : Int} {x : In} (h : okI D nT nP p x) (hr : okRd R x) (hR : R ≤ 64) : okParts nT x := by
  obtain ⟨h1, h2, h3, h4, h5, h6, h7, h8, h9⟩ := h
  refine ⟨h7, fun h => ?_, fun h => ?_, h4, ?_⟩
  · unfold okPart at h8
    rw [if_pos h] at h8
    exact h8
  · unfold okPart at h9
    rw [if_pos h] at h9
    exact h9
  · unfold okRd at hr
    omega
theorem have_succ (l : List In) (i r : Nat) : have_ l (i + 1) r = (have_ l i r || decide ((l.getD i i0).2.2.2.2.2.1 = (r : Int))) := by
  unfold have_
  rw [Bool.eq_iff_iff, Bool.or_eq_true, decide_eq_true_eq, decide_eq_true_eq, decide_eq_true_eq]
  constructor
  · rintro ⟨j, h1, h2⟩
    rcases Nat.lt_or_ge j i with h3 | h3
    · exact .inl ⟨j, h3, h2⟩
    · rw [show j = i from by omega] at h2; exact .inr h2
  · rintro (⟨j, h1, h2⟩ | h)
    · exact ⟨j, by omega, h2⟩
    · exact ⟨i, by omega, h⟩
theorem e_ualone {n : Nat} (hn : 200 ≤ n) {nT : Nat} {l : List In} (hl : l.length ≤ 100) {out : List Row} {v : List Int} (hv : v.length = nT ∧ ∀ i : Int, 0 ≤ i → i < nT → Bits (v.getD i.toNat 0) (rowOf out i))
    (hp : ∀ i < l.length, okParts nT (l.getD i i0)) : Ev (sunroll_alone n l v) fun b => b = true ↔ okAlone out l := by
  unfold sunroll_alone
  refine Ev.forN l.length (fun i (x : Int × Int) => x.2 = (i : Int) ∧ Bits x.1 (have_ l i) ∧ ∀ j < i, ∀ r < 64, needs out (l.getD j i0) r = true → have_ l j r = true) (fun i x rec hi hx hrec => ?_) (fun x rec hx => ?_) n 0 _ ⟨rfl, Bits.zero.congr fun r _ => ?_, fun j h => by omega⟩ (Nat.zero_le _) (by omega)
  · obtain ⟨hv0, y⟩ := x
    obtain ⟨rfl, hb, hall⟩ := hx
    simp only at hb ⊢
    refine Ev.askT (lt_nc hi) (Ev.need (in_nc hi) ?_)
    rw [Int.toNat_natCast]
    have hpi := hp i hi
    have hsucc := have_succ l i
    have hok : okAlone out l → ∀ r < 64, needs out (l.getD i i0) r = true → have_ l i r = true := fun h => h i hi
    generalize hX : l.getD i i0 = X at *
    obtain ⟨(k : Int), (obj : Int), (g : Int), (a : Int), (b : Int), (rd : Int), (pr : Int)⟩ := X
    obtain ⟨h1, h2, h3, h4, h5⟩ := hpi
    simp only at h1 h2 h3 h4 h5 ⊢
    have hin : ∀ a : Int, 0 ≤ a ∧ a < (nT : Int) → inB a v.length = true := fun a h => by rw [inB_iff]; omega
    refine Ev.need (hin g h1) ?_
    simp only [e_uterms, bindO_s]
    refine Ev.bind (Q := fun m => Bits m fun r => rowOf out g r || (decide (0 < nTerms k) && rowOf out a r)) ?_ fun m hm => ?_
    · refine Ev.ask (fun h => ?_) fun h => Ev.some ?_
      · rw [ltI_iff] at h
        have h : 0 < nTerms k := h
        exact Ev.need (hin a (h2 h)) (Ev.some (((hv.2 g h1.1 h1.2).or (hv.2 a (h2 h).1 (h2 h).2)).congr fun r _ => by simp [h]))
      · rw [ltI_false] at h
        have h : ¬ 0 < nTerms k := Int.not_lt.mpr h
        exact (hv.2 g h1.1 h1.2).congr fun r _ => by simp [h]
    refine Ev.bind (Q := fun m => Bits m (needs out (k, obj, g, a, b, rd, pr))) ?_ fun m2 hm2 => ?_
    · refine Ev.ask (fun h => ?_) fun h => Ev.some ?_
      · rw [ltI_iff] at h
        have h : 1 < nTerms k := h
        exact Ev.need (hin b (h3 h)) (Ev.some ((hm.or (hv.2 b (h3 h).1 (h3 h).2)).congr fun r _ => by simp [needs, h]))
      · rw [ltI_false] at h
        have h : ¬ 1 < nTerms k := Int.not_lt.mpr h
        exact hm.congr fun r _ => by simp [needs, h]
    have hleft := Bits.left hm2 hb
    refine Ev.ask (fun h => Ev.some ?_) fun h => ?_
    · rw [notB_true] at h
      exact ⟨fun e => (by cases e), fun hq => absurd (hleft.mpr (hok hq)) (by rw [h]; decide)⟩
    · rw [notB_false] at h
      have hi2 := hleft.mp h
      refine Ev.bind (Q := fun m => Bits m (have_ l (i + 1))) ?_ fun m3 hm3 => ?_
      · refine Ev.ask (fun h => ?_) fun h => Ev.some ?_
        · have h0 : 0 ≤ rd := by rw [notB_true, ltI_false] at h; exact h
          exact Ev.need h (Ev.some ((hb.or (Bits.one h0 h5)).congr fun r _ => by rw [hsucc]))
        · have h0 : rd < 0 := by rw [notB_false, ltI_iff] at h; exact h
          refine hb.congr fun r _ => ?_
          rw [hsucc, decide_eq_false (show ¬ rd = (r : Int) by omega), Bool.or_false]
      · rw [wr_nc (by omega)]
        refine hrec _ ⟨rfl, hm3, fun j hj => ?_⟩
        rcases Nat.lt_or_ge j i with h6 | h6
        · exact hall j h6
        · rw [show j = i from by omega, hX]; exact hi2
  · obtain ⟨hv0, y⟩ := x
    obtain ⟨rfl, hb, hall⟩ := hx
    exact Ev.askF (lt_ec _) (Ev.some ⟨fun _ => hall, fun _ => rfl⟩)
  · unfold have_
    simp
theorem lrow_zero : (List.replicate 64 false : List Bool) = lrow fun _ => false := by rfl
theorem e_refalone {n : Nat} (hn : 8193 ≤ n) {f : Fl} (ht : okTerms f.1 f.2.2.1) (hP : f.2.2.2.1.length ≤ 6) (hl : ∀ p < f.2.2.2.1.length, (f.2.2.2.1.getD p []).length ≤ 100)
    (hp : ∀ p < f.2.2.2.1.length, ∀ i < (f.2.2.2.1.getD p []).length, okParts f.2.2.1.length ((f.2.2.2.1.getD p []).getD i i0)) : Ev (sref26_alone n f) fun b => b = true ↔ ∀ p < f.2.2.2.1.length, okAlone (hg f.2.2.1 f.2.2.1.length) (f.2.2.2.1.getD p []) := by
  obtain ⟨(w : Int), (D : List De), (T : List Te), (P : List (List In)), (R : Int)⟩ := f
  simp only at ht hP hl hp ⊢
  unfold sref26_alone
  simp only
  rw [e_refhangs hn ht, bindO_s]
  have hlen := hg_len T T.length
  generalize hg T T.length = out at *
  have hin : ∀ a : Int, 0 ≤ a ∧ a < (T.length : Int) → inB a (out.map lrow).length = true := fun a h => by rw [inB_iff, List.length_map]; omega
  have hget : ∀ a : Int, 0 ≤ a ∧ a < (T.length : Int) → (out.map lrow).getD a.toNat [] = lrow (rowOf out a) := fun a h => by rw [getD_map (by omega)]; rfl
  refine Ev.mono (Ev.all (fun p => (p : Int)) P.length (fun p => okAlone out (P.getD p [])) (fun p rec hpl h => ?_) (fun rec => ?_) n 0 (Nat.zero_le _) (by omega)) fun b hb => hb.trans ⟨fun h p hp => h p (Nat.zero_le _) hp, fun h p _ hp => h p hp⟩
  · refine Ev.askT (lt_nc hpl) ?_
    have hl' := hl p hpl
    have hp' := hp p hpl
    simp only [in_nc hpl, need_true, Int.toNat_natCast, wr_nc (show p < 9223372036854775807 by omega)]
    generalize hL : P.getD p [] = L at *
    rw [lrow_zero]
    refine Ev.forN L.length (fun i (x : List Bool × Int) => x.2 = (i : Int) ∧ x.1 = lrow (have_ L i) ∧ ∀ j < i, ∀ r < 64, needs out (L.getD j i0) r = true → have_ L j r = true) (fun i x rec_1 hi hx hrec => ?_) (fun x rec_1 hx => ?_) n 0 _ ⟨rfl, (lrow_congr fun r _ => by simp [have_] : lrow (fun _ => false) = lrow (have_ L 0)), fun j h => by omega⟩ (Nat.zero_le _) (by omega)
    · obtain ⟨hv0, y⟩ := x
      obtain ⟨rfl, rfl, hall⟩ := hx
      simp only at hall ⊢
      refine Ev.askT (lt_nc hi) (Ev.need (in_nc hi) ?_)
      rw [Int.toNat_natCast]
      have hpi := hp' i hi
      have hsucc := have_succ L i
      have hok : okAlone out L → ∀ r < 64, needs out (L.getD i i0) r = true → have_ L i r = true := fun h => h i hi
      generalize hX : L.getD i i0 = X at *
      obtain ⟨(k : Int), (obj : Int), (g : Int), (a : Int), (b : Int), (rd : Int), (pr : Int)⟩ := X
      obtain ⟨h1, h2, h3, h4, h5⟩ := hpi
      simp only [e_rterms, bindO_s] at h1 h2 h3 h4 h5 ⊢
      -- the rounds over all reads
      refine Ev.find (Q := fun b => b = true ↔ ∀ j, p ≤ j → j < P.length → okAlone out (P.getD j [])) (fun r => (r : Int)) 65 (fun r => r < 64 ∧ (needs out (k, obj, g, a, b, rd, pr) r = true → have_ L i r = true)) (fun r rec_2 hr hpr => ?_) (fun r rec_2 hr hpr hall2 => ?_) (j := 64) (by omega) (fun h => absurd h.1 (by omega)) n 0 (by omega) (by omega) (fun k hk => absurd hk (Nat.not_lt_zero _))
      · obtain ⟨hr64, hpr⟩ := hpr
        rw [ask_t (lt_nc hr64)]
        refine (bindO_eq (a := false) ?_).trans ?_
        · rw [need_t (by rw [lrow_len]; exact in_nc hr64), Int.toNat_natCast, lrow_get _ hr64]
          cases hh : have_ L i r with
          | true => rfl
          | false =>
            have hn0 : needs out (k, obj, g, a, b, rd, pr) r = false := by
              cases hn1 : needs out (k, obj, g, a, b, rd, pr) r with
              | false => rfl
              | true => rw [hpr hn1] at hh; cases hh
            rw [ask_t (b := notB false) rfl, need_t (hin g h1), hget g h1, need_t (by rw [lrow_len]; exact in_nc hr64), lrow_get _ hr64]
            simp only [needs, Bool.or_eq_false_iff] at hn0
            rw [hn0.1.1, ask_false]
            by_cases c1 : 0 < nTerms k
            · rw [ask_t (b := ltI (Int.ofNat 0) (nTerms k)) (by rw [ltI_iff]; exact c1), need_t (hin a (h2 c1)), hget a (h2 c1), need_t (by rw [lrow_len]; exact in_nc hr64), lrow_get _ hr64]
              have e1 : rowOf out a r = false := by have := hn0.1.2; rw [decide_eq_true c1] at this; simpa using this
              rw [e1, ask_false]
              by_cases c2 : 1 < nTerms k
              · rw [ask_t (b := ltI (Int.ofNat 1) (nTerms k)) (by rw [ltI_iff]; exact c2), need_t (hin b (h3 c2)), hget b (h3 c2), need_t (by rw [lrow_len]; exact in_nc hr64), lrow_get _ hr64]
                have e2 : rowOf out b r = false := by have := hn0.2; rw [decide_eq_true c2] at this; simpa using this
                rw [e2]
              · rw [ask_f (b := ltI (Int.ofNat 1) (nTerms k)) (by rw [ltI_false]; exact Int.not_lt.mp c2)]
            · rw [ask_f (b := ltI (Int.ofNat 0) (nTerms k)) (by rw [ltI_false]; exact Int.not_lt.mp c1), ask_f (b := ltI (Int.ofNat 1) (nTerms k)) (by rw [ltI_false]; show nTerms k ≤ 1; omega)]
        · exact congrArg rec_2 (wr_nc (by omega))
      · by_cases hr64 : r < 64
        · have hbad : needs out (k, obj, g, a, b, rd, pr) r = true ∧ have_ L i r = false := by
            cases h7 : needs out (k, obj, g, a, b, rd, pr) r with
            | false => exact absurd ⟨hr64, fun e => (by rw [h7] at e; cases e)⟩ hpr
            | true =>
              refine ⟨rfl, ?_⟩
              cases h8 : have_ L i r with
              | false => rfl
              | true => exact absurd ⟨hr64, fun _ => h8⟩ hpr
          refine Ev.askT (lt_nc hr64) (Ev.bind (Q := fun b => b = true) ?_ fun b hb => ?_)
          · refine Ev.need (by rw [lrow_len]; exact in_nc hr64) ?_
            rw [Int.toNat_natCast, lrow_get _ hr64, hbad.2]
            refine Ev.askT rfl (Ev.need (hin g h1) ?_)
            rw [hget g h1]
            refine Ev.need (by rw [lrow_len]; exact in_nc hr64) ?_
            rw [lrow_get _ hr64]
            have hn1 := hbad.1
            simp only [needs, Bool.or_eq_true, Bool.and_eq_true, decide_eq_true_eq] at hn1
            refine Ev.ask (fun _ => Ev.some rfl) fun g1 => ?_
            rw [g1] at hn1
            refine Ev.ask (fun c1 => ?_) fun c1 => ?_
            · have c1 : 0 < nTerms k := by rw [ltI_iff] at c1; exact c1
              refine Ev.need (hin a (h2 c1)) ?_
              rw [hget a (h2 c1)]
              refine Ev.need (by rw [lrow_len]; exact in_nc hr64) ?_
              rw [lrow_get _ hr64]
              refine Ev.ask (fun _ => Ev.some rfl) fun g2 => ?_
              rw [g2] at hn1
              simp at hn1
              refine Ev.askT (by rw [ltI_iff]; exact hn1.1) (Ev.need (hin b (h3 hn1.1)) ?_)
              rw [hget b (h3 hn1.1)]
              refine Ev.need (by rw [lrow_len]; exact in_nc hr64) ?_
              rw [lrow_get _ hr64]
              exact Ev.some hn1.2
            · have c1 : ¬ 0 < nTerms k := by rw [ltI_false] at c1; exact Int.not_lt.mpr c1
              simp [c1] at hn1
              omega
          · subst hb
            refine Ev.some ⟨fun e => (by cases e), fun hq => ?_⟩
            have := hok (by have := hq p (Nat.le_refl _) hpl; rwa [hL] at this) r hr64 hbad.1
            rw [hbad.2] at this
            cases this
        · obtain rfl : r = 64 := by omega
          refine Ev.askF (lt_ec 64) ?_
          have hi2 : ∀ r < 64, needs out (k, obj, g, a, b, rd, pr) r = true → have_ L i r = true := fun r hr => (hall2 r hr).2
          refine Ev.bind (Q := fun m => m = lrow (have_ L (i + 1))) ?_ fun m hm => ?_
          · refine Ev.ask (fun h => ?_) fun h => Ev.some ?_
            · have h0 : 0 ≤ rd := by rw [notB_true, ltI_false] at h; exact h
              refine Ev.need (by rw [inB_iff, lrow_len]; omega) (Ev.some ?_)
              rw [lrow_set _ (by omega)]
              refine lrow_congr fun r _ => ?_
              rw [hsucc]
              by_cases h6 : r = rd.toNat
              · rw [if_pos h6, decide_eq_true (show rd = (r : Int) by omega), Bool.or_true]
              · rw [if_neg h6, decide_eq_false (show ¬ rd = (r : Int) by omega), Bool.or_false]
            · have h0 : rd < 0 := by rw [notB_false, ltI_iff] at h; exact h
              refine lrow_congr fun r _ => ?_
              rw [hsucc, decide_eq_false (show ¬ rd = (r : Int) by omega), Bool.or_false]
          · rw [wr_nc (by omega), hm]
            refine hrec _ ⟨rfl, rfl, fun j hj => ?_⟩
            rcases Nat.lt_or_ge j i with h6 | h6
            · exact hall j h6
            · rw [show j = i from by omega, hX]; exact hi2
    · obtain ⟨hv0, y⟩ := x
      obtain ⟨rfl, hb, hall⟩ := hx
      refine Ev.askF (lt_ec _) ?_
      refine Ev.mono h fun b hb => hb.trans ⟨fun h j h1 h2 => ?_, fun h j h1 h2 => h j (by omega) h2⟩
      rcases Nat.lt_or_ge p j with h3 | h3
      · exact h j h3 h2
      · rw [show j = p from by omega, hL]; exact hall
  · exact ask_f (lt_ec _)
end Go.Proofs.YtfbipcdllbdijaaGreat
namespace Go.Proofs.YtfbipcdllbdijaaGreat
open Go Go.TM
def gmap {α : Type} (m : Nat) (f : Nat → α) : List α := (List.range m).map f
theorem gmap_len {α : Type} (m : Nat) (f : Nat → α) : (gmap m f).length = m := by unfold gmap; rw [List.length_map, List.length_range]
theorem gmap_get {α : Type} {m : Nat} (f : Nat → α) {r : Nat} (h : r < m) (d : α) : (gmap m f).getD r d = f r := by
  unfold gmap
  rw [List.getD_eq_getElem?_getD, List.getElem?_map, List.getElem?_range h]
  rfl
theorem gmap_set {α : Type} {m : Nat} (f : Nat → α) {r : Nat} (h : r < m) (b : α) : (gmap m f).set r b = gmap m fun s => if s = r then b else f s := by
  unfold gmap
  refine List.ext_getElem (by simp) fun i h1 h2 => ?_
  rw [List.getElem_set]
  simp only [List.getElem_map, List.getElem_range]
  by_cases hi : r = i
  · rw [if_pos hi, if_pos hi.symm]
  · rw [if_neg hi, if_neg (Ne.symm hi)]
theorem gmap_congr {α : Type} {m : Nat} {f g : Nat → α} (h : ∀ r < m, f r = g r) : gmap m f = gmap m g := by
  unfold gmap
  exact List.map_congr_left fun r hr => h r (List.mem_range.mp hr)
def cR (l : List In) (r : Int) : Nat := l.countP fun x => decide (x.2.2.2.2.2.1 = r)
def cG (l : List In) (q : Int) : Nat := l.countP fun x => decide (x.1 = 11 ∧ x.2.1 = q)
def tot (P : List (List In)) : Nat := P.flatten.length
def okF (f : Fl) : Prop := okTerms f.1 f.2.2.1 ∧ (1 ≤ f.2.2.2.1.length ∧ f.2.2.2.1.length ≤ 6) ∧ (0 ≤ f.2.2.2.2 ∧ f.2.2.2.2 ≤ 64) ∧ tot f.2.2.2.1 ≤ 64 ∧
  (∀ p < f.2.2.2.1.length, ∀ i < (f.2.2.2.1.getD p []).length, okI f.2.1 f.2.2.1.length f.2.2.2.1.length p ((f.2.2.2.1.getD p []).getD i i0) ∧ okRd f.2.2.2.2 ((f.2.2.2.1.getD p []).getD i i0) ∧ okPair (f.2.2.2.1.getD p []) i) ∧
  (∀ r : Nat, r < 64 → (r : Int) < f.2.2.2.2 → cR f.2.2.2.1.flatten r = 1) ∧ (∀ q : Nat, q < 6 → cG f.2.2.2.1.flatten q ≤ 1) ∧ ∀ p < f.2.2.2.1.length, okAlone (hg f.2.2.1 f.2.2.1.length) (f.2.2.2.1.getD p [])
theorem take_flat {P : List (List In)} {p : Nat} (h : p < P.length) : (P.take (p + 1)).flatten = (P.take p).flatten ++ P.getD p [] := by
  rw [List.take_succ_eq_append_getElem h, List.flatten_append, List.getD_eq_getElem?_getD, List.getElem?_eq_getElem h]
  simp
theorem flat_le {P : List (List In)} (p : Nat) : (P.take p).flatten.length ≤ tot P := by
  unfold tot
  conv => rhs; rw [← List.take_append_drop p P, List.flatten_append, List.length_append]
  omega
theorem flat_small {P : List (List In)} (hl : ∀ p < P.length, (P.getD p []).length ≤ 100) : ∀ p, p ≤ P.length → (P.take p).flatten.length ≤ 100 * p
  | 0, _ => by simp
  | p + 1, h => by
    rw [take_flat (by omega), List.length_append]
    have := flat_small hl p (by omega)
    have := hl p (by omega)
    omega
theorem cR_app (l : List In) (x : In) (r : Int) : cR (l ++ [x]) r = cR l r + (if x.2.2.2.2.2.1 = r then 1 else 0) := by
  unfold cR
  rw [List.countP_append, List.countP_cons, List.countP_nil, Nat.zero_add]
  by_cases h : x.2.2.2.2.2.1 = r <;> simp [h]
theorem cG_app (l : List In) (x : In) (r : Int) : cG (l ++ [x]) r = cG l r + (if x.1 = 11 ∧ x.2.1 = r then 1 else 0) := by
  unfold cG
  rw [List.countP_append, List.countP_cons, List.countP_nil, Nat.zero_add]
  by_cases h : x.1 = 11 ∧ x.2.1 = r <;> simp [h]
theorem cR_le (l : List In) (r : Int) : cR l r ≤ l.length := List.countP_le_length
theorem cG_le (l : List In) (r : Int) : cG l r ≤ l.length := List.countP_le_length
theorem take_get {L : List In} {i : Nat} (h : i < L.length) : L.take (i + 1) = L.take i ++ [L.getD i i0] := by
  rw [List.take_succ_eq_append_getElem h, List.getD_eq_getElem?_getD, List.getElem?_eq_getElem h]
  rfl
theorem e_ref26May {n : Nat} (hn : 8193 ≤ n) {f : Fl} (hl : ∀ p < f.2.2.2.1.length, (f.2.2.2.1.getD p []).length ≤ 100) : Ev (sref26_May n f) fun b => b = true ↔ okF f := by
  obtain ⟨(w : Int), (D : List De), (T : List Te), (P : List (List In)), (R : Int)⟩ := f
  simp only at hl
  unfold sref26_May
  simp only
  rw [bindO_eq (a := decide (¬ (okTerms w T ∧ (1 ≤ P.length ∧ P.length ≤ 6) ∧ (0 ≤ R ∧ R ≤ 64)))) (by
    rw [e_ref25_May hn]
    simp only [ask_ss, bindO_s, ltI_d, eqI_d, eqS_d, notB_d, andB_d, eqB_d, inB_d, leB_d, ble_d, Int.ofNat_eq_natCast, Int.cast_ofNat_Int]
    refine some_dec ?_
    by_cases h : okTerms w T <;> simp [h] <;> omega)]
  refine Ev.stage (P := True) (fun h => ?_) fun h => ?_
  · intro hq
    exact of_decide_eq_true h ⟨hq.1, hq.2.1, hq.2.2.1⟩
  obtain ⟨hT, hP, hR⟩ := Classical.not_not.mp (of_decide_eq_false h)
  clear h
  have hsm := flat_small hl
  refine Ev.forN P.length (fun p (x : Int × List Int × List Int × Int) => x.1 = ((P.take p).flatten.length : Int) ∧ x.2.2.2 = (p : Int) ∧ x.2.1.length = 64 ∧ x.2.2.1.length = 6 ∧
      ((P.take p).flatten.length ≤ 64 → x.2.1 = gmap 64 (fun r => (cR (P.take p).flatten r : Int)) ∧ x.2.2.1 = gmap 6 (fun q => (cG (P.take p).flatten q : Int)) ∧
        ∀ p' < p, ∀ i < (P.getD p' []).length, okI D T.length P.length p' ((P.getD p' []).getD i i0) ∧ okRd R ((P.getD p' []).getD i i0) ∧ okPair (P.getD p' []) i)) (fun p x rec hp hx hrec => ?_) (fun x rec hx => ?_) n 0 _ ⟨rfl, rfl, rfl, rfl, fun _ => ⟨by rfl, by rfl, fun p' h => absurd h (Nat.not_lt_zero _)⟩⟩ (Nat.zero_le _) (by omega)
  · obtain ⟨t, met, gone, y⟩ := x
    obtain ⟨rfl, rfl, hm, hgo, hx⟩ := hx
    simp only at hm hgo hx ⊢
    refine Ev.askT (lt_nc hp) (Ev.need (in_nc hp) ?_)
    simp only [in_nc hp, need_true, Int.toNat_natCast, wr_nc (show p < 9223372036854775807 by omega)]
    have htf := take_flat hp
    have hlp := hl p hp
    have hsp := hsm p (by omega)
    have hinst := fun i hi => e_inst (n := n) (by omega) (w, D, T, P, R) p i hp hlp hi
    simp only at hinst
    have hq : okF (w, D, T, P, R) → (P.take (p + 1)).flatten.length ≤ 64 ∧ ∀ i < (P.getD p []).length, okI D T.length P.length p ((P.getD p []).getD i i0) ∧ okRd R ((P.getD p []).getD i i0) ∧ okPair (P.getD p []) i :=
      fun h => ⟨Nat.le_trans (flat_le (P := P) (p + 1)) h.2.2.2.1, h.2.2.2.2.1 p hp⟩
    generalize hL : P.getD p [] = L at *
    have hsum : wr IntKind.i64 (Int.add ((P.take p).flatten.length : Int) (Int.ofNat L.length)) = ((P.take (p + 1)).flatten.length : Int) := by
      rw [htf, List.length_append]
      exact wr_nat (n := (P.take p).flatten.length + L.length) (by omega)
    simp only [hsum]
    by_cases h64 : (P.take (p + 1)).flatten.length ≤ 64
    · have h64' : (P.take p).flatten.length ≤ 64 := by rw [htf, List.length_append] at h64; omega
      obtain ⟨rfl, rfl, hall⟩ := hx h64'
      refine Ev.forN L.length (fun i (x : List Int × List Int × Int) => x.2.2 = (i : Int) ∧ x.1 = gmap 64 (fun r => (cR ((P.take p).flatten ++ L.take i) r : Int)) ∧ x.2.1 = gmap 6 (fun q => (cG ((P.take p).flatten ++ L.take i) q : Int)) ∧
        ∀ j < i, okI D T.length P.length p (L.getD j i0) ∧ okRd R (L.getD j i0) ∧ okPair L j) (fun i x rec_1 hi hx hrec1 => ?_) (fun x rec_1 hx => ?_) n 0 _ ⟨rfl, by simp, by simp, fun j h => absurd h (Nat.not_lt_zero _)⟩ (Nat.zero_le _) (by omega)
      · obtain ⟨met, gone, y⟩ := x
        obtain ⟨rfl, rfl, rfl, hx⟩ := hx
        simp only at hx ⊢
        rw [ask_t (lt_nc hi), bindO_s]
        refine Ev.askT (by rw [notB_true, ltI_false]; show ((P.take (p + 1)).flatten.length : Int) ≤ 64; omega) ?_
        rw [hinst i hi, bindO_s]
        have hlen3 : ((P.take p).flatten ++ L.take i).length ≤ 64 := by
          have : (L.take i).length ≤ L.length := by rw [List.length_take]; omega
          rw [htf, List.length_append] at h64
          rw [List.length_append]
          omega
        have htg := take_get hi
        by_cases hok : okI D T.length P.length p (L.getD i i0) ∧ okRd R (L.getD i i0) ∧ okPair L i
        · rw [decide_eq_true hok]
          refine Ev.askF rfl (Ev.need (in_nc hi) ?_)
          simp only [Int.toNat_natCast]
          have hpi := okParts_of hok.1 hok.2.1 hR.2
          have hob := hok.1.2.1
          have hxs : ∀ j < i + 1, okI D T.length P.length p (L.getD j i0) ∧ okRd R (L.getD j i0) ∧ okPair L j := fun j hj => by
            rcases Nat.lt_or_ge j i with h3 | h3
            · exact hx j h3
            · rw [show j = i from by omega]; exact hok
          have hcR : ∀ r, cR ((P.take p).flatten ++ L.take (i + 1)) r = cR ((P.take p).flatten ++ L.take i) r + (if (L.getD i i0).2.2.2.2.2.1 = r then 1 else 0) := fun r => by rw [htg, ← List.append_assoc, cR_app]
          have hcG : ∀ r, cG ((P.take p).flatten ++ L.take (i + 1)) r = cG ((P.take p).flatten ++ L.take i) r + (if (L.getD i i0).1 = 11 ∧ (L.getD i i0).2.1 = r then 1 else 0) := fun r => by rw [htg, ← List.append_assoc, cG_app]
          generalize L.getD i i0 = X at *
          obtain ⟨(k : Int), (obj : Int), (g : Int), (a : Int), (b : Int), (rd : Int), (pr : Int)⟩ := X
          simp only at hcR hcG hob hpi ⊢
          refine Ev.bind (Q := fun m => m = gmap 64 (fun r => (cR ((P.take p).flatten ++ L.take (i + 1)) r : Int))) ?_ fun m hm2 => ?_
          · refine Ev.ask (fun h => ?_) fun h => Ev.some ?_
            · have h0 : 0 ≤ rd := by rw [notB_true, ltI_false] at h; exact h
              have hb := hpi.2.2.2.2
              simp only at hb
              refine Ev.need (by rw [inB_iff, gmap_len]; omega) (Ev.need (by rw [inB_iff, gmap_len]; omega) (Ev.some ?_))
              have hc := cR_le ((P.take p).flatten ++ L.take i) (rd.toNat : Nat)
              rw [gmap_get _ (by omega), wr_nc (by omega), gmap_set _ (by omega)]
              refine gmap_congr fun r hr => ?_
              rw [hcR]
              by_cases h6 : r = rd.toNat
              · rw [if_pos h6, if_pos (show rd = (r : Int) by omega), h6]
              · rw [if_neg h6, if_neg (show ¬ rd = (r : Int) by omega)]
                rfl
            · have h0 : rd < 0 := by rw [notB_false, ltI_iff] at h; exact h
              refine gmap_congr fun r hr => ?_
              rw [hcR, if_neg (show ¬ rd = (r : Int) by omega)]
              rfl
          refine Ev.bind (Q := fun m => m = gmap 6 (fun q => (cG ((P.take p).flatten ++ L.take (i + 1)) q : Int))) ?_ fun m3 hm3 => ?_
          · refine Ev.ask (fun h => ?_) fun h => Ev.some ?_
            · have h0 : k = 11 := by rw [eqI_iff] at h; exact h
              unfold okObj at hob
              rw [if_pos h0] at hob
              refine Ev.need (by rw [inB_iff, gmap_len]; omega) (Ev.need (by rw [inB_iff, gmap_len]; omega) (Ev.some ?_))
              have hc := cG_le ((P.take p).flatten ++ L.take i) (obj.toNat : Nat)
              rw [gmap_get _ (by omega), wr_nc (by omega), gmap_set _ (by omega)]
              refine gmap_congr fun r hr => ?_
              rw [hcG]
              by_cases h6 : r = obj.toNat
              · rw [if_pos h6, if_pos ⟨h0, show obj = (r : Int) by omega⟩, h6]
              · rw [if_neg h6, if_neg (show ¬ (k = 11 ∧ obj = (r : Int)) by omega)]
                rfl
            · have h0 : k ≠ 11 := by rw [eqI_false] at h; exact h
              refine gmap_congr fun r hr => ?_
              rw [hcG, if_neg (show ¬ (k = 11 ∧ obj = (r : Int)) by omega)]
              rfl
          rw [wr_nc (by omega), hm2, hm3]
          exact hrec1 _ ⟨rfl, rfl, rfl, hxs⟩
        · rw [decide_eq_false hok]
          refine Ev.askT rfl (Ev.some ⟨fun e => (by cases e), fun hq' => absurd ((hq hq').2 i hi) hok⟩)
      · obtain ⟨met, gone, y⟩ := x
        obtain ⟨rfl, rfl, rfl, hx⟩ := hx
        simp only at hx ⊢
        rw [ask_f (lt_ec _), bindO_s, ask_false]
        refine hrec _ ⟨rfl, rfl, gmap_len _ _, gmap_len _ _, fun _ => ⟨by rw [htf, List.take_length], by rw [htf, List.take_length], fun p' hp' i hi => ?_⟩⟩
        rcases Nat.lt_or_ge p' p with h3 | h3
        · exact hall p' h3 i hi
        · obtain rfl : p' = p := by omega
          rw [hL] at hi ⊢
          exact hx i hi
    · obtain ⟨m, rfl⟩ : ∃ m, n = m + 1 := ⟨n - 1, by omega⟩
      rw [iter_s]
      simp only
      rw [bindO_eq (a := false) (by
        rw [show notB (ltI (Int.ofNat 64) ((P.take (p + 1)).flatten.length : Int)) = false from by rw [notB_false, ltI_iff]; show (64 : Int) < _; omega]
        rw [ask_ss]
        simp), ask_false]
      exact hrec _ ⟨rfl, rfl, hm, hgo, fun h => absurd h h64⟩
  · obtain ⟨t, met, gone, y⟩ := x
    obtain ⟨rfl, rfl, hm, hgo, hx⟩ := hx
    simp only at hm hgo hx ⊢
    refine Ev.askF (lt_ec _) ?_
    rw [List.take_length] at hx ⊢
    refine Ev.mono (Ev.allE (fun r => (r : Int)) 64 (fun r => (r : Int) < R → met.getD r 0 = 1) ((∀ q < 6, gone.getD q 0 ≤ 1) ∧ P.flatten.length ≤ 64 ∧ ∀ p < P.length, okAlone (hg T T.length) (P.getD p [])) (fun r rec hr h => ?_) (fun rec => ?_) n 0 (Nat.zero_le _) (by omega)) fun b hb => hb.trans ?_
    · rw [ask_t (lt_nc hr)]
      simp only [Int.toNat_natCast, wr_nc (show r < 9223372036854775807 by omega)]
      rw [bindO_eq (a := decide (¬ ((r : Int) < R → met.getD r 0 = 1)))]
      · exact Ev.roundEN hr (by rw [decide_eq_true_eq]) h
      · rw [need_t (by rw [inB_nat, hm]; exact hr), ask_ss, ltI_d, notB_d, eqI_d]
        refine some_dec ?_
        show (if decide ((r : Int) < R) = true then !decide (met.getD r 0 = 1) else false) = true ↔ _
        by_cases h1 : (r : Int) < R <;> simp [h1]
    · refine Ev.askF (lt_ec 64) ?_
      refine Ev.mono (Ev.allE (fun q => (q : Int)) 6 (fun q => gone.getD q 0 ≤ 1) (P.flatten.length ≤ 64 ∧ ∀ p < P.length, okAlone (hg T T.length) (P.getD p [])) (fun q rec2 hq h => ?_) (fun rec2 => ?_) n 0 (Nat.zero_le _) (by omega)) fun b hb => hb.trans ⟨fun h => ⟨fun q hq => h.1 q (Nat.zero_le _) hq, h.2⟩, fun h => ⟨fun q _ hq => h.1 q hq, h.2⟩⟩
      · rw [ask_t (lt_nc hq), need_t (by rw [inB_nat, hgo]; exact hq), Int.toNat_natCast, wr_nc (by omega)]
        refine Ev.roundEN hq ?_ h
        rw [ltI_iff]
        show (1 : Int) < gone.getD q 0 ↔ _
        omega
      · refine Ev.askF (lt_ec 6) (Ev.bind (Q := fun b => b = true ↔ _) ?_ fun b hb => Ev.some hb)
        refine Ev.ask (fun h => ?_) fun h => Ev.some ?_
        · have h64 : P.flatten.length ≤ 64 := by
            rw [notB_true, ltI_false] at h
            have h : (P.flatten.length : Int) ≤ 64 := h
            omega
          obtain ⟨_, _, h5⟩ := hx h64
          refine Ev.bind (e_refalone hn (f := (w, D, T, P, R)) hT hP.2 hl fun p hp i hi => okParts_of (h5 p hp i hi).1 (h5 p hp i hi).2.1 hR.2) fun b hb => Ev.some (hb.trans ⟨fun h => ⟨h64, h⟩, fun h => h.2⟩)
        · rw [notB_false, ltI_iff] at h
          have h : (64 : Int) < P.flatten.length := h
          exact ⟨fun e => (by cases e), fun hq => by omega⟩
    · constructor
      · rintro ⟨h1, h2, h3, h4⟩
        obtain ⟨rfl, rfl, h5⟩ := hx h3
        refine ⟨hT, hP, hR, h3, h5, fun r hr hrR => ?_, fun q hq => ?_, h4⟩
        · have := h1 r (Nat.zero_le _) hr hrR
          rw [gmap_get _ hr] at this
          exact Int.ofNat.inj this
        · have := h2 q hq
          rw [gmap_get _ hq] at this
          exact Int.ofNat_le.mp this
      · rintro ⟨_, _, _, h3, h5, h6, h7, h8⟩
        obtain ⟨rfl, rfl, _⟩ := hx h3
        refine ⟨fun r _ hr hrR => ?_, fun q hq => ?_, h3, h8⟩
        · rw [gmap_get _ hr, show cR P.flatten (r : Nat) = 1 from h6 r hr hrR]
          rfl
        · rw [gmap_get _ hq]
          exact Int.ofNat_le.mpr (h7 q hq)
end Go.Proofs.YtfbipcdllbdijaaGreat
namespace Go.Proofs.YtfbipcdllbdijaaGreat
open Go Go.TM
theorem nodup_le {α : Type} [DecidableEq α] : ∀ {A B : List α}, A.Nodup → (∀ a ∈ A, a ∈ B) → A.length ≤ B.length
  | [], _, _, _ => Nat.zero_le _
  | a :: A, B, hn, hs => by
    rw [List.nodup_cons] at hn
    have ha := hs a (by simp)
    have := nodup_le (A := A) (B := B.erase a) hn.2 fun b hb => by
      have hne : b ≠ a := fun e => hn.1 (e ▸ hb)
      exact (List.mem_erase_of_ne hne).mpr (hs b (by simp [hb]))
    rw [List.length_erase_of_mem ha] at this
    have := List.length_pos_of_mem ha
    simp
    omega
def keysM {β : Type} (m : List (Int × β)) : List Int := m.map Prod.fst
theorem look_put {β : Type} (k q : Int) (b : β) : ∀ m : List (Int × β), lookM (putM m k b) q = if q = k then some b else lookM m q
  | [] => by
    show lookM [(k, b)] q = _
    unfold lookM
    by_cases h : q = k
    · subst h; rw [show eqI q q = true from by rw [eqI_iff]]; simp
    · rw [show eqI k q = false from by rw [eqI_false]; exact fun e => h e.symm, if_neg h]
      rfl
  | (a, c) :: r => by
    unfold putM
    by_cases ha : a = k
    · subst ha
      rw [show eqI a a = true from by rw [eqI_iff]]
      simp only
      unfold lookM
      by_cases h : q = a
      · subst h; rw [show eqI q q = true from by rw [eqI_iff]]; simp
      · rw [show eqI a q = false from by rw [eqI_false]; exact fun e => h e.symm, if_neg h]
    · rw [show eqI a k = false from by rw [eqI_false]; exact ha]
      simp only
      unfold lookM
      by_cases h : a = q
      · subst h; rw [show eqI a a = true from by rw [eqI_iff]]; simp [ha]
      · rw [show eqI a q = false from by rw [eqI_false]; exact h]
        simp only
        exact look_put k q b r
theorem keys_put {β : Type} (k : Int) (b : β) : ∀ m : List (Int × β), keysM (putM m k b) = if k ∈ keysM m then keysM m else keysM m ++ [k]
  | [] => by simp [keysM, putM]
  | (a, c) :: r => by
    unfold putM
    by_cases ha : a = k
    · subst ha
      rw [show eqI a a = true from by rw [eqI_iff]]
      simp [keysM]
    · rw [show eqI a k = false from by rw [eqI_false]; exact ha]
      simp only
      have := keys_put k b r
      unfold keysM at this ⊢
      rw [List.map_cons, this, List.map_cons]
      simp only [List.mem_cons, Ne.symm ha, false_or]
      split <;> rfl
theorem keys_del {β : Type} (k : Int) : ∀ m : List (Int × β), keysM (delM m k) = (keysM m).erase k
  | [] => rfl
  | (a, c) :: r => by
    unfold delM
    by_cases ha : a = k
    · subst ha
      rw [show eqI a a = true from by rw [eqI_iff]]
      simp [keysM]
    · rw [show eqI a k = false from by rw [eqI_false]; exact ha]
      simp only
      have := keys_del k r
      unfold keysM at this ⊢
      rw [List.map_cons, this, List.map_cons, List.erase_cons_tail (by simpa using ha)]
theorem pickAny_eq {A R : Type} {l : List A} {x : Option R} {f : A → List A → Option R} {r : R} (hl : l ≠ []) (key : ∀ (i : Nat) (a : A), l[i]? = some a → f a (l.eraseIdx i) = some r) : pickAny l x f = some r := by
  unfold pickAny
  rw [if_neg hl, dif_pos ⟨r, key⟩]
  have hlen : 0 < l.length := List.length_pos_iff.mpr hl
  have hc := Classical.choose_spec (p := fun r => ∀ (i : Nat) (a : A), l[i]? = some a → f a (l.eraseIdx i) = some r) ⟨r, key⟩ 0 l[0] (List.getElem?_eq_getElem hlen)
  rw [key 0 l[0] (List.getElem?_eq_getElem hlen)] at hc
  exact hc.symm
theorem pickAny_nil {A R : Type} {x : Option R} {f : A → List A → Option R} : pickAny [] x f = x := by
  unfold pickAny
  rw [if_pos rfl]
theorem pick_bad {R : Int} {fin : Option Int} : ∀ (n : Nat) (l : List (Int × Bool)), l.length < n → (∃ d ∈ l, ¬ d.1 < R) →
    iter (fun (x : List (Int × Bool)) rec => pickAny x fin fun d l => TM.ask (notB (ltI d.1 R)) (some (Int.ofNat 1)) (rec l)) n l = some 1
  | 0, l, h, _ => absurd h (Nat.not_lt_zero _)
  | n + 1, l, h, hb => by
    rw [iter_s]
    obtain ⟨d, hd, hbad⟩ := hb
    refine pickAny_eq (List.ne_nil_of_mem hd) fun i a hi => ?_
    have hil : i < l.length := by
      rcases Nat.lt_or_ge i l.length with h1 | h1
      · exact h1
      · rw [List.getElem?_eq_none h1] at hi; cases hi
    by_cases ha : a.1 < R
    · rw [ask_f (by rw [notB_false, ltI_iff]; exact ha)]
      refine pick_bad n (l.eraseIdx i) (by rw [List.length_eraseIdx_of_lt hil]; omega) ⟨d, ?_, hbad⟩
      obtain ⟨j, hj, rfl⟩ := List.mem_iff_getElem.mp hd
      refine List.mem_eraseIdx_iff_getElem.mpr ⟨j, hj, fun e => ?_, rfl⟩
      subst e
      rw [List.getElem?_eq_getElem hj] at hi
      injection hi with hi
      rw [hi] at hbad
      exact hbad ha
    · rw [ask_t (by rw [notB_true, ltI_false]; omega)]
      rfl
theorem pick_all {R : Int} {fin : Option Int} {v : Int} (hf : fin = some v) : ∀ (n : Nat) (l : List (Int × Bool)), l.length < n →
    iter (fun (x : List (Int × Bool)) rec => pickAny x fin fun d l => TM.ask (notB (ltI d.1 R)) (some (Int.ofNat 1)) (rec l)) n l = if (∀ d ∈ l, d.1 < R) then some v else some 1
  | 0, l, h => absurd h (Nat.not_lt_zero _)
  | n + 1, l, h => by
    rw [iter_s]
    by_cases hl : l = []
    · subst hl
      rw [pickAny_nil, hf]
      simp
    · have hlen : 0 < l.length := List.length_pos_iff.mpr hl
      have key : ∀ (i : Nat) (a : Int × Bool), l[i]? = some a → TM.ask (notB (ltI a.1 R)) (some (Int.ofNat 1)) (iter (fun (x : List (Int × Bool)) rec => pickAny x fin fun d l => TM.ask (notB (ltI d.1 R)) (some (Int.ofNat 1)) (rec l)) n (l.eraseIdx i)) = some (if (∀ d ∈ l, d.1 < R) then v else 1) := by
        intro i a hi
        have hil : i < l.length := by
          rcases Nat.lt_or_ge i l.length with h1 | h1
          · exact h1
          · rw [List.getElem?_eq_none h1] at hi; cases hi
        rw [pick_all hf n (l.eraseIdx i) (by rw [List.length_eraseIdx_of_lt hil]; omega)]
        have ha : a ∈ l := List.mem_of_getElem? hi
        by_cases hbad : a.1 < R
        · rw [ask_f (by rw [notB_false, ltI_iff]; exact hbad)]
          have : (∀ d ∈ l.eraseIdx i, d.1 < R) ↔ (∀ d ∈ l, d.1 < R) := by
            constructor
            · intro h2 d hd
              obtain ⟨j, hj, rfl⟩ := List.mem_iff_getElem.mp hd
              by_cases hji : j = i
              · subst hji
                rw [List.getElem?_eq_getElem hj] at hi
                injection hi with hi
                rw [hi]; exact hbad
              · exact h2 _ (List.mem_eraseIdx_iff_getElem.mpr ⟨j, hj, hji, rfl⟩)
            · intro h2 d hd
              exact h2 d (List.mem_of_mem_eraseIdx hd)
          by_cases hall : ∀ d ∈ l, d.1 < R
          · rw [if_pos (this.mpr hall), if_pos hall]
          · rw [if_neg fun h => hall (this.mp h), if_neg hall]
        · rw [ask_t (by rw [notB_true, ltI_false]; omega), if_neg fun h => hbad (h a ha)]
          rfl
      rw [pickAny_eq hl key]
      split <;> rfl
end Go.Proofs.YtfbipcdllbdijaaGreat
namespace Go.Proofs.YtfbipcdllbdijaaGreat
open Go Go.TM
noncomputable section
--GEN
theorem check_eq (n : Nat) (x0 : tFlat.D) : sunroll_Check n x0 =   iter
  (fun x rec =>
  TM.ask (ltI x (Int.ofNat ((List.length x0.2.1))))
  (need (inB x ((List.length x0.2.1)))
  (TM.ask (eqS ((List.getD x0.2.1 ((Int.toNat x)) (Int.ofNat 0, ([] : List Int), Int.ofNat 0, Int.ofNat 0))).2.1 [Int.ofNat 112])
  (bindO
  (TM.ask (notB (ltI x (Int.ofNat 0)))
  (iter
  (fun x rec =>
  bindO
  (iter
  (fun x_1 rec =>
  TM.ask (ltI x_1 (Int.ofNat ((List.length x0.2.1))))
  (need (inB x_1 ((List.length x0.2.1)))
  (need (inB (Int.ofNat 0) ((List.length x.2.2)))
  (TM.ask
  (eqS ((List.getD x0.2.1 ((Int.toNat x_1)) (Int.ofNat 0, ([] : List Int), Int.ofNat 0, Int.ofNat 0))).2.1
  ((List.getD x.2.2 0 (([] : List Int), ([] : List (Int × List Int × List Int × List (Int × List Int × Int × List Int × List PUnit × Int) × List PUnit × List PUnit × Int)), Int.ofNat 0))).1)
  (TM.ask (notB (ltI x_1 (Int.ofNat 0)))
  (need (inB (Int.ofNat 0) ((List.length x.2.2)))
  (some
  (ltI
  (Int.ofNat
  ((List.length ((List.getD x.2.2 0 (([] : List Int), ([] : List (Int × List Int × List Int × List (Int × List Int × Int × List Int × List PUnit × Int) × List PUnit × List PUnit × Int)),
  Int.ofNat 0))).1)))
  (Int.ofNat 12))))
  (some false))
  (rec (wr IntKind.i64 (Int.add x_1 (Int.ofNat 1)))))))
  (some false))
  n (Int.ofNat 0))
  fun x_1 =>
  TM.ask x_1
  (need (inB (Int.ofNat 0) ((List.length x.2.2)))
  (need
  (Nat.ble
  ((((List.length ((List.getD x.2.2 0 (([] : List Int), ([] : List (Int × List Int × List Int × List (Int × List Int × Int × List Int × List PUnit × Int) × List PUnit × List PUnit × Int)), Int.ofNat 0))).1)) + 1))
  9223372036854775807)
  (need (inB (Int.ofNat 0) ((List.length x.2.2)))
  (rec
  (x.1, x.2.1,
  (List.set x.2.2 0 ((((List.getD x.2.2 0 (([] : List Int), ([] : List (Int × List Int × List Int × List (Int × List Int × Int × List Int × List PUnit × Int) × List PUnit × List PUnit × Int)),
  Int.ofNat 0))).1 ++ [Int.ofNat 113]),
  ((List.getD x.2.2 0 (([] : List Int), ([] : List (Int × List Int × List Int × List (Int × List Int × Int × List Int × List PUnit × Int) × List PUnit × List PUnit × Int)),
  Int.ofNat 0))).2)))))))
  (some x))
  n
  (x0.1, x0.2.1,
  [([Int.ofNat 113],
  ([Int.ofNat 112], ([] : List (Int × List Int × List Int × List (Int × List Int × Int × List Int × List PUnit × Int) × List PUnit × List PUnit × Int)), Int.ofNat 0).2)]))
  (some
  (x0.1, x0.2.1, [([Int.ofNat 112], ([] : List (Int × List Int × List Int × List (Int × List Int × Int × List Int × List PUnit × Int) × List PUnit × List PUnit × Int)), Int.ofNat 0)])))
  fun x =>
  bindO (scheck_Check n x) fun r =>
  bindO
  (TM.ask (notB (eqI r.2.2 (Int.ofNat 0))) (some true)
  (bindO (sterm_Check n x0.1 x0.2.2.1) fun r =>
  TM.ask (notB (eqI r (Int.ofNat 0))) (some true) (TM.ask (ltI (Int.ofNat ((List.length x0.2.2.2.1))) (Int.ofNat 1)) (some true) (some (ltI (Int.ofNat 6) (Int.ofNat ((List.length x0.2.2.2.1))))))))
  fun x =>
  TM.ask x (some (Int.ofNat 1))
  (chk2 n x0))
  (rec (wr IntKind.i64 (Int.add x (Int.ofNat 1))))))
  (bindO
  (scheck_Check n
  (x0.1, x0.2.1, [([Int.ofNat 112], ([] : List (Int × List Int × List Int × List (Int × List Int × Int × List Int × List PUnit × Int) × List PUnit × List PUnit × Int)), Int.ofNat 0)]))
  fun r =>
  bindO
  (TM.ask (notB (eqI r.2.2 (Int.ofNat 0))) (some true)
  (bindO (sterm_Check n x0.1 x0.2.2.1) fun r =>
  TM.ask (notB (eqI r (Int.ofNat 0))) (some true) (TM.ask (ltI (Int.ofNat ((List.length x0.2.2.2.1))) (Int.ofNat 1)) (some true) (some (ltI (Int.ofNat 6) (Int.ofNat ((List.length x0.2.2.2.1))))))))
  fun x =>
  TM.ask x (some (Int.ofNat 1))
  (chk2 n x0)))
  n (Int.ofNat 0) := rfl
--END
end
end Go.Proofs.YtfbipcdllbdijaaGreat
namespace Go.Proofs.YtfbipcdllbdijaaGreat
open Go Go.TM
def Seen (m : List (Int × Bool)) (pre : List In) : Prop := (keysM m).Nodup ∧ (∀ k, k ∈ keysM m ↔ ∃ x ∈ pre, x.2.2.2.2.2.1 = k) ∧ ∀ q, Option.getD (lookM m q) false = true ↔ ∃ x ∈ pre, x.2.2.2.2.2.1 = q
def Gone (m : List (Int × Bool)) (pre : List In) : Prop := ∀ q, Option.getD (lookM m q) false = true ↔ ∃ x ∈ pre, x.1 = 11 ∧ x.2.1 = q
def Once (pre : List In) : Prop := (∀ k, 0 ≤ k → cR pre k ≤ 1) ∧ ∀ q, cG pre q ≤ 1
theorem Seen.put {m : List (Int × Bool)} {pre : List In} (h : Seen m pre) (x : In) : Seen (putM m x.2.2.2.2.2.1 true) (pre ++ [x]) := by
  obtain ⟨h1, h2, h3⟩ := h
  refine ⟨?_, fun k => ?_, fun q => ?_⟩
  · rw [keys_put]
    split
    · exact h1
    · rename_i hne
      rw [List.nodup_append]
      refine ⟨h1, by simp, fun a ha b hb => ?_⟩
      rw [List.mem_singleton] at hb
      intro e
      rw [e, hb] at ha
      exact hne ha
  · rw [keys_put]
    have : k ∈ (if x.2.2.2.2.2.1 ∈ keysM m then keysM m else keysM m ++ [x.2.2.2.2.2.1]) ↔ k ∈ keysM m ∨ k = x.2.2.2.2.2.1 := by
      split
      · rename_i hm
        constructor
        · intro h; exact .inl h
        · rintro (h | h)
          · exact h
          · rw [h]; exact hm
      · simp
    rw [this, h2]
    constructor
    · rintro (⟨y, h5, h6⟩ | h)
      · exact ⟨y, by simp [h5], h6⟩
      · exact ⟨x, by simp, h.symm⟩
    · rintro ⟨y, h5, h6⟩
      rw [List.mem_append, List.mem_singleton] at h5
      rcases h5 with h5 | h5
      · exact .inl ⟨y, h5, h6⟩
      · rw [← h5]; exact .inr h6.symm
  · rw [look_put]
    constructor
    · intro h
      by_cases hq : q = x.2.2.2.2.2.1
      · exact ⟨x, by simp, hq.symm⟩
      · rw [if_neg hq, h3] at h
        obtain ⟨y, h5, h6⟩ := h
        exact ⟨y, by simp [h5], h6⟩
    · rintro ⟨y, h5, h6⟩
      by_cases hq : q = x.2.2.2.2.2.1
      · rw [if_pos hq]; rfl
      · rw [if_neg hq, h3]
        rw [List.mem_append, List.mem_singleton] at h5
        rcases h5 with h5 | h5
        · exact ⟨y, h5, h6⟩
        · rw [h5] at h6; exact absurd h6.symm hq
theorem Gone.put {m m' : List (Int × Bool)} {pre : List In} (h : Gone m pre) (x : In) (hm : m' = if Option.getD (lookM m x.2.1) false = true then putM m x.2.1 true else putM m x.2.1 (eqI x.1 (Int.ofNat 11))) : Gone m' (pre ++ [x]) := by
  intro q
  have hx : Option.getD (lookM m' q) false = true ↔ (Option.getD (lookM m q) false = true ∨ (x.1 = 11 ∧ x.2.1 = q)) := by
    rw [hm]
    by_cases hg : Option.getD (lookM m x.2.1) false = true
    · rw [if_pos hg, look_put]
      by_cases hq : q = x.2.1
      · subst hq
        rw [if_pos rfl]
        simp [hg]
      · rw [if_neg hq]
        simp [Ne.symm hq]
    · rw [if_neg hg, look_put]
      by_cases hq : q = x.2.1
      · subst hq
        rw [if_pos rfl]
        simp only [Option.getD_some, eqI_iff, hg, false_or, and_true, Bool.false_eq_true]
        exact Iff.rfl
      · rw [if_neg hq]
        simp [Ne.symm hq]
  rw [hx, h q]
  constructor
  · rintro (⟨y, h5, h6⟩ | h)
    · exact ⟨y, by simp [h5], h6⟩
    · exact ⟨x, by simp, h⟩
  · rintro ⟨y, h5, h6⟩
    rw [List.mem_append, List.mem_singleton] at h5
    rcases h5 with h5 | h5
    · exact .inl ⟨y, h5, h6⟩
    · rw [← h5]; exact .inr h6
theorem cR_pos {l : List In} {r : Int} : 0 < cR l r ↔ ∃ x ∈ l, x.2.2.2.2.2.1 = r := by
  unfold cR
  rw [List.countP_pos_iff]
  simp
theorem cG_pos {l : List In} {r : Int} : 0 < cG l r ↔ ∃ x ∈ l, x.1 = 11 ∧ x.2.1 = r := by
  unfold cG
  rw [List.countP_pos_iff]
  simp
theorem pre_sub {P : List (List In)} {p i : Nat} (hp : p < P.length) : ((P.take p).flatten ++ (P.getD p []).take i).Sublist P.flatten := by
  have h1 : ((P.take p).flatten ++ (P.getD p []).take i).Sublist (P.take (p + 1)).flatten := by
    rw [take_flat hp]
    exact List.Sublist.append_left (List.take_sublist _ _) _
  refine h1.trans ?_
  conv => rhs; rw [← List.take_append_drop (p + 1) P, List.flatten_append]
  exact List.sublist_append_left _ _
theorem mem_flat {P : List (List In)} {x : In} : x ∈ P.flatten ↔ ∃ p < P.length, ∃ i < (P.getD p []).length, (P.getD p []).getD i i0 = x := by
  rw [List.mem_flatten]
  constructor
  · rintro ⟨l, hl, hx⟩
    obtain ⟨p, hp, rfl⟩ := List.mem_iff_getElem.mp hl
    obtain ⟨i, hi, rfl⟩ := List.mem_iff_getElem.mp hx
    have : P.getD p [] = P[p] := by rw [List.getD_eq_getElem?_getD, List.getElem?_eq_getElem hp]; rfl
    refine ⟨p, hp, i, by rw [this]; exact hi, ?_⟩
    rw [this, List.getD_eq_getElem?_getD, List.getElem?_eq_getElem hi]
    rfl
  · rintro ⟨p, hp, i, hi, rfl⟩
    have : P.getD p [] = P[p] := by rw [List.getD_eq_getElem?_getD, List.getElem?_eq_getElem hp]; rfl
    rw [this] at hi ⊢
    refine ⟨P[p], List.getElem_mem _, ?_⟩
    rw [List.getD_eq_getElem?_getD, List.getElem?_eq_getElem hi]
    exact List.getElem_mem _
theorem bad {Q : Prop} (h : ¬ Q) : Ev (some (Int.ofNat 1)) fun r => (r = 0 ∨ r = 1) ∧ (r = 0 ↔ Q) := Ev.some ⟨.inr rfl, ⟨fun e => absurd e (by decide), fun hq => absurd hq h⟩⟩
theorem e_chk2 {n : Nat} (hn : 8193 ≤ n) {f : Fl} (hT : okTerms f.1 f.2.2.1) (hP : 1 ≤ f.2.2.2.1.length ∧ f.2.2.2.1.length ≤ 6) (hl : ∀ p < f.2.2.2.1.length, (f.2.2.2.1.getD p []).length ≤ 100) :
    Ev (chk2 n f) fun r => (r = 0 ∨ r = 1) ∧ (r = 0 ↔ okF f) := by
  obtain ⟨(w : Int), (D : List De), (T : List Te), (P : List (List In)), (R : Int)⟩ := f
  simp only at hT hP hl
  unfold chk2
  simp only
  have hsm := flat_small hl
  refine Ev.forN P.length (fun p (x : List (Int × Bool) × List (Int × Bool) × Int × Int) => x.2.2.1 = ((P.take p).flatten.length : Int) ∧ x.2.2.2 = (p : Int) ∧ Seen x.1 (P.take p).flatten ∧ Gone x.2.1 (P.take p).flatten ∧ Once (P.take p).flatten ∧
      ∀ p' < p, ∀ i < (P.getD p' []).length, okI D T.length P.length p' ((P.getD p' []).getD i i0) ∧ okPair (P.getD p' []) i) (fun p x rec hp hx hrec => ?_) (fun x rec hx => ?_) n 0 _ ⟨rfl, rfl, ?_, ?_, ?_, fun p' h => absurd h (Nat.not_lt_zero _)⟩ (Nat.zero_le _) (by omega)
  · obtain ⟨seen, gone, t, y⟩ := x
    obtain ⟨rfl, rfl, hS, hG, hO, hall⟩ := hx
    simp only at hS hG hO hall ⊢
    refine Ev.askT (lt_nc hp) (Ev.need (in_nc hp) ?_)
    simp only [Int.toNat_natCast, wr_nc (show p < 9223372036854775807 by omega)]
    have htf := take_flat hp
    have hlp := hl p hp
    have hsp := hsm p (by omega)
    have hsub : ∀ i, ((P.take p).flatten ++ (P.getD p []).take i).Sublist P.flatten := fun i => pre_sub hp
    have hq : okF (w, D, T, P, R) → (∀ i < (P.getD p []).length, okI D T.length P.length p ((P.getD p []).getD i i0) ∧ okRd R ((P.getD p []).getD i i0) ∧ okPair (P.getD p []) i) ∧ R ≤ 64 ∧ (∀ r : Nat, r < 64 → (r : Int) < R → cR P.flatten r = 1) ∧ (∀ q : Nat, q < 6 → cG P.flatten q ≤ 1) :=
      fun h => ⟨h.2.2.2.2.1 p hp, h.2.2.1.2, h.2.2.2.2.2.1, h.2.2.2.2.2.2.1⟩
    generalize hL : P.getD p [] = L at *
    refine Ev.bind (e_nested (by omega) hlp) fun b hb => Ev.ask (fun h => ?_) fun h => ?_
    · rw [notB_true] at h
      exact bad fun hF => absurd (hb.mpr fun i hi => ((hq hF).1 i hi).2.2) (by rw [h]; decide)
    rw [notB_false] at h
    have hpair := hb.mp h
    refine Ev.forN L.length (fun i (x : List (Int × Bool) × List (Int × Bool) × Int) => x.2.2 = (i : Int) ∧ Seen x.1 ((P.take p).flatten ++ L.take i) ∧ Gone x.2.1 ((P.take p).flatten ++ L.take i) ∧ Once ((P.take p).flatten ++ L.take i) ∧
        ∀ j < i, okI D T.length P.length p (L.getD j i0)) (fun i x rec_1 hi hx hrec1 => ?_) (fun x rec_1 hx => ?_) n 0 _ ⟨rfl, by simpa using hS, by simpa using hG, by simpa using hO, fun j h => absurd h (Nat.not_lt_zero _)⟩ (Nat.zero_le _) (by omega)
    · obtain ⟨seen, gone, y⟩ := x
      obtain ⟨rfl, hS, hG, hO, hx⟩ := hx
      simp only at hS hG hO hx ⊢
      refine Ev.askT (lt_nc hi) (Ev.need (in_nc hi) ?_)
      rw [Int.toNat_natCast, e_uone, bindO_s]
      simp only
      have htg := take_get hi
      have hsub2 := hsub (i + 1)
      rw [htg, ← List.append_assoc] at hsub2
      have hqi := fun h => (hq h).1 i hi
      have hcR : ∀ r, cR ((P.take p).flatten ++ L.take (i + 1)) r = cR ((P.take p).flatten ++ L.take i) r + (if (L.getD i i0).2.2.2.2.2.1 = r then 1 else 0) := fun r => by rw [htg, ← List.append_assoc, cR_app]
      have hcG : ∀ r, cG ((P.take p).flatten ++ L.take (i + 1)) r = cG ((P.take p).flatten ++ L.take i) r + (if (L.getD i i0).1 = 11 ∧ (L.getD i i0).2.1 = r then 1 else 0) := fun r => by rw [htg, ← List.append_assoc, cG_app]
      have hrec1' : ∀ (a b : List (Int × Bool)), Seen a ((P.take p).flatten ++ L.take (i + 1)) → Gone b ((P.take p).flatten ++ L.take (i + 1)) → Once ((P.take p).flatten ++ L.take (i + 1)) → okI D T.length P.length p (L.getD i i0) → Ev (rec_1 (a, b, ((i + 1 : Nat) : Int))) fun r => (r = 0 ∨ r = 1) ∧ (r = 0 ↔ okF (w, D, T, P, R)) := fun a b h1 h2 h3 h4 => hrec1 _ ⟨rfl, h1, h2, h3, fun j hj => by
        rcases Nat.lt_or_ge j i with h6 | h6
        · exact hx j h6
        · rw [show j = i from by omega]; exact h4⟩
      rw [htg, ← List.append_assoc] at hrec1' hcR hcG
      generalize L.getD i i0 = X at *
      generalize (P.take p).flatten ++ L.take i = pre at *
      obtain ⟨(k : Int), (obj : Int), (g : Int), (a : Int), (b : Int), (rd : Int), (pr : Int)⟩ := X
      simp only at hcR hcG ⊢
      by_cases hok : okI D T.length P.length p (k, obj, g, a, b, rd, pr)
      · rw [decide_eq_true hok, ask_f (b := notB true) rfl]
        refine Ev.bind (Q := fun bb => (bb = true → ¬ okF (w, D, T, P, R)) ∧ (bb = false → Once (pre ++ [(k, obj, g, a, b, rd, pr)]))) ?_ fun bb hb => Ev.ask (fun h => bad (hb.1 h)) fun h => ?_
        · have hgo : k = 11 → Option.getD (lookM gone obj) false = true → ¬ okF (w, D, T, P, R) := fun hk h hF => by
            have h1 := cG_pos.mpr ((hG obj).mp h)
            have h2 := hcG obj
            rw [if_pos ⟨hk, rfl⟩] at h2
            have h3 : cG (pre ++ [(k, obj, g, a, b, rd, pr)]) obj ≤ cG P.flatten obj := hsub2.countP_le
            have h4 : (p : Int) < obj ∧ obj < P.length := by
              have h4 := hok.2.1
              unfold okObj at h4
              rw [if_pos hk] at h4
              exact h4
            have h5 := (hq hF).2.2.2 obj.toNat (by omega)
            rw [show ((obj.toNat : Nat) : Int) = obj from by omega] at h5
            omega
          have hrd : 0 ≤ rd → Option.getD (lookM seen rd) false = true → ¬ okF (w, D, T, P, R) := fun h0 h hF => by
            have h1 := cR_pos.mpr ((hS.2.2 rd).mp h)
            have h2 := hcR rd
            rw [if_pos rfl] at h2
            have h3 : cR (pre ++ [(k, obj, g, a, b, rd, pr)]) rd ≤ cR P.flatten rd := hsub2.countP_le
            have h4 : rd < R := (hqi hF).2.1 h0
            have h6 := (hq hF).2.1
            have h5 := (hq hF).2.2.1 rd.toNat (by omega) (by omega)
            rw [show ((rd.toNat : Nat) : Int) = rd from by omega] at h5
            omega
          have honce : (k = 11 → Option.getD (lookM gone obj) false = false) → (0 ≤ rd → Option.getD (lookM seen rd) false = false) → Once (pre ++ [(k, obj, g, a, b, rd, pr)]) := fun h1 h2 => by
            refine ⟨fun q h0 => ?_, fun q => ?_⟩
            · rw [hcR]
              have := hO.1 q h0
              by_cases hr : rd = q
              · subst hr
                rw [if_pos rfl]
                have : ¬ 0 < cR pre rd := fun h => by rw [(hS.2.2 rd).mpr (cR_pos.mp h)] at h2; exact absurd (h2 h0) (by decide)
                omega
              · rw [if_neg hr]; exact this
            · rw [hcG]
              have := hO.2 q
              by_cases hr : k = 11 ∧ obj = q
              · obtain ⟨hk, rfl⟩ := hr
                rw [if_pos ⟨hk, rfl⟩]
                have : ¬ 0 < cG pre obj := fun h => by rw [(hG obj).mpr (cG_pos.mp h)] at h1; exact absurd (h1 hk) (by decide)
                omega
              · rw [if_neg hr]; exact this
          refine Ev.ask (fun h1 => ?_) fun h1 => ?_
          · have h0 : 0 ≤ rd := by rw [notB_true, ltI_false] at h1; exact h1
            refine Ev.ask (fun h2 => Ev.some ⟨fun _ => hrd h0 h2, fun e => (by cases e)⟩) fun h2 => Ev.ask (fun h3 => Ev.some ⟨fun e => hgo (by rw [eqI_iff] at h3; exact h3) e, fun e => honce (fun _ => e) fun _ => h2⟩) fun h3 => Ev.some ⟨fun e => (by cases e), fun _ => honce (fun hk => ?_) fun _ => h2⟩
            rw [eqI_false] at h3
            exact absurd hk h3
          · have h0 : ¬ 0 ≤ rd := by rw [notB_false, ltI_iff] at h1; exact Int.not_le.mpr h1
            refine Ev.ask (fun h3 => Ev.some ⟨fun e => hgo (by rw [eqI_iff] at h3; exact h3) e, fun e => honce (fun _ => e) fun h => absurd h h0⟩) fun h3 => Ev.some ⟨fun e => (by cases e), fun _ => honce (fun hk => ?_) fun h => absurd h h0⟩
            rw [eqI_false] at h3
            exact absurd hk h3
        · rw [ask_ss, bindO_s, wr_nc (by omega)]
          exact hrec1' _ _ (hS.put (k, obj, g, a, b, rd, pr)) (hG.put (k, obj, g, a, b, rd, pr) rfl) (hb.2 h) hok
      · rw [decide_eq_false hok, ask_t (b := notB false) rfl, bindO_s]
        refine Ev.askT rfl (bad fun hF => hok (hqi hF).1)
    · obtain ⟨seen, gone, y⟩ := x
      obtain ⟨rfl, hS, hG, hO, hx⟩ := hx
      simp only at hS hG hO hx ⊢
      rw [List.take_length, ← htf] at hS hG hO
      refine Ev.askF (lt_ec _) ?_
      rw [show wr IntKind.i64 (Int.add ((P.take p).flatten.length : Int) (Int.ofNat L.length)) = ((P.take (p + 1)).flatten.length : Int) from by
        rw [htf, List.length_append]
        exact wr_nat (n := (P.take p).flatten.length + L.length) (by omega)]
      refine hrec _ ⟨rfl, rfl, hS, hG, hO, fun p' hp' i hi => ?_⟩
      rcases Nat.lt_or_ge p' p with h3 | h3
      · exact hall p' h3 i hi
      · obtain rfl : p' = p := by omega
        rw [hL] at hi ⊢
        exact ⟨hx i hi, hpair i hi⟩
  · obtain ⟨seen, gone, t, y⟩ := x
    obtain ⟨rfl, rfl, hS, hG, hO, hall⟩ := hx
    rw [List.take_length] at hS hG hO ⊢
    simp only at hS hG hO hall ⊢
    refine Ev.askF (lt_ec _) ?_
    have hK := keys_del (-1) seen
    generalize hdel : delM seen (-1) = md at *
    have hK1 : (keysM md).Nodup := by rw [hK]; exact hS.1.erase _
    have hK2 : ∀ k, k ∈ keysM md ↔ 0 ≤ k ∧ ∃ x ∈ P.flatten, x.2.2.2.2.2.1 = k := fun k => by
      rw [hK, List.Nodup.mem_erase_iff hS.1, hS.2.1]
      constructor
      · rintro ⟨h1, x, hx, rfl⟩
        refine ⟨?_, x, hx, rfl⟩
        obtain ⟨p, hp, i, hi, rfl⟩ := mem_flat.mp hx
        have := (hall p hp i hi).1.2.2.2.1
        omega
      · rintro ⟨h1, h2⟩
        exact ⟨by omega, h2⟩
    have hKl : md.length = (keysM md).length := by unfold keysM; rw [List.length_map]
    have hrd : (∀ p < P.length, ∀ i < (P.getD p []).length, okRd R ((P.getD p []).getD i i0)) ↔ ∀ k ∈ keysM md, k < R := by
      constructor
      · intro h k hk
        obtain ⟨h0, x, hx, rfl⟩ := (hK2 k).mp hk
        obtain ⟨p, hp, i, hi, rfl⟩ := mem_flat.mp hx
        exact h p hp i hi h0
      · intro h p hp i hi h0
        exact h _ ((hK2 _).mpr ⟨h0, _, mem_flat.mpr ⟨p, hp, i, hi, rfl⟩, rfl⟩)
    have hrange : ∀ m : Nat, ((List.range m).map fun r : Nat => (r : Int)).Nodup ∧ ((List.range m).map fun r : Nat => (r : Int)).length = m := fun m => by
      refine ⟨?_, by simp⟩
      unfold List.Nodup
      rw [List.pairwise_map]
      exact List.Pairwise.imp (fun h e => h (Int.ofNat.inj e)) List.nodup_range
    -- all that is read is read once, just so
    have hcount : 0 ≤ R → R ≤ 64 → (∀ k ∈ keysM md, k < R) → (((keysM md).length : Int) = R ↔ ∀ r : Nat, r < 64 → (r : Int) < R → cR P.flatten r = 1) := by
      intro h0 h64 hlt
      have hle : (keysM md).length ≤ R.toNat := by
        have := nodup_le (B := (List.range R.toNat).map fun r : Nat => (r : Int)) hK1 fun k hk => by
          rw [List.mem_map]
          have h1 := (hK2 k).mp hk
          have h2 := hlt k hk
          exact ⟨k.toNat, by rw [List.mem_range]; omega, by omega⟩
        rw [(hrange _).2] at this
        exact this
      constructor
      · intro hR r hr hrR
        have h1 := hO.1 r (Int.natCast_nonneg _)
        have h2 : 0 < cR P.flatten r := by
          rw [cR_pos]
          apply Classical.byContradiction
          intro hc
          have hnot : (r : Int) ∉ keysM md := fun h => hc ((hK2 _).mp h).2
          have := nodup_le (A := (r : Int) :: keysM md) (B := (List.range R.toNat).map fun r : Nat => (r : Int)) (List.nodup_cons.mpr ⟨hnot, hK1⟩) fun k hk => by
            rw [List.mem_map]
            rcases List.mem_cons.mp hk with h | h
            · exact ⟨r, by rw [List.mem_range]; omega, h.symm⟩
            · have h1 := (hK2 k).mp h
              have h2 := hlt k h
              exact ⟨k.toNat, by rw [List.mem_range]; omega, by omega⟩
          rw [(hrange _).2, List.length_cons] at this
          omega
        omega
      · intro h
        have := nodup_le (A := (List.range R.toNat).map fun r : Nat => (r : Int)) (B := keysM md) (hrange _).1 fun k hk => by
          obtain ⟨r, hr, rfl⟩ := List.mem_map.mp hk
          rw [List.mem_range] at hr
          refine (hK2 _).mpr ⟨Int.natCast_nonneg _, cR_pos.mp ?_⟩
          rw [h r (by omega) (by omega)]
          decide
        rw [(hrange _).2] at this
        omega
    rw [bindO_eq (a := decide (¬ (tot P ≤ 64 ∧ R = md.length ∧ R ≤ 64))) (by
      simp only [ask_ss, bindO_s, ltI_d, eqI_d, eqS_d, notB_d, andB_d, eqB_d, inB_d, leB_d, ble_d, Int.ofNat_eq_natCast, Int.cast_ofNat_Int]
      refine some_dec ?_
      unfold tot
      simp only [show (Int.negSucc 0) = (-1 : Int) from rfl, hdel]
      simp
      omega)]
    refine Ev.ask (fun h => bad fun hF => ?_) fun h => ?_
    · refine of_decide_eq_true h ⟨hF.2.2.2.1, ?_, hF.2.2.1.2⟩
      have h1 := (hcount hF.2.2.1.1 hF.2.2.1.2 (hrd.mp fun p hp i hi => (hF.2.2.2.2.1 p hp i hi).2.1)).mpr hF.2.2.2.2.2.1
      rw [hKl]
      exact h1.symm
    · obtain ⟨htot, hR, hR64⟩ := Classical.not_not.mp (of_decide_eq_false h)
      have hR0 : 0 ≤ R := by omega
      simp only [show (Int.negSucc 0) = (-1 : Int) from rfl, hdel]
      by_cases hlt : ∀ k ∈ keysM md, k < R
      · have hrd' := hrd.mpr hlt
        have hcR := (hcount hR0 hR64 hlt).mp (by rw [← hKl]; exact hR.symm)
        have hF : okF (w, D, T, P, R) ↔ ∀ p < P.length, okAlone (hg T T.length) (P.getD p []) :=
          ⟨fun h => h.2.2.2.2.2.2.2, fun h => ⟨hT, hP, ⟨hR0, hR64⟩, htot, fun p hp i hi => ⟨(hall p hp i hi).1, hrd' p hp i hi, (hall p hp i hi).2⟩, hcR, fun q _ => hO.2 q, h⟩⟩
        have hfin : Ev (bindO (sunroll_hangs n T) fun r => iter (fun (x : Int) rec => TM.ask (ltI x (Int.ofNat P.length)) (need (inB x P.length) (bindO (sunroll_alone n (P.getD (Int.toNat x) []) r) fun r => TM.ask (notB r) (some (Int.ofNat 1)) (rec (wr IntKind.i64 (Int.add x (Int.ofNat 1)))))) (some (Int.ofNat 0))) n (Int.ofNat 0)) fun r => (r = 0 ∨ r = 1) ∧ (r = 0 ↔ okF (w, D, T, P, R)) := by
          refine Ev.bind (e_uhangs hn hT) fun v hv => ?_
          refine Ev.forN P.length (fun p (x : Int) => x = (p : Int) ∧ ∀ p' < p, okAlone (hg T T.length) (P.getD p' [])) (fun p x rec hp hx hrec => ?_) (fun x rec hx => ?_) n 0 _ ⟨rfl, fun p h => absurd h (Nat.not_lt_zero _)⟩ (Nat.zero_le _) (by omega)
          · obtain ⟨rfl, hx⟩ := hx
            refine Ev.askT (lt_nc hp) (Ev.need (in_nc hp) ?_)
            rw [Int.toNat_natCast]
            refine Ev.bind (e_ualone (by omega) (hl p hp) hv fun i hi => okParts_of (hall p hp i hi).1 (hrd' p hp i hi) hR64) fun b hb => Ev.ask (fun h => ?_) fun h => ?_
            · rw [notB_true] at h
              exact bad fun h2 => absurd (hb.mpr (hF.mp h2 p hp)) (by rw [h]; decide)
            · rw [notB_false] at h
              rw [wr_nc (by omega)]
              refine hrec _ ⟨rfl, fun p' hp' => ?_⟩
              rcases Nat.lt_or_ge p' p with h3 | h3
              · exact hx p' h3
              · rw [show p' = p from by omega]; exact hb.mp h
          · obtain ⟨rfl, hx⟩ := hx
            exact Ev.askF (lt_ec _) (Ev.some ⟨.inl rfl, ⟨fun _ => hF.mpr hx, fun _ => rfl⟩⟩)
        obtain ⟨v, hv1, hv2⟩ := hfin
        refine Ev.of_eq (pick_all hv1 n md (by omega)) ?_
        have hall' : ∀ d ∈ md, d.1 < R := fun d hd => hlt d.1 (List.mem_map_of_mem hd)
        rw [if_pos hall']
        exact Ev.some hv2
      · have hnF : ¬ okF (w, D, T, P, R) := fun hF => hlt (hrd.mp fun p hp i hi => (hF.2.2.2.2.1 p hp i hi).2.1)
        refine Ev.of_eq (pick_bad n md (by omega) ?_) (bad hnF)
        apply Classical.byContradiction
        intro hc
        refine hlt fun k hk => ?_
        obtain ⟨d, hd, rfl⟩ := List.mem_map.mp hk
        exact Classical.byContradiction fun h => hc ⟨d, hd, h⟩
  · exact ⟨by simp [keysM], by simp [keysM], by simp [lookM]⟩
  · intro q; simp [lookM]
  · exact ⟨fun k _ => by simp [cR], fun q => by simp [cG]⟩
end Go.Proofs.YtfbipcdllbdijaaGreat
namespace Go.Proofs.YtfbipcdllbdijaaGreat
open Go Go.TM
def okAll (f : Fl) : Prop := okDecls f.1 f.2.1 ∧ okF f
def lightF (f : Fl) : Prop := (f.2.2.1.length ≤ 2000 ∧ f.2.2.2.1.length ≤ 20 ∧ f.2.1.length ≤ 20) ∧ (∀ i < f.2.2.1.length, (f.2.2.1.getD i t0).2.1.length ≤ 20) ∧ (∀ p < f.2.2.2.1.length, (f.2.2.2.1.getD p []).length ≤ 100) ∧ short f.2.1
theorem e_Light {n : Nat} (hn : 8193 ≤ n) (f : Fl) : Ev (slaw27_Light n f) fun b => b = true ↔ lightF f := by
  obtain ⟨(w : Int), (D : List De), (T : List Te), (P : List (List In)), (R : Int)⟩ := f
  unfold slaw27_Light
  simp only
  rw [bindO_eq (a := decide (¬ (T.length ≤ 2000 ∧ P.length ≤ 20 ∧ D.length ≤ 20))) (by
    simp only [ask_ss, bindO_s, ltI_d, eqI_d, eqS_d, notB_d, andB_d, eqB_d, inB_d, leB_d, ble_d, Int.ofNat_eq_natCast, Int.cast_ofNat_Int]
    refine some_dec ?_
    simp
    omega)]
  refine Ev.stage (P := True) (fun h hq => of_decide_eq_true h hq.1) fun h => ?_
  have hs := Classical.not_not.mp (of_decide_eq_false h)
  refine Ev.mono (Ev.allE (fun i => (i : Int)) T.length (fun i => (T.getD i t0).2.1.length ≤ 20) ((∀ p < P.length, (P.getD p []).length ≤ 100) ∧ short D) (fun i rec hi h => ?_) (fun rec => ?_) n 0 (Nat.zero_le _) (by omega)) fun b hb => hb.trans ⟨fun h => ⟨hs, fun i hi => h.1 i (Nat.zero_le _) hi, h.2⟩, fun h => ⟨fun i _ hi => h.2.1 i hi, h.2.2⟩⟩
  · rw [ask_t (lt_nc hi), need_t (in_nc hi), Int.toNat_natCast, wr_nc (by omega)]
    refine Ev.roundEN hi ?_ h
    rw [ltI_iff]
    show (20 : Int) < ((T.getD i t0).2.1.length : Int) ↔ _
    omega
  · refine Ev.askF (lt_ec _) ?_
    refine Ev.mono (Ev.allE (fun i => (i : Int)) P.length (fun i => (P.getD i []).length ≤ 100) (short D) (fun i rec hi h => ?_) (fun rec => ?_) n 0 (Nat.zero_le _) (by omega)) fun b hb => hb.trans ⟨fun h => ⟨fun i hi => h.1 i (Nat.zero_le _) hi, h.2⟩, fun h => ⟨fun i _ hi => h.1 i hi, h.2⟩⟩
    · rw [ask_t (lt_nc hi), need_t (in_nc hi), Int.toNat_natCast, wr_nc (by omega)]
      refine Ev.roundEN hi ?_ h
      rw [ltI_iff]
      show (100 : Int) < ((P.getD i []).length : Int) ↔ _
      omega
    · refine Ev.askF (lt_ec _) ?_
      refine Ev.mono (Ev.all (fun i => (i : Int)) D.length (fun i => (D.getD i d0).2.1.length ≤ 100) (fun i rec hi h => ?_) (fun rec => ?_) n 0 (Nat.zero_le _) (by omega)) fun b hb => hb.trans ⟨fun h i hi => h i (Nat.zero_le _) hi, fun h i _ hi => h i hi⟩
      · rw [ask_t (lt_nc hi), need_t (in_nc hi), Int.toNat_natCast, wr_nc (by omega)]
        refine Ev.roundN hi ?_ h
        rw [ltI_iff]
        show (100 : Int) < ((D.getD i d0).2.1.length : Int) ↔ _
        omega
      · exact ask_f (lt_ec _)
theorem e_may27 {n : Nat} (hn : 8193 ≤ n) (f : Fl) : Ev (slaw27_May n f) fun b => b = true ↔ lightF f ∧ okAll f := by
  unfold slaw27_May
  refine Ev.bind (Q := fun b => b = true ↔ lightF f ∧ okAll f) ?_ fun b hb => Ev.some hb
  refine Ev.bind (e_Light hn f) fun b hb => Ev.ask (fun h => ?_) fun h => Ev.some ⟨fun e => (by cases e), fun hq => absurd (hb.mpr hq.1) (by rw [h]; decide)⟩
  have hl := hb.mp h
  rw [e_Decls (n := n) (w := f.1) (D := f.2.1) (by omega) hl.2.2.2, bindO_s]
  refine Ev.ask (fun h => ?_) fun h => Ev.some ⟨fun e => (by cases e), fun hq => absurd hq.2.1 (of_decide_eq_false h)⟩
  have h1 := of_decide_eq_true h
  rw [e_ref25_May hn, bindO_s]
  refine Ev.ask (fun h => ?_) fun h => Ev.some ⟨fun e => (by cases e), fun hq => absurd hq.2.2.1 (of_decide_eq_false h)⟩
  refine Ev.bind (e_ref26May hn (f := f) hl.2.2.1) fun b hb => Ev.some (hb.trans ⟨fun h => ⟨hl, h1, h⟩, fun h => h.2.2⟩)
noncomputable def tail (n : Nat) (x0 : Fl) (p : Pg) : Option Int := bindO (scheck_Check n p) fun r =>
  bindO (TM.ask (notB (eqI r.2.2 (Int.ofNat 0))) (some true) (bindO (sterm_Check n x0.1 x0.2.2.1) fun r => TM.ask (notB (eqI r (Int.ofNat 0))) (some true) (TM.ask (ltI (Int.ofNat x0.2.2.2.1.length) (Int.ofNat 1)) (some true) (some (ltI (Int.ofNat 6) (Int.ofNat x0.2.2.2.1.length))))))
  fun x => TM.ask x (some (Int.ofNat 1)) (chk2 n x0)
theorem e_tail {n : Nat} (hn : 8193 ≤ n) {f : Fl} (hl : lightF f) {nm : List Int} (hnm : nm.length ≤ 100) (hok : okDecls f.1 f.2.1 → okNm f.2.1 nm) (z : Int) :
    Ev (tail n f (f.1, f.2.1, [(nm, [], z)])) fun r => (r = 0 ∨ r = 1) ∧ (r = 0 ↔ okAll f) := by
  unfold tail
  refine Ev.bind (e_check (by omega) f.1 hl.1.2.2 hl.2.2.2 hnm z) fun r hr => ?_
  by_cases hd : okDecls f.1 f.2.1
  · have h0 := hr.mpr ⟨hd, hok hd⟩
    rw [ask_f (b := notB (eqI r.2.2 (Int.ofNat 0))) (by rw [notB_false, eqI_iff]; exact h0), e_term_Check hn, bindO_s]
    by_cases ht : okTerms f.1 f.2.2.1
    · rw [if_pos ht, ask_f (b := notB (eqI 0 (Int.ofNat 0))) rfl]
      by_cases hp : 1 ≤ f.2.2.2.1.length ∧ f.2.2.2.1.length ≤ 6
      · rw [ask_f (b := ltI (Int.ofNat f.2.2.2.1.length) (Int.ofNat 1)) (by rw [ltI_false]; show (1 : Int) ≤ (f.2.2.2.1.length : Int); omega), bindO_s]
        refine Ev.askF (by rw [ltI_false]; show (f.2.2.2.1.length : Int) ≤ 6; omega) ?_
        exact Ev.mono (e_chk2 hn ht hp hl.2.2.1) fun r hr => ⟨hr.1, hr.2.trans ⟨fun h => ⟨hd, h⟩, fun h => h.2⟩⟩
      · rw [bindO_eq (a := true) (by
          rw [ask_ss]
          by_cases h1 : f.2.2.2.1.length < 1
          · rw [if_pos (by rw [ltI_iff]; show (f.2.2.2.1.length : Int) < 1; omega)]
          · rw [if_neg (by rw [ltI_iff]; show ¬ (f.2.2.2.1.length : Int) < 1; omega), show ltI (Int.ofNat 6) (Int.ofNat f.2.2.2.1.length) = true from by rw [ltI_iff]; show (6 : Int) < (f.2.2.2.1.length : Int); omega])]
        exact Ev.askT rfl (bad fun h => hp h.2.2.1)
    · rw [if_neg ht, ask_t (b := notB (eqI 1 (Int.ofNat 0))) rfl, bindO_s]
      exact Ev.askT rfl (bad fun h => ht h.2.1)
  · have h0 : r.2.2 ≠ 0 := fun e => hd (hr.mp e).1
    rw [ask_t (b := notB (eqI r.2.2 (Int.ofNat 0))) (by rw [notB_true, eqI_false]; exact h0), bindO_s]
    exact Ev.askT rfl (bad fun h => hd h.1)
def qs (k : Nat) : List Int := List.replicate k 113
theorem qs_ok : ∀ k < 13, 1 ≤ k → okName (qs k) := by decide +kernel
theorem p_ok : okName [112] := by decide +kernel
theorem all_nodup : (([112] : List Int) :: (List.range 12).map fun k => qs (k + 1)).Nodup := by decide +kernel
def taken (D : List De) (nm : List Int) : Prop := ∃ i, i < D.length ∧ (D.getD i d0).2.1 = nm
theorem not_all {D : List De} (hD : D.length ≤ 12) (hp : taken D [112]) (hq : ∀ k < 13, 1 ≤ k → taken D (qs k)) : False := by
  have := nodup_le (B := D.map fun d => d.2.1) all_nodup fun a ha => by
    have ht : taken D a := by
      rcases List.mem_cons.mp ha with h | h
      · rw [h]; exact hp
      · obtain ⟨k, hk, rfl⟩ := List.mem_map.mp h
        rw [List.mem_range] at hk
        exact hq (k + 1) (by omega) (by omega)
    obtain ⟨i, hi, rfl⟩ := ht
    rw [List.mem_map]
    refine ⟨D.getD i d0, ?_, rfl⟩
    rw [List.getD_eq_getElem?_getD, List.getElem?_eq_getElem hi]
    exact List.getElem_mem _
  simp at this
  omega
theorem Ev.seek {A R : Type} {body : A → (A → Option R) → Option R} {Q : R → Prop} (st : Nat → A) (N : Nat) (p : Nat → Prop)
    (h1 : ∀ i rec, i < N → p i → body (st i) rec = rec (st (i + 1))) (h2 : ∀ i rec, i < N → ¬ p i → (∀ k < i, p k) → Ev (body (st i) rec) Q) (h3 : ∀ rec, (∀ k < N, p k) → Ev (body (st N) rec) Q) :
    ∀ n i, i ≤ N → N - i < n → (∀ k < i, p k) → Ev (iter body n (st i)) Q
  | 0, i, _, h, _ => absurd h (Nat.not_lt_zero _)
  | n + 1, i, hi, h, hk => by
    rw [iter_s]
    by_cases hlt : i < N
    · by_cases hpi : p i
      · rw [h1 i _ hlt hpi]
        refine Ev.seek st N p h1 h2 h3 n (i + 1) (by omega) (by omega) fun k hk2 => ?_
        rcases Nat.lt_or_ge k i with h3 | h3
        · exact hk k h3
        · rw [show k = i from by omega]; exact hpi
      · exact h2 i _ hlt hpi hk
    · have : i = N := by omega
      subst this
      exact h3 _ hk
theorem e_uCheck' {n : Nat} (hn : 8193 ≤ n) {f : Fl} (hl : lightF f) : Ev (sunroll_Check n f) fun r => (r = 0 ∨ r = 1) ∧ (r = 0 ↔ okAll f) := by
  rw [check_eq]
  have htail := fun nm hnm hok => e_tail (n := n) hn hl (nm := nm) hnm hok 0
  have hlD := hl.1.2.2
  unfold tail at htail
  obtain ⟨(w : Int), (D : List De), (T : List Te), (P : List (List In)), (R : Int)⟩ := f
  simp only at htail hlD ⊢
  refine Ev.seek (fun i => (i : Int)) D.length (fun i => (D.getD i d0).2.1 ≠ [112]) (fun i rec hi hp => ?_) (fun i rec hi hp _ => ?_) (fun rec hall => ?_) n 0 (Nat.zero_le _) (by omega) (fun k hk => absurd hk (Nat.not_lt_zero _))
  · rw [ask_t (lt_nc hi), need_t (in_nc hi), Int.toNat_natCast, wr_nc (by omega), ask_f (by rw [eqS_d]; exact decide_eq_false hp)]
  · have hp := Classical.not_not.mp hp
    refine Ev.askT (lt_nc hi) (Ev.need (in_nc hi) ?_)
    rw [Int.toNat_natCast]
    refine Ev.askT (by rw [eqS_d]; exact decide_eq_true hp) ?_
    rw [ask_t (b := notB (ltI (i : Int) (Int.ofNat 0))) (by rw [notB_true, ltI_false]; exact Int.natCast_nonneg _)]
    refine Ev.bind (Q := fun x => ∃ nm : List Int, nm.length ≤ 100 ∧ (okDecls w D → okNm D nm) ∧ x = (w, D, [(nm, [], 0)])) ?_ fun x hx => ?_
    · -- the name grows
      have hst : ((w, D, [([Int.ofNat 113], (([Int.ofNat 112], [], Int.ofNat 0) : Pr).2)]) : Pg) = (w, D, [(qs 1, [], 0)]) := rfl
      rw [hst]
      have hinner : ∀ k, k < 13 → Ev (iter (fun (x_1 : Int) rec => TM.ask (ltI x_1 (Int.ofNat D.length)) (need (inB x_1 D.length) (need (inB (Int.ofNat 0) ([(qs k, ([] : List (tStmt.D)), (0 : Int))] : List Pr).length) (TM.ask (eqS (D.getD (Int.toNat x_1) d0).2.1 (([(qs k, ([] : List (tStmt.D)), (0 : Int))] : List Pr).getD 0 (([] : List Int), [], Int.ofNat 0)).1)
          (TM.ask (notB (ltI x_1 (Int.ofNat 0))) (need (inB (Int.ofNat 0) ([(qs k, ([] : List (tStmt.D)), (0 : Int))] : List Pr).length) (some (ltI (Int.ofNat (([(qs k, ([] : List (tStmt.D)), (0 : Int))] : List Pr).getD 0 (([] : List Int), [], Int.ofNat 0)).1.length) (Int.ofNat 12)))) (some false)) (rec (wr IntKind.i64 (Int.add x_1 (Int.ofNat 1))))))) (some false)) n (Int.ofNat 0)) fun b => b = true ↔ taken D (qs k) ∧ k < 12 := by
        intro k hk
        refine Ev.seek (fun i => (i : Int)) D.length (fun i => (D.getD i d0).2.1 ≠ qs k) (fun i rec hi hp => ?_) (fun i rec hi hp _ => ?_) (fun rec hall => ?_) n 0 (Nat.zero_le _) (by omega) (fun k hk => absurd hk (Nat.not_lt_zero _))
        · rw [ask_t (lt_nc hi), need_t (in_nc hi), need_t (b := inB (Int.ofNat 0) ([(qs k, ([] : List (tStmt.D)), (0 : Int))] : List Pr).length) rfl, Int.toNat_natCast, wr_nc (by omega), ask_f (by rw [eqS_d]; exact decide_eq_false hp)]
        · have hp := Classical.not_not.mp hp
          refine Ev.askT (lt_nc hi) (Ev.need (in_nc hi) (Ev.need rfl ?_))
          rw [Int.toNat_natCast]
          refine Ev.askT (by rw [eqS_d]; exact decide_eq_true hp) (Ev.askT (by rw [notB_true, ltI_false]; exact Int.natCast_nonneg _) (Ev.need rfl (Ev.some ?_)))
          rw [ltI_iff]
          show ((qs k).length : Int) < 12 ↔ _
          unfold qs
          rw [List.length_replicate]
          exact ⟨fun h => ⟨⟨i, hi, hp⟩, by omega⟩, fun h => by omega⟩
        · refine Ev.askF (lt_ec _) (Ev.some ⟨fun e => (by cases e), fun h => ?_⟩)
          obtain ⟨⟨i, hi, h1⟩, _⟩ := h
          exact absurd h1 (hall i hi)
      have hfin : ∀ k, 1 ≤ k → k < 13 → (∀ m, 1 ≤ m → m < k → taken D (qs m)) → ¬ (taken D (qs k) ∧ k < 12) → ∃ nm : List Int, nm.length ≤ 100 ∧ (okDecls w D → okNm D nm) ∧ (((w, D, [(qs k, [], 0)]) : Pg) = (w, D, [(nm, [], 0)])) := by
        intro k h1 h2 h3 h4
        refine ⟨qs k, by unfold qs; rw [List.length_replicate]; omega, fun hd => ⟨qs_ok k h2 h1, fun m hm hc => ?_⟩, rfl⟩
        have ht : taken D (qs k) := ⟨m, hm, hc⟩
        obtain rfl : k = 12 := Classical.byContradiction fun h => h4 ⟨ht, by omega⟩
        refine not_all hd.2.1 ⟨i, hi, hp⟩ fun m hm1 hm2 => ?_
        rcases Nat.lt_or_ge m 12 with h5 | h5
        · exact h3 m hm2 h5
        · rw [show m = 12 from by omega]; exact ht
      refine Ev.forN 12 (fun k (x : Pg) => 1 ≤ k ∧ x = (w, D, [(qs k, [], 0)]) ∧ ∀ m, 1 ≤ m → m < k → taken D (qs m)) (fun k x rec hk hx hrec => ?_) (fun x rec hx => ?_) n 1 _ ⟨Nat.le_refl _, rfl, fun m h1 h2 => by omega⟩ (by omega) (by omega)
      · obtain ⟨hk1, rfl, hm⟩ := hx
        refine Ev.bind (hinner k (by omega)) fun b hb => Ev.ask (fun h => ?_) fun h => Ev.some (hfin k hk1 (by omega) hm fun hc => by rw [hb.mpr hc] at h; cases h)
        refine Ev.need rfl (Ev.need ?_ (Ev.need rfl (hrec _ ⟨by omega, ?_, fun m h1 h2 => ?_⟩)))
        · rw [ble_iff]
          show (qs k).length + 1 ≤ _
          unfold qs
          rw [List.length_replicate]
          omega
        · show ((w, D, [((qs k ++ [Int.ofNat 113], [], 0) : Pr)]) : Pg) = _
          rw [show qs k ++ [Int.ofNat 113] = qs (k + 1) from (List.replicate_succ' (n := k) (a := (113 : Int))).symm]
        · rcases Nat.lt_or_ge m k with h3 | h3
          · exact hm m h1 h3
          · rw [show m = k from by omega]; exact (hb.mp h).1
      · obtain ⟨hk1, rfl, hm⟩ := hx
        refine Ev.bind (hinner 12 (by omega)) fun b hb => Ev.ask (fun h => absurd (hb.mp h).2 (Nat.lt_irrefl _)) fun h => Ev.some (hfin 12 hk1 (by omega) hm fun hc => absurd hc.2 (Nat.lt_irrefl _))
    · obtain ⟨nm, h1, h2, rfl⟩ := hx
      exact htail nm h1 h2
  · refine Ev.askF (lt_ec _) ?_
    exact htail [112] (by decide) fun _ => ⟨p_ok, hall⟩
theorem e_uCheck {n : Nat} (hn : 8193 ≤ n) {f : Fl} (hl : lightF f) : ∃ r : Int, sunroll_Check n f = some r ∧ (r = 0 ∨ r = 1) ∧ (r = 0 ↔ okAll f) := by
  obtain ⟨r, h1, h2⟩ := e_uCheck' hn hl
  exact ⟨r, h1, h2⟩
end Go.Proofs.YtfbipcdllbdijaaGreat
namespace Go.Proofs.YtfbipcdllbdijaaGreat
open Go Go.TM
abbrev St : Type := List Int × List Bool × List Bool × List Int × List Int × List (List Int) × Bool
def allW (w : Int) (l : List Int) : Prop := ∀ i < l.length, word w (l.getD i 0)
instance (w : Int) (l : List Int) : Decidable (allW w l) := by unfold allW; infer_instance
def okHeld (w : Int) (nP : Nat) (d : De) (v : Int) (q : List Int) : Prop :=
  ((q.length : Int) ≤ if d.1 = 4 then d.2.2.1 else 0) ∧ allW w q ∧ (d.1 ≤ 2 → word w v) ∧ (d.1 = 3 → 0 ≤ v ∧ v ≤ nP) ∧ (d.1 = 4 → v = 0)
instance (w : Int) (nP : Nat) (d : De) (v : Int) (q : List Int) : Decidable (okHeld w nP d v q) := by unfold okHeld; infer_instance
def okLens (f : Fl) (s : St) : Prop := s.1.length = f.2.2.2.1.length ∧ s.2.1.length = f.2.2.2.1.length ∧ s.2.2.1.length = f.2.2.2.1.length ∧ (s.2.2.2.1.length : Int) = f.2.2.2.2 ∧ s.2.2.2.2.1.length = f.2.1.length ∧ s.2.2.2.2.2.1.length = f.2.1.length
instance (f : Fl) (s : St) : Decidable (okLens f s) := by unfold okLens; infer_instance
def okNext (f : Fl) (s : St) (p : Nat) : Prop := 0 ≤ s.1.getD p 0 ∧ s.1.getD p 0 ≤ ((f.2.2.2.1.getD p []).length : Int)
instance (f : Fl) (s : St) (p : Nat) : Decidable (okNext f s p) := by unfold okNext; infer_instance
def okS (f : Fl) (s : St) : Prop := okLens f s ∧ (∀ p < f.2.2.2.1.length, okNext f s p) ∧ allW f.1 s.2.2.2.1 ∧ ∀ i < f.2.1.length, okHeld f.1 f.2.2.2.1.length (f.2.1.getD i d0) (s.2.2.2.2.1.getD i 0) (s.2.2.2.2.2.1.getD i [])
instance (f : Fl) (s : St) : Decidable (okS f s) := by unfold okS; infer_instance
theorem e_word (n : Nat) {w : Int} (hw : wide w) (v : Int) : sref28_word n w v = some (decide (word w v)) := by
  unfold sref28_word
  have h1 := hw.1; have h2 := hw.2
  rw [show shlI .i64 (Int.ofNat 1) w = 2 ^ w.toNat from shl1 (by omega) (by omega)]
  rw [need_t (b := notB (ltI w (Int.ofNat 0))) (by rw [notB_true, ltI_false]; show (0 : Int) ≤ w; omega)]
  simp only [ask_ss, bindO_s, ltI_d, eqI_d, eqS_d, notB_d, andB_d, eqB_d, inB_d, leB_d, ble_d, Int.ofNat_eq_natCast, Int.cast_ofNat_Int]
  refine some_dec ?_
  simp [word]
theorem e_words {n : Nat} {w : Int} (hw : wide w) {l : List Int} (hl : l.length < n) (hl2 : l.length < 1000) : sstep_words n w l = some (decide (allW w l)) := by
  refine Ev.dec ?_
  unfold sstep_words
  have h1 := hw.1; have h2 := hw.2
  refine Ev.mono (Ev.all (fun i => (i : Int)) l.length (fun i => word w (l.getD i 0)) (fun i rec hi h => ?_) (fun rec => ?_) n 0 (Nat.zero_le _) (by omega)) fun b hb => hb.trans ⟨fun h i hi => h i (Nat.zero_le _) hi, fun h i _ hi => h i hi⟩
  · rw [ask_t (lt_nc hi), need_t (in_nc hi), Int.toNat_natCast, wr_nc (by omega)]
    rw [show shlI .i64 (Int.ofNat 1) w = 2 ^ w.toNat from shl1 (by omega) (by omega)]
    rw [need_t (b := notB (ltI w (Int.ofNat 0))) (by rw [notB_true, ltI_false]; show (0 : Int) ≤ w; omega)]
    rw [bindO_eq (a := decide (¬ word w (l.getD i 0))) (by
      simp only [ask_ss, bindO_s, ltI_d, eqI_d, eqS_d, notB_d, andB_d, eqB_d, inB_d, leB_d, ble_d, Int.ofNat_eq_natCast, Int.cast_ofNat_Int]
      refine some_dec ?_
      simp [word]
      omega)]
    rw [show notB (notB (ltI (i : Int) (Int.ofNat 0))) = false from by rw [notB_false, notB_true, ltI_false]; exact Int.natCast_nonneg _]
    exact Ev.roundN hi (by rw [decide_eq_true_eq]) h
  · exact ask_f (lt_ec _)
theorem e_lens (f : Fl) (s : St) : (TM.ask (notB (eqI (Int.ofNat s.1.length) (Int.ofNat f.2.2.2.1.length))) (some true)
    (TM.ask (notB (eqI (Int.ofNat s.2.1.length) (Int.ofNat f.2.2.2.1.length))) (some true)
    (TM.ask (notB (eqI (Int.ofNat s.2.2.1.length) (Int.ofNat f.2.2.2.1.length))) (some true)
    (TM.ask (notB (eqI (Int.ofNat s.2.2.2.1.length) f.2.2.2.2)) (some true)
    (TM.ask (notB (eqI (Int.ofNat s.2.2.2.2.1.length) (Int.ofNat f.2.1.length))) (some true) (some (notB (eqI (Int.ofNat s.2.2.2.2.2.1.length) (Int.ofNat f.2.1.length))))))))) = some (decide (¬ okLens f s)) := by
  simp only [ask_ss, bindO_s, ltI_d, eqI_d, eqS_d, notB_d, andB_d, eqB_d, inB_d, leB_d, ble_d, Int.ofNat_eq_natCast, Int.cast_ofNat_Int]
  refine some_dec ?_
  unfold okLens
  simp
  omega
theorem okAll.w {f : Fl} (h : okAll f) : wide f.1 := h.1.1
theorem okAll.d {f : Fl} (h : okAll f) : f.2.1.length ≤ 12 := h.1.2.1
theorem okAll.p {f : Fl} (h : okAll f) : 1 ≤ f.2.2.2.1.length ∧ f.2.2.2.1.length ≤ 6 := h.2.2.1
theorem okAll.r {f : Fl} (h : okAll f) : 0 ≤ f.2.2.2.2 ∧ f.2.2.2.2 ≤ 64 := h.2.2.2.1
theorem okAll.dk {f : Fl} (h : okAll f) {i : Nat} (hi : i < f.2.1.length) : okDecl f.1 (f.2.1.getD i d0) := (h.1.2.2 i hi).1
theorem okAll.len {f : Fl} (h : okAll f) {p : Nat} (hp : p < f.2.2.2.1.length) : (f.2.2.2.1.getD p []).length ≤ 64 := by
  have h1 := h.2.2.2.2.1
  have h2 := flat_le (P := f.2.2.2.1) (p + 1)
  rw [take_flat hp, List.length_append] at h2
  omega
theorem e_refMayS {n : Nat} (hn : 8193 ≤ n) {f : Fl} (hf : okAll f) (s : St) : sref28_May n f s = some (decide (okS f s)) := by
  refine Ev.dec ?_
  unfold sref28_May
  rw [bindO_eq (e_lens f s)]
  refine Ev.stage (P := True) (fun h hq => of_decide_eq_true h hq.1) fun h => ?_
  have hL := Classical.not_not.mp (of_decide_eq_false h)
  have hw := hf.w
  have hd := hf.d
  have hp := hf.p
  have hr := hf.r
  have hdk := fun i hi => hf.dk (i := i) hi
  have hlen := fun p hp => hf.len (p := p) hp
  obtain ⟨(w : Int), (D : List De), (T : List Te), (P : List (List In)), (R : Int)⟩ := f
  obtain ⟨(nx : List Int), (rs : List Bool), (mk : List Bool), (rd : List Int), (vs : List Int), (qu : List (List Int)), (fl : Bool)⟩ := s
  obtain ⟨l1, l2, l3, l4, l5, l6⟩ := hL
  simp only at l1 l2 l3 l4 l5 l6 hw hd hp hr hdk hlen ⊢
  refine Ev.mono (Ev.allE (fun p => (p : Int)) P.length (fun p => okNext (w, D, T, P, R) (nx, rs, mk, rd, vs, qu, fl) p) (allW w rd ∧ ∀ i < D.length, okHeld w P.length (D.getD i d0) (vs.getD i 0) (qu.getD i [])) (fun p rec hp h => ?_) (fun rec => ?_) n 0 (Nat.zero_le _) (by omega)) fun b hb => hb.trans ⟨fun h => ⟨⟨l1, l2, l3, l4, l5, l6⟩, fun p hp => h.1 p (Nat.zero_le _) hp, h.2⟩, fun h => ⟨fun p _ hp => h.2.1 p hp, h.2.2⟩⟩
  · rw [ask_t (lt_nc hp)]
    simp only [in_nc hp, in_nc (show p < nx.length by omega), need_true, Int.toNat_natCast, wr_nc (show p < 9223372036854775807 by omega)]
    rw [ask_ss, bindO_s]
    refine Ev.roundEN hp ?_ h
    simp only [ask_ss, bindO_s, ltI_d, eqI_d, eqS_d, notB_d, andB_d, eqB_d, inB_d, leB_d, ble_d, Int.ofNat_eq_natCast, Int.cast_ofNat_Int, okNext]
    simp
    omega
  · refine Ev.askF (lt_ec _) ?_
    obtain ⟨m, rfl⟩ : ∃ m : Nat, R = m := ⟨R.toNat, by omega⟩
    have hm : rd.length = m := by omega
    refine Ev.mono (Ev.allE (fun r => (r : Int)) m (fun r => word w (rd.getD r 0)) (∀ i < D.length, okHeld w P.length (D.getD i d0) (vs.getD i 0) (qu.getD i [])) (fun r rec hr h => ?_) (fun rec => ?_) n 0 (Nat.zero_le _) (by omega)) fun b hb => hb.trans ⟨fun h => ⟨fun i hi => h.1 i (Nat.zero_le _) (by omega), h.2⟩, fun h => ⟨fun i _ hi => h.1 i (by omega), h.2⟩⟩
    · refine Ev.askT (lt_nc hr) (Ev.need (in_nc (by omega)) ?_)
      rw [Int.toNat_natCast, e_word n hw, bindO_s, wr_nc (by omega)]
      exact Ev.roundEN hr (by rw [notB_true, decide_eq_false_iff_not]; exact Iff.rfl) h
    · refine Ev.askF (lt_ec _) ?_
      refine Ev.mono (Ev.all (fun i => (i : Int)) D.length (fun i => okHeld w P.length (D.getD i d0) (vs.getD i 0) (qu.getD i [])) (fun i rec hi h => ?_) (fun rec => ?_) n 0 (Nat.zero_le _) (by omega)) fun b hb => hb.trans ⟨fun h i hi => h i (Nat.zero_le _) hi, fun h i _ hi => h i hi⟩
      · rw [ask_t (lt_nc hi), need_t (in_nc hi)]
        simp only [in_nc hi, in_nc (show i < qu.length by omega), in_nc (show i < vs.length by omega), need_true, Int.toNat_natCast, wr_nc (show i < 9223372036854775807 by omega)]
        have hdi := hdk i hi
        have hq : ∀ {rec : Option Bool}, okHeld w P.length (D.getD i d0) (vs.getD i 0) (qu.getD i []) → Ev rec (fun b => b = true ↔ ∀ j, i < j → j < D.length → okHeld w P.length (D.getD j d0) (vs.getD j 0) (qu.getD j [])) → Ev rec (fun b => b = true ↔ ∀ j, i ≤ j → j < D.length → okHeld w P.length (D.getD j d0) (vs.getD j 0) (qu.getD j [])) := fun h1 h2 => Ev.mono h2 fun b hb => hb.trans ⟨fun h j h3 h4 => by
            rcases Nat.lt_or_ge i j with h5 | h5
            · exact h j h5 h4
            · rw [show j = i from by omega]; exact h1, fun h j h3 h4 => h j (by omega) h4⟩
        have hnq : ¬ okHeld w P.length (D.getD i d0) (vs.getD i 0) (qu.getD i []) → Ev (some false) (fun b => b = true ↔ ∀ j, i ≤ j → j < D.length → okHeld w P.length (D.getD j d0) (vs.getD j 0) (qu.getD j [])) := fun h1 => Ev.some ⟨fun e => (by cases e), fun h => absurd (h i (Nat.le_refl _) hi) h1⟩
        generalize D.getD i d0 = X at *
        generalize vs.getD i 0 = v at *
        generalize qu.getD i [] = q at *
        obtain ⟨(k : Int), (nm : List Int), (num : Int), (at' : Int)⟩ := X
        simp only [okHeld, okDecl] at hq hnq hdi ⊢
        rw [bindO_eq (a := if k = 4 then num else 0) (by rw [ask_ss]; simp only [eqI_iff]; rfl)]
        refine Ev.ask (fun h1 => ?_) fun h1 => ?_
        · rw [ltI_iff] at h1
          exact hnq fun hc => by have := hc.1; have h1 : (if k = 4 then num else 0) < (q.length : Int) := h1; omega
        · rw [ltI_false] at h1
          have h1 : (q.length : Int) ≤ (if k = 4 then num else 0) := h1
          have hql : q.length ≤ 3 := by
            by_cases h4 : k = 4
            · have := hdi.2.2.2.2.1 h4
              rw [if_pos h4] at h1
              omega
            · rw [if_neg h4] at h1
              omega
          refine Ev.find (Q := fun b => b = true ↔ ∀ j, i ≤ j → j < D.length → okHeld w P.length (D.getD j d0) (vs.getD j 0) (qu.getD j [])) (fun j => (j : Int)) (q.length + 1) (fun j => j < q.length ∧ word w (q.getD j 0)) (fun j rec_2 hj hpj => ?_) (fun j rec_2 hj hpj hall => ?_) (j := q.length) (by omega) (fun h => absurd h.1 (Nat.lt_irrefl _)) n 0 (Nat.zero_le _) (by omega) (fun k hk => absurd hk (Nat.not_lt_zero _))
          · rw [ask_t (lt_nc hpj.1), need_t (in_nc hpj.1), Int.toNat_natCast, e_word n hw, bindO_s, ask_f (by rw [notB_false]; exact decide_eq_true hpj.2), wr_nc (by omega)]
          · by_cases hjl : j < q.length
            · have hbad : ¬ word w (q.getD j 0) := fun h => hpj ⟨hjl, h⟩
              refine Ev.askT (lt_nc hjl) (Ev.need (in_nc hjl) ?_)
              rw [Int.toNat_natCast, e_word n hw, bindO_s]
              refine Ev.askT (by rw [notB_true]; exact decide_eq_false hbad) (hnq fun hc => hbad (hc.2.1 j hjl))
            · obtain rfl : j = q.length := by omega
              have hall' : allW w q := fun j hj => (hall j hj).2
              refine Ev.askF (lt_ec _) ?_
              rw [e_word n hw, bindO_s]
              rw [bindO_eq (a := decide (¬ ((k ≤ 2 → word w v) ∧ (k = 3 → 0 ≤ v ∧ v ≤ P.length) ∧ (k = 4 → v = 0)))) (by
                simp only [ask_ss, bindO_s, ltI_d, eqI_d, eqS_d, notB_d, andB_d, eqB_d, inB_d, leB_d, ble_d, Int.ofNat_eq_natCast, Int.cast_ofNat_Int]
                refine some_dec ?_
                by_cases hwv : word w v <;> simp [hwv] <;> grind)]
              refine Ev.ask (fun h => hnq fun hc => of_decide_eq_true h hc.2.2) fun h => hq ⟨h1, hall', Classical.not_not.mp (of_decide_eq_false h)⟩ (by assumption)
      · exact ask_f (lt_ec _)
theorem e_held {n : Nat} (hn : 8193 ≤ n) {f : Fl} (hf : okAll f) {s : St} (hL : okLens f s) {i : Nat} (hi : i < f.2.1.length) :
    sstep_held n f s (i : Int) = some (decide (okHeld f.1 f.2.2.2.1.length (f.2.1.getD i d0) (s.2.2.2.2.1.getD i 0) (s.2.2.2.2.2.1.getD i []))) := by
  refine Ev.dec ?_
  unfold sstep_held
  have hw := hf.w
  have hdi := hf.dk hi
  obtain ⟨(w : Int), (D : List De), (T : List Te), (P : List (List In)), (R : Int)⟩ := f
  obtain ⟨(nx : List Int), (rs : List Bool), (mk : List Bool), (rd : List Int), (vs : List Int), (qu : List (List Int)), (fl : Bool)⟩ := s
  obtain ⟨l1, l2, l3, l4, l5, l6⟩ := hL
  simp only at l1 l2 l3 l4 l5 l6 hw hdi hi ⊢
  refine Ev.need (in_nc (by omega)) (Ev.need (in_nc (by omega)) (Ev.need (in_nc hi) ?_))
  rw [Int.toNat_natCast, need_t (in_nc hi)]
  generalize D.getD i d0 = X at *
  generalize vs.getD i 0 = v at *
  generalize qu.getD i [] = q at *
  obtain ⟨(k : Int), (nm : List Int), (num : Int), (at' : Int)⟩ := X
  unfold okHeld
  simp only [okDecl] at hdi ⊢
  have hq0 : (q.length : Int) ≤ 0 → allW w q := fun h j hj => by omega
  refine Ev.ask (fun h => ?_) fun h => ?_
  · have hk : k = 3 := by rw [eqI_iff] at h; exact h
    refine Ev.bind (Q := fun b => b = true ↔ q.length = 0 ∧ 0 ≤ v ∧ v ≤ P.length) ?_ fun b hb => Ev.some (hb.trans ?_)
    · refine Ev.ask (fun h1 => Ev.ask (fun h2 => Ev.some ?_) fun h2 => Ev.some ?_) fun h1 => Ev.some ?_
      · rw [eqI_iff] at h1
        have h1 : (q.length : Int) = 0 := h1
        rw [notB_true, ltI_false] at h2
        have h2 : 0 ≤ v := h2
        rw [notB_true, ltI_false]
        show v ≤ (P.length : Int) ↔ _
        omega
      · rw [notB_false, ltI_iff] at h2
        have h2 : v < 0 := h2
        exact ⟨fun e => (by cases e), fun h => by omega⟩
      · rw [eqI_false] at h1
        have h1 : (q.length : Int) ≠ 0 := h1
        exact ⟨fun e => (by cases e), fun h => by omega⟩
    · rw [hk]
      simp
      intro h1 _ _
      exact hq0 (by simp [h1])
  · have hk : k ≠ 3 := by rw [eqI_false] at h; exact h
    refine Ev.ask (fun h => ?_) fun h => ?_
    · have hk4 : k = 4 := by rw [eqI_iff] at h; exact h
      have hnum := hdi.2.2.2.2.1 hk4
      refine Ev.bind (Q := fun b => b = true ↔ v = 0 ∧ (q.length : Int) ≤ num ∧ allW w q) ?_ fun b hb => Ev.some (hb.trans ?_)
      · refine Ev.ask (fun h1 => Ev.ask (fun h2 => ?_) fun h2 => Ev.some ?_) fun h1 => Ev.some ?_
        · rw [eqI_iff] at h1
          have h1 : v = 0 := h1
          rw [notB_true, ltI_false] at h2
          have h2 : (q.length : Int) ≤ num := h2
          rw [e_words hw (by omega) (by omega), bindO_s]
          refine Ev.some ?_
          rw [decide_eq_true_eq]
          exact ⟨fun h => ⟨h1, h2, h⟩, fun h => h.2.2⟩
        · rw [notB_false, ltI_iff] at h2
          have h2 : num < (q.length : Int) := h2
          exact ⟨fun e => (by cases e), fun h => by omega⟩
        · rw [eqI_false] at h1
          have h1 : v ≠ 0 := h1
          exact ⟨fun e => (by cases e), fun h => absurd h.1 h1⟩
      · rw [hk4]
        simp
        constructor
        · rintro ⟨h1, h2, h3⟩; exact ⟨h2, h3, h1⟩
        · rintro ⟨h1, h2, h3⟩; exact ⟨h3, h1, h2⟩
    · have hk4 : k ≠ 4 := by rw [eqI_false] at h; exact h
      have hk2 : k ≤ 2 := by have := hdi.1; omega
      refine Ev.bind (Q := fun b => b = true ↔ q.length = 0 ∧ word w v) ?_ fun b hb => Ev.some (hb.trans ?_)
      · refine Ev.ask (fun h1 => ?_) fun h1 => Ev.some ?_
        · rw [eqI_iff] at h1
          have h1 : (q.length : Int) = 0 := h1
          rw [e_words (l := [v]) hw (by simp; omega) (by simp), bindO_s]
          refine Ev.some ?_
          rw [decide_eq_true_eq]
          unfold allW
          constructor
          · intro h; exact ⟨by omega, h 0 (by simp)⟩
          · intro h i hi
            obtain rfl : i = 0 := by simp at hi; omega
            exact h.2
        · rw [eqI_false] at h1
          have h1 : (q.length : Int) ≠ 0 := h1
          exact ⟨fun e => (by cases e), fun h => by omega⟩
      · simp [hk, hk4, hk2]
        intro h1 _
        exact hq0 (by simp [h1])
theorem e_stepCheck {n : Nat} (hn : 8193 ≤ n) {f : Fl} (hl : lightF f) (s : St) : Ev (sstep_Check n f s) fun r => (r = 0 ∨ r = 1) ∧ (r = 0 ↔ okAll f ∧ okS f s) := by
  unfold sstep_Check
  obtain ⟨r, hr1, hr2, hr3⟩ := e_uCheck hn hl
  rw [hr1, bindO_s]
  by_cases hf : okAll f
  · rw [hr3.mpr hf, ask_f (b := notB (eqI 0 (Int.ofNat 0))) rfl, bindO_eq (e_lens f s)]
    refine Ev.ask (fun h => bad fun hq => of_decide_eq_true h hq.2.1) fun h => ?_
    have hL := Classical.not_not.mp (of_decide_eq_false h)
    have hp := hf.p
    have hd := hf.d
    have hrr := hf.r
    have hw := hf.w
    have hlen := fun p hp => hf.len (p := p) hp
    refine Ev.seek (fun p => (p : Int)) s.1.length (fun p => okNext f s p) (fun p rec hp2 hpp => ?_) (fun p rec hp2 hpp hall => ?_) (fun rec hall => ?_) n 0 (Nat.zero_le _) (by have := hL.1; omega) (fun k hk => absurd hk (Nat.not_lt_zero _))
    · have hpl : p < f.2.2.2.1.length := by have := hL.1; omega
      rw [ask_t (lt_nc hp2), need_t (in_nc hp2), Int.toNat_natCast, need_t (in_nc hpl), ask_ss, bindO_s, wr_nc (by omega)]
      refine ask_f ?_
      simp only [ask_ss, bindO_s, ltI_d, eqI_d, eqS_d, notB_d, andB_d, eqB_d, inB_d, leB_d, ble_d, Int.ofNat_eq_natCast, Int.cast_ofNat_Int]
      unfold okNext at hpp
      simp
      exact hpp
    · have hpl : p < f.2.2.2.1.length := by have := hL.1; omega
      refine Ev.askT (lt_nc hp2) (Ev.need (in_nc hp2) ?_)
      rw [Int.toNat_natCast, need_t (in_nc hpl), ask_ss, bindO_s]
      refine Ev.askT ?_ (bad fun hq => hpp (hq.2.2.1 p hpl))
      simp only [ask_ss, bindO_s, ltI_d, eqI_d, eqS_d, notB_d, andB_d, eqB_d, inB_d, leB_d, ble_d, Int.ofNat_eq_natCast, Int.cast_ofNat_Int]
      unfold okNext at hpp
      simp at hpp ⊢
      omega
    · refine Ev.askF (lt_ec _) ?_
      rw [hL.1] at hall
      refine Ev.seek (fun i => (i : Int)) f.2.1.length (fun i => okHeld f.1 f.2.2.2.1.length (f.2.1.getD i d0) (s.2.2.2.2.1.getD i 0) (s.2.2.2.2.2.1.getD i [])) (fun i rec hi hii => ?_) (fun i rec hi hii _ => ?_) (fun rec hall2 => ?_) n 0 (Nat.zero_le _) (by omega) (fun k hk => absurd hk (Nat.not_lt_zero _))
      · rw [ask_t (lt_nc hi), show ((f.1, f.2.1, f.2.2.1, f.2.2.2.1, f.2.2.2.2) : Fl) = f from rfl, show ((s.1, s.2.1, s.2.2.1, s.2.2.2.1, s.2.2.2.2.1, s.2.2.2.2.2.1, s.2.2.2.2.2.2) : St) = s from rfl, e_held hn hf hL hi, bindO_s, wr_nc (by omega)]
        exact ask_f (by rw [notB_false]; exact decide_eq_true hii)
      · refine Ev.askT (lt_nc hi) ?_
        rw [show ((f.1, f.2.1, f.2.2.1, f.2.2.2.1, f.2.2.2.2) : Fl) = f from rfl, show ((s.1, s.2.1, s.2.2.1, s.2.2.2.1, s.2.2.2.2.1, s.2.2.2.2.2.1, s.2.2.2.2.2.2) : St) = s from rfl, e_held hn hf hL hi, bindO_s]
        exact Ev.askT (by rw [notB_true]; exact decide_eq_false hii) (bad fun hq => hii (hq.2.2.2.2 i hi))
      · refine Ev.askF (lt_ec _) ?_
        have hrl := hL.2.2.2.1
        rw [e_words hw (by omega) (by omega), bindO_s]
        refine Ev.ask (fun h => bad fun hq => ?_) fun h => Ev.some ⟨.inl rfl, ⟨fun _ => ⟨hf, hL, hall, ?_, hall2⟩, fun _ => rfl⟩⟩
        · rw [notB_true] at h
          exact of_decide_eq_false h hq.2.2.2.1
        · rw [notB_false] at h
          exact of_decide_eq_true h
  · have h1 : r = 1 := by
      rcases hr2 with h | h
      · exact absurd (hr3.mp h) hf
      · exact h
    rw [h1, ask_t (b := notB (eqI 1 (Int.ofNat 0))) rfl, bindO_s]
    exact Ev.askT rfl (bad fun hq => hf hq.1)
end Go.Proofs.YtfbipcdllbdijaaGreat
namespace Go.Proofs.YtfbipcdllbdijaaGreat
open Go Go.TM
theorem Ev.seekF {A R : Type} {body : A → (A → Option R) → Option R} {Q : R → Prop} (st : Nat → A) (a N : Nat) (p : Nat → Prop)
    (h1 : ∀ i rec, a ≤ i → i < N → p i → body (st i) rec = rec (st (i + 1))) (h2 : ∀ i rec, a ≤ i → i < N → ¬ p i → (∀ k, a ≤ k → k < i → p k) → Ev (body (st i) rec) Q) (h3 : ∀ rec, (∀ k, a ≤ k → k < N → p k) → Ev (body (st N) rec) Q) {n : Nat} (ha : a ≤ N) (hn : N - a < n) : Ev (iter body n (st a)) Q := by
  have := Ev.seek (body := body) (Q := Q) (fun i => st (a + i)) (N - a) (fun i => p (a + i)) (fun i rec hi hp => h1 _ rec (by omega) (by omega) hp) (fun i rec hi hp hall => h2 _ rec (by omega) (by omega) hp fun k h4 h5 => by have := hall (k - a) (by omega); rwa [show a + (k - a) = k from by omega] at this)
    (fun rec hall => by
      rw [show a + (N - a) = N from by omega]
      exact h3 rec fun k h4 h5 => by have := hall (k - a) (by omega); rwa [show a + (k - a) = k from by omega] at this) n 0 (Nat.zero_le _) (by omega) (fun k hk => absurd hk (Nat.not_lt_zero _))
  exact this
noncomputable def V (n : Nat) (f : Fl) (s : St) : List Int := vals n f.1 f.2.2.1 s.2.2.2.1 f.2.2.1.length
theorem V_len (n : Nat) (f : Fl) (s : St) : (V n f s).length = f.2.2.1.length := vals_len _ _ _ _ _
abbrev pr (f : Fl) (p : Nat) : List In := f.2.2.2.1.getD p []
abbrev inst (f : Fl) (p i : Nat) : In := (pr f p).getD i i0
def gv (f : Fl) (v : List Int) (p i : Nat) : Int := v.getD (inst f p i).2.2.1.toNat 0
def nowM (f : Fl) (v : List Int) (s : St) (p : Nat) : Option Nat :=
  if s.2.1.getD p false = true ∧ s.2.2.1.getD p false = false then (List.range (pr f p).length).find? fun j => decide (s.1.getD p 0 ≤ (j : Int) ∧ gv f v p j ≠ 0) else none
def nowZ (f : Fl) (v : List Int) (s : St) (p : Int) : Option Nat := if 0 ≤ p ∧ p < f.2.2.2.1.length then nowM f v s p.toNat else none
def nowK : Option Nat → Int | none => 0 | some k => k
theorem nowM_some {f : Fl} {v : List Int} {s : St} {p k : Nat} : nowM f v s p = some k ↔ (s.2.1.getD p false = true ∧ s.2.2.1.getD p false = false) ∧ k < (pr f p).length ∧ s.1.getD p 0 ≤ (k : Int) ∧ gv f v p k ≠ 0 ∧ ∀ j < k, s.1.getD p 0 ≤ (j : Int) → gv f v p j = 0 := by
  unfold nowM
  split
  · rename_i h
    rw [List.find?_range_eq_some]
    simp only [decide_eq_true_eq, List.mem_range, Bool.not_eq_true', decide_eq_false_iff_not]
    constructor
    · rintro ⟨⟨h1, h2⟩, h3, h4⟩
      exact ⟨h, h3, h1, h2, fun j hj h5 => Classical.byContradiction fun h6 => h4 j hj ⟨h5, h6⟩⟩
    · rintro ⟨_, h3, h1, h2, h4⟩
      exact ⟨⟨h1, h2⟩, h3, fun j hj h5 => h5.2 (h4 j hj h5.1)⟩
  · rename_i h
    constructor
    · intro e; cases e
    · intro e; exact absurd e.1 h
theorem nowM_none {f : Fl} {v : List Int} {s : St} {p : Nat} : nowM f v s p = none ↔ ((s.2.1.getD p false = true ∧ s.2.2.1.getD p false = false) → ∀ j < (pr f p).length, s.1.getD p 0 ≤ (j : Int) → gv f v p j = 0) := by
  unfold nowM
  split
  · rename_i h
    rw [List.find?_range_eq_none]
    simp only [Bool.not_eq_true', decide_eq_false_iff_not]
    constructor
    · intro h1 _ j hj h5
      exact Classical.byContradiction fun h6 => h1 j hj ⟨h5, h6⟩
    · intro h1 j hj h5
      exact h5.2 (h1 h j hj h5.1)
  · rename_i h
    exact ⟨fun _ h' => absurd h' h, fun _ => rfl⟩
theorem okAll.inst {f : Fl} (h : okAll f) {p i : Nat} (hp : p < f.2.2.2.1.length) (hi : i < (pr f p).length) : okI f.2.1 f.2.2.1.length f.2.2.2.1.length p (inst f p i) ∧ okRd f.2.2.2.2 (inst f p i) ∧ okPair (pr f p) i := h.2.2.2.2.2.1 p hp i hi
theorem e_mNow {n : Nat} (hn : 8193 ≤ n) {f : Fl} (hf : okAll f) {s : St} (hS : okS f s) {v : List Int} (hv : v.length = f.2.2.1.length) (p : Int) :
    Ev (sstep_machine_now n (f, s, v) p) fun r => r = ((nowK (nowZ f v s p), (nowZ f v s p).isSome), (f, s, v)) := by
  unfold sstep_machine_now
  obtain ⟨⟨l1, l2, l3, l4, l5, l6⟩, hnx, _, _⟩ := hS
  simp only
  by_cases hp : 0 ≤ p ∧ p < f.2.2.2.1.length
  · obtain ⟨p, rfl⟩ : ∃ q : Nat, p = q := ⟨p.toNat, by omega⟩
    have hp : p < f.2.2.2.1.length := by omega
    have hpn : nowZ f v s (p : Int) = nowM f v s p := by unfold nowZ; rw [if_pos (by omega), Int.toNat_natCast]
    rw [hpn]
    rw [ask_f (b := ltI (p : Int) (Int.ofNat 0)) (by rw [ltI_false]; exact Int.natCast_nonneg _), ask_f (b := notB (ltI (p : Int) (Int.ofNat f.2.2.2.1.length))) (by rw [notB_false]; exact lt_nc hp), need_t (in_nc (by omega)), need_t (in_nc (by omega)), Int.toNat_natCast, ask_ss, bindO_s]
    by_cases hrun : s.2.1.getD p false = true ∧ s.2.2.1.getD p false = false
    · rw [hrun.1, hrun.2]
      refine Ev.askF rfl (Ev.need (in_nc hp) (Ev.need (in_nc (by omega)) ?_))
      have hnxp : 0 ≤ s.1.getD p 0 ∧ s.1.getD p 0 ≤ ((pr f p).length : Int) := hnx p hp
      have hlen : (pr f p).length ≤ 64 := hf.len hp
      show Ev (iter _ n (s.1.getD p 0)) _
      obtain ⟨k, hk⟩ : ∃ k : Nat, s.1.getD p 0 = k := ⟨(s.1.getD p 0).toNat, by omega⟩
      rw [hk] at hnxp ⊢
      have hinB : ∀ i, i < (pr f p).length → inB (inst f p i).2.2.1 v.length = true := fun i hi => by
        have hin := (hf.inst hp hi).1.2.2.2.2.2.2.1
        rw [inB_iff, hv]
        omega
      refine Ev.seekF (fun i => (i : Int)) k (pr f p).length (fun i => gv f v p i = 0) (fun i rec hki hi hg => ?_) (fun i rec hki hi hg hall => ?_) (fun rec hall => ?_) (by omega) (by omega)
      · simp only [Int.toNat_natCast]
        exact (ask_t (lt_nc hi)).trans ((need_t (in_nc hi)).trans ((need_t (hinB i hi)).trans ((ask_f (by rw [notB_false, eqI_iff]; exact hg)).trans (congrArg rec (wr_nc (by omega))))))
      · simp only [Int.toNat_natCast]
        refine Ev.askT (lt_nc hi) (Ev.need (in_nc hi) (Ev.need (hinB i hi) (Ev.askT ?_ (Ev.some ?_))))
        · rw [notB_true, eqI_false]
          exact hg
        · have : nowM f v s p = some i := nowM_some.mpr ⟨hrun, hi, by rw [hk]; omega, hg, fun j hj h => hall j (by omega) hj⟩
          rw [this]
          rfl
      · refine Ev.askF (lt_ec _) (Ev.some ?_)
        have : nowM f v s p = none := nowM_none.mpr fun _ j hj h => hall j (by omega) hj
        rw [this]
        rfl
    · refine Ev.askT (by cases h1 : s.2.1.getD p false <;> cases h2 : s.2.2.1.getD p false <;> simp_all [notB]) (Ev.some ?_)
      unfold nowM
      rw [if_neg hrun]
      rfl
  · have hz : nowZ f v s p = none := by unfold nowZ; rw [if_neg hp]
    rw [hz]
    rw [bindO_eq (a := true) (by
      by_cases h0 : p < 0
      · rw [ask_t (b := ltI p (Int.ofNat 0)) (by rw [ltI_iff]; exact h0)]
      · rw [ask_f (b := ltI p (Int.ofNat 0)) (by rw [ltI_false]; show (0 : Int) ≤ p; omega), ask_t (b := notB (ltI p (Int.ofNat f.2.2.2.1.length))) (by rw [notB_true, ltI_false]; show (f.2.2.2.1.length : Int) ≤ p; omega)])]
    exact Ev.askT rfl (Ev.some rfl)
def thingM (f : Fl) (p : Int) : Option Nat → In | none => i0 | some k => inst f p.toNat k
theorem nowZ_lt {f : Fl} {v : List Int} {s : St} {p : Int} {k : Nat} (h : nowZ f v s p = some k) : (0 ≤ p ∧ p < f.2.2.2.1.length) ∧ nowM f v s p.toNat = some k ∧ k < (pr f p.toNat).length := by
  unfold nowZ at h
  split at h
  · rename_i hp
    exact ⟨hp, h, (nowM_some.mp h).2.1⟩
  · cases h
theorem e_mThing {n : Nat} (hn : 8193 ≤ n) {f : Fl} (hf : okAll f) {s : St} (hS : okS f s) {v : List Int} (hv : v.length = f.2.2.1.length) (p : Int) : sstep_machine_thing n (f, s, v) p = some (thingM f p (nowZ f v s p), (f, s, v)) := by
  refine Ev.eq ?_
  unfold sstep_machine_thing
  refine Ev.bind (e_mNow hn hf hS hv p) fun r hr => ?_
  subst hr
  cases hz : nowZ f v s p with
  | none => exact Ev.askT rfl (Ev.some rfl)
  | some k =>
    obtain ⟨h1, h2, h3⟩ := nowZ_lt hz
    refine Ev.askF rfl (Ev.need (by rw [inB_iff]; show 0 ≤ p ∧ p.toNat < f.2.2.2.1.length; omega) (Ev.need ?_ (Ev.some rfl)))
    exact in_nc h3
end Go.Proofs.YtfbipcdllbdijaaGreat
namespace Go.Proofs.YtfbipcdllbdijaaGreat
open Go Go.TM
abbrev thing (f : Fl) (v : List Int) (s : St) (p : Int) : In := thingM f p (nowZ f v s p)
abbrev dNum (f : Fl) (o : Int) : Int := (f.2.1.getD o.toNat d0).2.2.1
abbrev vAt (s : St) (o : Int) : Int := s.2.2.2.2.1.getD o.toNat 0
abbrev qAt (s : St) (o : Int) : List Int := s.2.2.2.2.2.1.getD o.toNat []
def canP (f : Fl) (v : List Int) (s : St) (p w : Int) : Prop :=
  (thing f v s p).1 ≠ 0 ∧ if (thing f v s p).1 = 9 ∧ dNum f (thing f v s p).2.1 = 0 then ¬ (w < 0 ∨ w = p) ∧ (thing f v s w).1 = 10 ∧ (thing f v s w).2.1 = (thing f v s p).2.1
    else w = -1 ∧ if (thing f v s p).1 = 7 then vAt s (thing f v s p).2.1 = 0 else if (thing f v s p).1 = 9 then ((qAt s (thing f v s p).2.1).length : Int) < dNum f (thing f v s p).2.1
      else (thing f v s p).1 ≠ 10 ∨ 0 < (qAt s (thing f v s p).2.1).length
instance (f : Fl) (v : List Int) (s : St) (p w : Int) : Decidable (canP f v s p w) := by unfold canP; infer_instance
theorem thing_obj {f : Fl} (hf : okAll f) {v : List Int} {s : St} {p : Int} (h : (thing f v s p).1 = 7 ∨ (thing f v s p).1 = 9 ∨ (thing f v s p).1 = 10) : 0 ≤ (thing f v s p).2.1 ∧ (thing f v s p).2.1 < f.2.1.length ∧ (f.2.1.getD (thing f v s p).2.1.toNat d0).1 = kindOf (thing f v s p).1 := by
  unfold thing at *
  cases hz : nowZ f v s p with
  | none => rw [hz] at h; simp [thingM] at h
  | some k =>
    rw [hz] at h
    obtain ⟨h1, h2, h3⟩ := nowZ_lt hz
    have hi := (hf.inst (p := p.toNat) (by omega) h3).1.2.1
    show 0 ≤ (inst f p.toNat k).2.1 ∧ _
    have h : (inst f p.toNat k).1 = 7 ∨ (inst f p.toNat k).1 = 9 ∨ (inst f p.toNat k).1 = 10 := h
    unfold okObj at hi
    rw [if_neg (by omega), if_neg (by omega)] at hi
    exact ⟨hi.1.1, hi.1.2, hi.2⟩
def ws (N : Nat) : List Int := (List.range (N + 1)).map fun j : Nat => (j : Int) - 1
theorem ws_eq (N : Nat) : ws N = -1 :: (List.range N).map fun j : Nat => (j : Int) := by
  unfold ws
  rw [List.range_succ_eq_map, List.map_cons, List.map_map]
  congr 1
  refine List.map_congr_left fun j _ => ?_
  simp [Function.comp]
def partsM (f : Fl) (v : List Int) (s : St) (p : Int) : List Int := (ws f.2.2.2.1.length).filter fun w => decide (canP f v s p w)
def tp (f : Fl) (v : List Int) (s : St) (p : Nat) : List (Int × Int × Int) := (partsM f v s p).map fun w => ((p : Int), w, -1)
def accM (f : Fl) (v : List Int) (s : St) (p : Nat) : List (Int × Int × Int) := (List.range p).flatMap (tp f v s)
def turnsM (f : Fl) (v : List Int) (s : St) : List (Int × Int × Int) := accM f v s f.2.2.2.1.length
theorem accM_succ (f : Fl) (v : List Int) (s : St) (p : Nat) : accM f v s (p + 1) = accM f v s p ++ tp f v s p := by
  unfold accM
  rw [List.range_succ, List.flatMap_append]
  simp
theorem parts_len (f : Fl) (v : List Int) (s : St) (p : Int) : (partsM f v s p).length ≤ f.2.2.2.1.length + 1 := by
  unfold partsM
  refine Nat.le_trans (List.length_filter_le _ _) ?_
  unfold ws
  simp
theorem accM_len (f : Fl) (v : List Int) (s : St) : ∀ p, (accM f v s p).length ≤ p * (f.2.2.2.1.length + 1)
  | 0 => by simp [accM]
  | p + 1 => by
    rw [accM_succ, List.length_append]
    have := accM_len f v s p
    have := parts_len f v s p
    unfold tp
    rw [List.length_map, Nat.succ_mul]
    omega
theorem accM_small {f : Fl} (hP : f.2.2.2.1.length ≤ 6) (v : List Int) (s : St) {p : Nat} (hp : p ≤ 6) : (accM f v s p).length ≤ 42 := by
  refine Nat.le_trans (accM_len f v s p) ?_
  refine Nat.le_trans (Nat.mul_le_mul hp (show f.2.2.2.1.length + 1 ≤ 7 by omega)) (by decide)
theorem filt_one {N : Nat} {c : Prop} [Decidable c] {q : Int → Prop} [DecidablePred q] (h : ∀ w, q w ↔ w = -1 ∧ c) : (ws N).filter (fun w => decide (q w)) = if c then [-1] else [] := by
  rw [ws_eq, List.filter_cons]
  have : ((List.range N).map fun j : Nat => (j : Int)).filter (fun w => decide (q w)) = [] := by
    rw [List.filter_eq_nil_iff]
    intro w hw
    obtain ⟨j, hj, rfl⟩ := List.mem_map.mp hw
    rw [decide_eq_true_eq, h]
    omega
  rw [this]
  by_cases hc : c
  · rw [if_pos (decide_eq_true ((h _).mpr ⟨rfl, hc⟩)), if_pos hc]
  · rw [if_neg (by rw [decide_eq_true_eq, h]; exact fun h => hc h.2), if_neg hc]
theorem filt_none {N : Nat} {q : Int → Prop} [DecidablePred q] (h : ∀ w, ¬ q w) : (ws N).filter (fun w => decide (q w)) = [] := by
  rw [List.filter_eq_nil_iff]
  intro w _
  rw [decide_eq_true_eq]
  exact h w
theorem e_receivers {n : Nat} (hn : 8193 ≤ n) {f : Fl} (hf : okAll f) {s : St} (hS : okS f s) {v : List Int} (hv : v.length = f.2.2.1.length) (p c : Int) :
    sstep_machine_receivers n (f, s, v) p c = some (((List.range f.2.2.2.1.length).map fun j : Nat => (j : Int)).filter (fun w => decide (w ≠ p ∧ (thing f v s w).1 = 10 ∧ (thing f v s w).2.1 = c)), (f, s, v)) := by
  refine Ev.eq ?_
  unfold sstep_machine_receivers
  have hP := hf.p
  refine Ev.forN f.2.2.2.1.length (fun j (x : List Int × Int × Fl × St × List Int) => x = (((List.range j).map fun j : Nat => (j : Int)).filter (fun w => decide (w ≠ p ∧ (thing f v s w).1 = 10 ∧ (thing f v s w).2.1 = c)), (j : Int), (f, s, v))) (fun j x rec hj hx hrec => ?_) (fun x rec hx => ?_) n 0 _ rfl (Nat.zero_le _) (by omega)
  · subst hx
    refine Ev.askT (lt_nc hj) ?_
    refine Ev.bind ⟨_, e_mThing hn hf hS hv (j : Int), rfl⟩ fun r hr => ?_
    subst hr
    simp only
    have hsm : (((List.range j).map fun j : Nat => (j : Int)).filter (fun w => decide (w ≠ p ∧ (thing f v s w).1 = 10 ∧ (thing f v s w).2.1 = c))).length ≤ 6 := by
      refine Nat.le_trans (List.length_filter_le _ _) ?_
      rw [List.length_map, List.length_range]
      omega
    refine Ev.bind (Q := fun b => b = decide ((j : Int) ≠ p ∧ (thing f v s j).1 = 10 ∧ (thing f v s j).2.1 = c)) ?_ fun b hb => ?_
    · refine Ev.ask (fun h => ?_) fun h => Ev.some ?_
      · rw [notB_true, eqI_false] at h
        rw [ask_ss, eqI_d, eqI_d]
        refine Ev.some ?_
        refine Bool.eq_iff_iff.mpr ?_
        show (if decide ((thing f v s j).1 = 10) = true then decide ((thing f v s j).2.1 = c) else false) = true ↔ decide _ = true
        simp [h]
      · rw [notB_false, eqI_iff] at h
        exact (decide_eq_false fun h2 => h2.1 h).symm
    · subst hb
      rw [wr_nc (by omega)]
      refine Ev.bind (Q := fun y => y = ((List.range (j + 1)).map fun j : Nat => (j : Int)).filter (fun w => decide (w ≠ p ∧ (thing f v s w).1 = 10 ∧ (thing f v s w).2.1 = c))) ?_ fun y hy => ?_
      · rw [List.range_succ, List.map_append, List.filter_append]
        by_cases hc : (j : Int) ≠ p ∧ (thing f v s j).1 = 10 ∧ (thing f v s j).2.1 = c
        · rw [decide_eq_true hc]
          refine Ev.askT rfl (Ev.need (by rw [ble_iff]; omega) (Ev.some ?_))
          rw [List.map_cons, List.filter_cons, if_pos (decide_eq_true hc)]
          rfl
        · rw [decide_eq_false hc]
          refine Ev.askF rfl (Ev.some ?_)
          rw [List.map_cons, List.filter_cons, if_neg (by rw [decide_eq_true_eq]; exact hc)]
          simp
      · subst hy
        exact hrec _ rfl
  · subst hx
    exact Ev.askF (lt_ec _) (Ev.some rfl)
theorem e_partners {n : Nat} (hn : 8193 ≤ n) {f : Fl} (hf : okAll f) {s : St} (hS : okS f s) {v : List Int} (hv : v.length = f.2.2.1.length) (p : Int) :
    sstep_machine_partners n (f, s, v) p = some (partsM f v s p, (f, s, v)) := by
  refine Ev.eq ?_
  unfold sstep_machine_partners
  have hob := thing_obj hf (v := v) (s := s) (p := p)
  obtain ⟨⟨l1, l2, l3, l4, l5, l6⟩, _, _, hheld⟩ := id hS
  refine Ev.bind ⟨_, e_mThing hn hf hS hv p, rfl⟩ fun r hr => ?_
  subst hr
  simp only
  unfold partsM
  have hin : ((thing f v s p).1 = 7 ∨ (thing f v s p).1 = 9 ∨ (thing f v s p).1 = 10) → inB (thing f v s p).2.1 f.2.1.length = true ∧ inB (thing f v s p).2.1 s.2.2.2.2.1.length = true ∧ inB (thing f v s p).2.1 s.2.2.2.2.2.1.length = true := fun h => by
    have := hob h
    refine ⟨?_, ?_, ?_⟩ <;> rw [inB_iff] <;> omega
  refine Ev.ask (fun h => Ev.some ?_) fun h => ?_
  · have h0 : (thing f v s p).1 = 0 := by rw [eqI_iff] at h; exact h
    rw [filt_none fun w hw => hw.1 h0]
  have h0 : (thing f v s p).1 ≠ 0 := by rw [eqI_false] at h; exact h
  refine Ev.bind (Q := fun r => r = (.inl (f, s, v) : (Fl × St × List Int) ⊕ (List Int × Fl × St × List Int)) ∧ (ws f.2.2.2.1.length).filter (fun w => decide (canP f v s p w)) = [-1] ∨ r = .inr ((ws f.2.2.2.1.length).filter (fun w => decide (canP f v s p w)), (f, s, v))) ?_ fun r hr => ?_
  · refine Ev.ask (fun h => ?_) fun h => ?_
    · have h7 : (thing f v s p).1 = 7 := by rw [eqI_iff] at h; exact h
      have hc : ∀ w, canP f v s p w ↔ w = -1 ∧ vAt s (thing f v s p).2.1 = 0 := fun w => by
        unfold canP
        rw [if_neg (by omega), if_pos h7]
        exact ⟨fun h => h.2, fun h => ⟨h0, h⟩⟩
      refine Ev.need (hin (by omega)).2.1 (Ev.ask (fun h1 => Ev.some (.inr ?_)) fun h1 => Ev.some (.inl ⟨rfl, ?_⟩))
      · have h1 : ¬ vAt s (thing f v s p).2.1 = 0 := by rw [notB_true, eqI_false] at h1; exact h1
        rw [filt_one hc, if_neg h1]
      · have h1 : vAt s (thing f v s p).2.1 = 0 := by rw [notB_false, eqI_iff] at h1; exact h1
        rw [filt_one hc, if_pos h1]
    · have h7 : (thing f v s p).1 ≠ 7 := by rw [eqI_false] at h; exact h
      refine Ev.bind (Q := fun r => r = (.inl (f, s, v) : (Fl × St × List Int) ⊕ ((Fl × St × List Int) ⊕ (List Int × Fl × St × List Int))) ∧ (ws f.2.2.2.1.length).filter (fun w => decide (canP f v s p w)) = [-1] ∨ r = .inr (.inr ((ws f.2.2.2.1.length).filter (fun w => decide (canP f v s p w)), (f, s, v)))) ?_ fun r hr => ?_
      · refine Ev.ask (fun h => ?_) fun h => ?_
        · have h9 : (thing f v s p).1 = 9 := by rw [eqI_iff] at h; exact h
          have hob9 := hob (by omega)
          refine Ev.need (hin (by omega)).1 (Ev.ask (fun h1 => ?_) fun h1 => Ev.need (hin (by omega)).2.2 ?_)
          · have h1 : dNum f (thing f v s p).2.1 = 0 := by rw [eqI_iff] at h1; exact h1
            refine Ev.bind ⟨_, e_receivers hn hf hS hv p (thing f v s p).2.1, rfl⟩ fun r hr => ?_
            subst hr
            refine Ev.some (.inr ?_)
            have : (ws f.2.2.2.1.length).filter (fun w => decide (canP f v s p w)) = ((List.range f.2.2.2.1.length).map fun j : Nat => (j : Int)).filter (fun w => decide (w ≠ p ∧ (thing f v s w).1 = 10 ∧ (thing f v s w).2.1 = (thing f v s p).2.1)) := by
              rw [ws_eq, List.filter_cons, if_neg (by
                rw [decide_eq_true_eq]
                unfold canP
                rw [if_pos ⟨h9, h1⟩]
                exact fun h => h.2.1 (.inl (by decide)))]
              refine List.filter_congr fun w hw => ?_
              obtain ⟨j, hj, rfl⟩ := List.mem_map.mp hw
              refine Bool.eq_iff_iff.mpr ?_
              rw [decide_eq_true_eq, decide_eq_true_eq]
              unfold canP
              rw [if_pos ⟨h9, h1⟩]
              constructor
              · rintro ⟨_, h2, h3⟩
                exact ⟨fun e => h2 (.inr e), h3⟩
              · rintro ⟨h2, h3⟩
                exact ⟨h0, fun h => h.elim (by omega) h2, h3⟩
            rw [this]
          · have h1 : dNum f (thing f v s p).2.1 ≠ 0 := by rw [eqI_false] at h1; exact h1
            have hc : ∀ w, canP f v s p w ↔ w = -1 ∧ ((qAt s (thing f v s p).2.1).length : Int) < dNum f (thing f v s p).2.1 := fun w => by
              unfold canP
              rw [if_neg fun h => h1 h.2, if_neg h7, if_pos h9]
              exact ⟨fun h => h.2, fun h => ⟨h0, h⟩⟩
            have hle : ((qAt s (thing f v s p).2.1).length : Int) ≤ dNum f (thing f v s p).2.1 := by
              have := (hheld (thing f v s p).2.1.toNat (by omega)).1
              rw [if_pos (by rw [hob9.2.2, h9]; rfl)] at this
              exact this
            refine Ev.ask (fun h2 => Ev.some (.inr ?_)) fun h2 => Ev.some (.inl ⟨rfl, ?_⟩)
            · have h2 : ((qAt s (thing f v s p).2.1).length : Int) = dNum f (thing f v s p).2.1 := by rw [eqI_iff] at h2; exact h2
              rw [filt_one hc, if_neg (by omega)]
            · have h2 : ((qAt s (thing f v s p).2.1).length : Int) ≠ dNum f (thing f v s p).2.1 := by rw [eqI_false] at h2; exact h2
              rw [filt_one hc, if_pos (by omega)]
        · have h9 : (thing f v s p).1 ≠ 9 := by rw [eqI_false] at h; exact h
          have hc : ∀ w, canP f v s p w ↔ w = -1 ∧ ((thing f v s p).1 ≠ 10 ∨ 0 < (qAt s (thing f v s p).2.1).length) := fun w => by
            unfold canP
            rw [if_neg fun h => h9 h.1, if_neg h7, if_neg h9]
            exact ⟨fun h => h.2, fun h => ⟨h0, h⟩⟩
          refine Ev.bind (Q := fun r => (∃ u, r = .inl u) ∧ (ws f.2.2.2.1.length).filter (fun w => decide (canP f v s p w)) = [-1] ∨ r = .inr (.inr (.inr ((ws f.2.2.2.1.length).filter (fun w => decide (canP f v s p w)), (f, s, v))))) ?_ fun r hr => ?_
          · refine Ev.ask (fun h => ?_) fun h => Ev.some (.inl ⟨⟨_, rfl⟩, ?_⟩)
            · have h10 : (thing f v s p).1 = 10 := by rw [eqI_iff] at h; exact h
              refine Ev.need (hin (by omega)).2.2 (Ev.ask (fun h2 => Ev.some (.inr ?_)) fun h2 => Ev.some (.inl ⟨⟨_, rfl⟩, ?_⟩))
              · have h2 : ((qAt s (thing f v s p).2.1).length : Int) = 0 := by rw [eqI_iff] at h2; exact h2
                rw [filt_one hc, if_neg (by omega)]
              · have h2 : ((qAt s (thing f v s p).2.1).length : Int) ≠ 0 := by rw [eqI_false] at h2; exact h2
                rw [filt_one hc, if_pos (by omega)]
            · have h10 : (thing f v s p).1 ≠ 10 := by rw [eqI_false] at h; exact h
              rw [filt_one hc, if_pos (.inl h10)]
          · rcases hr with ⟨⟨u, rfl⟩, h⟩ | rfl
            · rw [caseS_inl]
              exact Ev.some (.inl ⟨rfl, h⟩)
            · rw [caseS_inr]
              exact Ev.some (.inr rfl)
      · rcases hr with ⟨rfl, h⟩ | rfl
        · rw [caseS_inl]
          exact Ev.some (.inl ⟨rfl, h⟩)
        · rw [caseS_inr]
          exact Ev.some (.inr rfl)
  · rcases hr with ⟨rfl, h⟩ | rfl
    · rw [caseS_inl, h]
      exact Ev.some rfl
    · rw [caseS_inr]
      exact Ev.some rfl
theorem e_mTurns {n : Nat} (hn : 8193 ≤ n) {f : Fl} (hf : okAll f) {s : St} (hS : okS f s) {v : List Int} (hv : v.length = f.2.2.1.length) :
    sstep_machine_turns n (f, s, v) = some (turnsM f v s, (f, s, v)) := by
  refine Ev.eq ?_
  unfold sstep_machine_turns
  have hP := hf.p
  refine Ev.forN f.2.2.2.1.length (fun p (x : List (Int × Int × Int) × Int × Fl × St × List Int) => x = (accM f v s p, (p : Int), (f, s, v))) (fun p x rec hp hx hrec => ?_) (fun x rec hx => ?_) n 0 _ rfl (Nat.zero_le _) (by omega)
  · subst hx
    refine Ev.askT (lt_nc hp) ?_
    refine Ev.bind ⟨_, e_partners hn hf hS hv (p : Int), rfl⟩ fun r hr => ?_
    subst hr
    simp only
    have hsm := accM_small hP.2 v s (p := p) (by omega)
    have hpl := parts_len f v s p
    refine Ev.forN (partsM f v s p).length (fun j (x : List (Int × Int × Int) × Int) => x = (accM f v s p ++ ((partsM f v s p).take j).map fun w => ((p : Int), w, -1), (j : Int))) (fun j x rec1 hj hx hrec1 => ?_) (fun x rec1 hx => ?_) n 0 _ (by simp) (Nat.zero_le _) (by omega)
    · subst hx
      refine Ev.askT (lt_nc hj) (Ev.need (in_nc hj) (Ev.need (by rw [ble_iff, List.length_append, List.length_map, List.length_take]; omega) ?_))
      refine hrec1 _ ?_
      simp only
      rw [wr_nc (by omega), List.take_succ_eq_append_getElem hj, List.map_append, ← List.append_assoc, Int.toNat_natCast, List.getD_eq_getElem?_getD, List.getElem?_eq_getElem hj]
      rfl
    · subst hx
      refine Ev.askF (lt_ec _) (hrec _ ?_)
      simp only
      rw [wr_nc (by omega), accM_succ, List.take_length]
      rfl
  · subst hx
    exact Ev.askF (lt_ec _) (Ev.some rfl)
end Go.Proofs.YtfbipcdllbdijaaGreat
namespace Go.Proofs.YtfbipcdllbdijaaGreat
open Go Go.TM
theorem e_cloneI (n : Nat) {l : List Int} (h : l.length ≤ 1000) : sslices_Clone_int_int n l = some l := by
  unfold sslices_Clone_int_int
  rw [need_t (by rw [ble_iff]; omega)]
  cases l with
  | nil => rw [both_self]; rfl
  | cons a l => rfl
theorem e_cloneB (n : Nat) {l : List Bool} (h : l.length ≤ 1000) : sslices_Clone_bool_bool n l = some l := by
  unfold sslices_Clone_bool_bool
  rw [need_t (by rw [ble_iff]; omega)]
  cases l with
  | nil => rw [both_self]; rfl
  | cons a l => rfl
def tagged (qs : List (List Int)) (k : Nat) : List (List Int × Nat) := gmap qs.length fun i => (qs.getD i [], if i < k then 1 else 0)
theorem tagged_len (qs : List (List Int)) (k : Nat) : (tagged qs k).length = qs.length := gmap_len _ _
theorem tagged_zero (qs : List (List Int)) : List.map (fun x => (x, 0)) (([] : List (List Int)) ++ qs) = tagged qs 0 := by
  unfold tagged gmap
  rw [List.nil_append]
  refine List.ext_getElem (by simp) fun i h1 h2 => ?_
  have hi : i < qs.length := by simpa using h1
  simp [List.getElem?_eq_getElem hi]
theorem tag_set {qs : List (List Int)} {k : Nat} (h : k < qs.length) : List.set (tagged qs k) k (qs.getD k [], 1) = tagged qs (k + 1) := by
  unfold tagged
  rw [gmap_set _ h]
  refine gmap_congr fun i hi => ?_
  by_cases h1 : i = k
  · rw [if_pos h1, h1, if_pos (by omega)]
  · rw [if_neg h1]
    by_cases h2 : i < k
    · rw [if_pos h2, if_pos (by omega)]
    · rw [if_neg h2, if_neg (by omega)]
theorem tagged_all {qs : List (List Int)} {k : Nat} (h : qs.length ≤ k) : tagged qs k = tagged qs qs.length := by
  unfold tagged
  refine gmap_congr fun i hi => ?_
  rw [if_pos hi, if_pos (by omega)]
theorem own_lvl {R : Type} {n k : Nat} {qs : List (List Int)} {X : Option R} {F : List Int → Option R} {Q : R → Prop} (hfin : qs.length ≤ k → Ev X Q) (hnext : k < qs.length → Ev (F (qs.getD k [])) Q) (hq : ∀ i < qs.length, (qs.getD i []).length ≤ 1000 := by assumption) :
    Ev (TM.ask (ltI (Int.ofNat k) (Int.ofNat (tagged qs 0).length)) (need (inB (Int.ofNat k) (tagged qs k).length) (need (Nat.blt ((tagged qs k).getD k ([], 0)).2 2) (bindO (sslices_Clone_int_int n ((tagged qs k).getD k ([], 0)).1) F))) X) Q := by
  rw [tagged_len, tagged_len]
  rcases Nat.lt_or_ge k qs.length with h | h
  · refine Ev.askT (lt_nc h) (Ev.need (in_nc h) ?_)
    have : (tagged qs k).getD k ([], 0) = (qs.getD k [], 0) := by
      unfold tagged
      rw [gmap_get _ h, if_neg (Nat.lt_irrefl _)]
    rw [this]
    refine Ev.need rfl ?_
    rw [e_cloneI n (hq k h), bindO_s]
    exact hnext h
  · exact Ev.askF (by rw [ltI_false]; exact Int.ofNat_le.mpr h) (hfin h)
def ownM (s : St) : shS.D := (s.1, s.2.1, s.2.2.1, s.2.2.2.1, s.2.2.2.2.1, tagged s.2.2.2.2.2.1 s.2.2.2.2.2.1.length, s.2.2.2.2.2.2)
theorem e_own (n : Nat) {f : Fl} (hf : okAll f) {s : St} (hS : okS f s) : sstep_own n s = some (ownM s) := by
  refine Ev.eq ?_
  unfold sstep_own
  have hP := hf.p
  have hD := hf.d
  have hR := hf.r
  obtain ⟨⟨l1, l2, l3, l4, l5, l6⟩, _, _, hh⟩ := hS
  rw [e_cloneI n (show s.1.length ≤ 1000 by omega), bindO_s, e_cloneB n (show s.2.1.length ≤ 1000 by omega), bindO_s, e_cloneB n (show s.2.2.1.length ≤ 1000 by omega), bindO_s, e_cloneI n (show s.2.2.2.1.length ≤ 1000 by omega), bindO_s, e_cloneI n (show s.2.2.2.2.1.length ≤ 1000 by omega), bindO_s]
  have hqs : ∀ i < s.2.2.2.2.2.1.length, (s.2.2.2.2.2.1.getD i []).length ≤ 1000 := fun i hi => by
    have hd := hf.dk (i := i) (by omega)
    have h1 := (hh i (by omega)).1
    by_cases h4 : (f.2.1.getD i d0).1 = 4
    · rw [if_pos h4] at h1
      have := hd.2.2.2.2.1 h4
      omega
    · rw [if_neg h4] at h1
      omega
  rw [bindO_eq (a := (s.1, s.2.1, s.2.2.1, s.2.2.2.1, s.2.2.2.2.1, tagged s.2.2.2.2.2.1 0, s.2.2.2.2.2.2)) (by
    rw [tagged_zero, need_t (by rw [ble_iff]; omega)]
    cases hq : s.2.2.2.2.2.1 with
    | nil =>
      show both _ _ = _
      exact both_self _
    | cons a l => rfl)]
  simp only
  unfold ownM
  generalize s.2.2.2.2.2.1 = qs at *
  have fin : ∀ k, qs.length ≤ k → Ev (some ((s.1, s.2.1, s.2.2.1, s.2.2.2.1, s.2.2.2.2.1, tagged qs k, s.2.2.2.2.2.2) : shS.D)) fun r => r = (s.1, s.2.1, s.2.2.1, s.2.2.2.1, s.2.2.2.2.1, tagged qs qs.length, s.2.2.2.2.2.2) := fun k hk => Ev.some (by rw [tagged_all hk])
  refine own_lvl (k := 0) (fun h => fin 0 h) fun h => Ev.need (by rw [tagged_len]; exact in_nc h) ?_
  rw [tag_set h]
  refine own_lvl (k := 1) (fun h => fin 1 h) fun h => Ev.need (by rw [tagged_len]; exact in_nc h) ?_
  rw [tag_set h]
  refine own_lvl (k := 2) (fun h => fin 2 h) fun h => Ev.need (by rw [tagged_len]; exact in_nc h) ?_
  rw [tag_set h]
  refine own_lvl (k := 3) (fun h => fin 3 h) fun h => Ev.need (by rw [tagged_len]; exact in_nc h) ?_
  rw [tag_set h]
  refine own_lvl (k := 4) (fun h => fin 4 h) fun h => Ev.need (by rw [tagged_len]; exact in_nc h) ?_
  rw [tag_set h]
  refine own_lvl (k := 5) (fun h => fin 5 h) fun h => Ev.need (by rw [tagged_len]; exact in_nc h) ?_
  rw [tag_set h]
  refine own_lvl (k := 6) (fun h => fin 6 h) fun h => Ev.need (by rw [tagged_len]; exact in_nc h) ?_
  rw [tag_set h]
  refine own_lvl (k := 7) (fun h => fin 7 h) fun h => Ev.need (by rw [tagged_len]; exact in_nc h) ?_
  rw [tag_set h]
  refine own_lvl (k := 8) (fun h => fin 8 h) fun h => Ev.need (by rw [tagged_len]; exact in_nc h) ?_
  rw [tag_set h]
  refine own_lvl (k := 9) (fun h => fin 9 h) fun h => Ev.need (by rw [tagged_len]; exact in_nc h) ?_
  rw [tag_set h]
  refine own_lvl (k := 10) (fun h => fin 10 h) fun h => Ev.need (by rw [tagged_len]; exact in_nc h) ?_
  rw [tag_set h]
  refine own_lvl (k := 11) (fun h => fin 11 h) fun h => Ev.need (by rw [tagged_len]; exact in_nc h) ?_
  rw [tag_set h]
  exact own_lvl (k := 12) (fun h => fin 12 h) fun h => absurd h (by omega)
end Go.Proofs.YtfbipcdllbdijaaGreat
namespace Go.Proofs.YtfbipcdllbdijaaGreat
open Go Go.TM
theorem Ev.bindR {A R : Type} {o : Option A} {a : A} {f : A → Option R} {Q : R → Prop} (h : o = some a) (h' : Ev (f a) Q) : Ev (bindO o f) Q := by rw [h]; exact h'
theorem Ev.pass {R : Type} {o : Option R} {Q : R → Prop} (h : Ev o Q) : Ev (bindO o fun x => some x) Q := Ev.bind h fun b hb => Ev.some hb
noncomputable def doK (n : Nat) (f : Fl) (v : List Int) (s : St) (p : Nat) (w : Int) (k : Nat) (x : In) : St :=
  if x.1 = 1 ∨ x.1 = 3 then (s.1.set p ((k + 1 : Nat) : Int), s.2.1, s.2.2.1, s.2.2.2.1.set x.2.2.2.2.2.1.toNat (vAt s x.2.1), s.2.2.2.2.1, s.2.2.2.2.2.1, s.2.2.2.2.2.2)
  else if x.1 = 5 then (s.1.set p ((k + 1 : Nat) : Int), s.2.1, s.2.2.1, s.2.2.2.1.set x.2.2.2.2.2.1.toNat (vAt s x.2.1), s.2.2.2.2.1.set x.2.1.toNat (vApp n f.1 [43] (vAt s x.2.1) (v.getD x.2.2.2.1.toNat 0)), s.2.2.2.2.2.1, s.2.2.2.2.2.2)
  else if x.1 = 6 then (s.1.set p ((k + 1 : Nat) : Int), s.2.1, s.2.2.1, s.2.2.2.1.set x.2.2.2.2.2.1.toNat (vAt s x.2.1), (if vAt s x.2.1 = v.getD x.2.2.2.1.toNat 0 then s.2.2.2.2.1.set x.2.1.toNat (v.getD x.2.2.2.2.1.toNat 0) else s.2.2.2.2.1), s.2.2.2.2.2.1, s.2.2.2.2.2.2)
  else if x.1 = 2 ∨ x.1 = 4 then (s.1.set p ((k + 1 : Nat) : Int), s.2.1, s.2.2.1, s.2.2.2.1, s.2.2.2.2.1.set x.2.1.toNat (v.getD x.2.2.2.1.toNat 0), s.2.2.2.2.2.1, s.2.2.2.2.2.2)
  else if x.1 = 7 then (s.1.set p ((k + 1 : Nat) : Int), s.2.1, s.2.2.1, s.2.2.2.1, s.2.2.2.2.1.set x.2.1.toNat ((p + 1 : Nat) : Int), s.2.2.2.2.2.1, s.2.2.2.2.2.2)
  else if x.1 = 8 then (s.1.set p ((k + 1 : Nat) : Int), s.2.1, s.2.2.1, s.2.2.2.1, s.2.2.2.2.1.set x.2.1.toNat 0, s.2.2.2.2.2.1, s.2.2.2.2.2.2)
  else if x.1 = 9 then (if 0 ≤ w then ((s.1.set p ((k + 1 : Nat) : Int)).set w.toNat (((nowZ f v s w).getD 0 + 1 : Nat) : Int), s.2.1, s.2.2.1, s.2.2.2.1.set (inst f w.toNat ((nowZ f v s w).getD 0)).2.2.2.2.2.1.toNat (v.getD x.2.2.2.1.toNat 0), s.2.2.2.2.1, s.2.2.2.2.2.1, s.2.2.2.2.2.2)
    else (s.1.set p ((k + 1 : Nat) : Int), s.2.1, s.2.2.1, s.2.2.2.1, s.2.2.2.2.1, s.2.2.2.2.2.1.set x.2.1.toNat (qAt s x.2.1 ++ [v.getD x.2.2.2.1.toNat 0]), s.2.2.2.2.2.2))
  else if x.1 = 10 then (s.1.set p ((k + 1 : Nat) : Int), s.2.1, s.2.2.1, s.2.2.2.1.set x.2.2.2.2.2.1.toNat ((qAt s x.2.1).getD 0 0), s.2.2.2.2.1, s.2.2.2.2.2.1.set x.2.1.toNat ((qAt s x.2.1).drop 1), s.2.2.2.2.2.2)
  else if x.1 = 11 then (s.1.set p ((k + 1 : Nat) : Int), s.2.1.set x.2.1.toNat true, s.2.2.1, s.2.2.2.1, s.2.2.2.2.1, s.2.2.2.2.2.1, s.2.2.2.2.2.2)
  else if x.1 = 12 then (s.1.set p ((k + 1 : Nat) : Int), s.2.1, s.2.2.1, s.2.2.2.1, s.2.2.2.2.1, s.2.2.2.2.2.1, s.2.2.2.2.2.2 || decide (v.getD x.2.2.2.1.toNat 0 = 0))
  else if x.1 = 13 then (s.1.set p ((k + 1 : Nat) : Int), s.2.1, s.2.2.1.set p true, s.2.2.2.1, s.2.2.2.2.1, s.2.2.2.2.2.1, s.2.2.2.2.2.2)
  else s
structure Turn (f : Fl) (v : List Int) (s : St) (p : Nat) (w : Int) (k : Nat) : Prop where
  hp : p < f.2.2.2.1.length
  hz : nowZ f v s p = some k
  hk : k < (pr f p).length
  can : canP f v s p w
theorem turn_of {f : Fl} {v : List Int} {s : St} {p : Nat} {w : Int} (hp : p < f.2.2.2.1.length) (hc : canP f v s p w) : ∃ k, Turn f v s p w k := by
  cases hz : nowZ f v s p with
  | none => exact absurd (by unfold thing; rw [hz]; rfl) hc.1
  | some k => exact ⟨k, hp, hz, by have := (nowZ_lt hz).2.2; rwa [Int.toNat_natCast] at this, hc⟩
theorem Turn.th {f : Fl} {v : List Int} {s : St} {p : Nat} {w : Int} {k : Nat} (h : Turn f v s p w k) : thing f v s p = inst f p k := by
  unfold thing
  rw [h.hz]
  show inst f ((p : Int).toNat) k = _
  rw [Int.toNat_natCast]
structure Fact (f : Fl) (s : St) (p : Nat) (x : In) : Prop where
  kind : 1 ≤ x.1 ∧ x.1 ≤ 13
  obj : x.1 ≤ 10 → 0 ≤ x.2.1 ∧ x.2.1 < f.2.1.length
  dk : x.1 ≤ 10 → (f.2.1.getD x.2.1.toNat d0).1 = kindOf x.1
  obj0 : 0 ≤ x.2.1
  go : x.1 = 11 → (p : Int) < x.2.1 ∧ x.2.1 < f.2.2.2.1.length
  rd : rdK x.1 → 0 ≤ x.2.2.2.2.2.1 ∧ x.2.2.2.2.2.1 < s.2.2.2.1.length
  a : 0 ≤ x.2.2.2.1 ∧ x.2.2.2.1 < f.2.2.1.length
  b : 0 ≤ x.2.2.2.2.1 ∧ x.2.2.2.2.1 < f.2.2.1.length
theorem fact_of {f : Fl} (hf : okAll f) {s : St} (hS : okS f s) {p k : Nat} (hp : p < f.2.2.2.1.length) (hk : k < (pr f p).length) : Fact f s p (inst f p k) := by
  obtain ⟨⟨h1, h2, h3, h4, h5, h6, h7, h8, h9⟩, h10, _⟩ := hf.inst hp hk
  have hr := hS.1.2.2.2.1
  refine ⟨h1, fun h => ?_, fun h => ?_, ?_, fun h => ?_, fun h => ?_, ?_, ?_⟩
  · unfold okObj at h2
    rw [if_neg (by omega), if_neg (by omega)] at h2
    exact h2.1
  · unfold okObj at h2
    rw [if_neg (by omega), if_neg (by omega)] at h2
    exact h2.2
  · unfold okObj at h2
    split at h2
    · omega
    · split at h2
      · omega
      · exact h2.1.1
  · unfold okObj at h2
    rw [if_pos h] at h2
    exact h2
  · have := h3.mp h
    exact ⟨this, by have := h10 this; omega⟩
  · unfold okPart at h8
    split at h8 <;> omega
  · unfold okPart at h9
    split at h9 <;> omega
theorem V_word {n : Nat} (hn : 20 ≤ n) {f : Fl} (hf : okAll f) (s : St) {a : Int} (h0 : 0 ≤ a) (h : a < f.2.2.1.length) : word f.1 ((V n f s).getD a.toNat 0) :=
  getD_mem (vals_word hn hf.2.1 s.2.2.2.1 f.2.2.1.length (Nat.le_refl _)) h0 (by rw [vals_len]; exact h)
theorem Turn.with {f : Fl} (hf : okAll f) {v : List Int} {s : St} (hS : okS f s) {p : Nat} {w : Int} {k : Nat} (h : Turn f v s p w k) :
    ((inst f p k).1 = 9 ∧ 0 ≤ w ∧ w ≠ p ∧ dNum f (inst f p k).2.1 = 0 ∧ ∃ m, nowZ f v s w = some m ∧ (inst f w.toNat m).1 = 10 ∧ (inst f w.toNat m).2.1 = (inst f p k).2.1) ∨
    (w = -1 ∧ ((inst f p k).1 = 7 → vAt s (inst f p k).2.1 = 0) ∧ ((inst f p k).1 = 9 → ((qAt s (inst f p k).2.1).length : Int) < dNum f (inst f p k).2.1) ∧ ((inst f p k).1 = 10 → 0 < (qAt s (inst f p k).2.1).length)) := by
  have hc := h.can
  unfold canP at hc
  rw [h.th] at hc
  obtain ⟨h0, hc⟩ := hc
  split at hc
  · rename_i h9
    refine .inl ⟨h9.1, by omega, by omega, h9.2, ?_⟩
    unfold thing at hc
    cases hz : nowZ f v s w with
    | none => rw [hz] at hc; exact absurd hc.2.1 (show ¬ (0 : Int) = 10 by decide)
    | some m => rw [hz] at hc; exact ⟨m, rfl, hc.2⟩
  · refine .inr ⟨hc.1, fun h7 => ?_, fun h9 => ?_, fun h10 => ?_⟩
    · have := hc.2
      rw [if_pos h7] at this
      exact this
    · have := hc.2
      rw [if_neg (by omega), if_pos h9] at this
      exact this
    · have := hc.2
      rw [if_neg (by omega), if_neg (by omega)] at this
      exact this.resolve_left (fun h => h h10)
theorem q_len {f : Fl} (hf : okAll f) {s : St} (hS : okS f s) {o : Int} (h0 : 0 ≤ o) (h : o < f.2.1.length) : (qAt s o).length ≤ 3 := by
  have hd := hf.dk (i := o.toNat) (by omega)
  have h1 := (hS.2.2.2 o.toNat (by omega)).1
  by_cases h4 : (f.2.1.getD o.toNat d0).1 = 4
  · rw [if_pos h4] at h1
    have := hd.2.2.2.2.1 h4
    show (s.2.2.2.2.2.1.getD o.toNat []).length ≤ 3
    omega
  · rw [if_neg h4] at h1
    show (s.2.2.2.2.2.1.getD o.toNat []).length ≤ 3
    omega
end Go.Proofs.YtfbipcdllbdijaaGreat
namespace Go.Proofs.YtfbipcdllbdijaaGreat
open Go Go.TM
theorem mdo_eq (n : Nat) (m : shM.D) (x1 : tTurn.D) : sstep_machine_do n m x1 = bindO
  (mnow n m x1.1)
  fun x =>
  need (inB x1.1 ((List.length x.2.1.2.2.2.1)))
  (need (inB x.1 ((List.length ((List.getD x.2.1.2.2.2.1 ((Int.toNat x1.1)) (([] : List (Int × Int × Int × Int × Int × Int × Int))))))))
  (mdoX n x x1 ((List.getD ((List.getD x.2.1.2.2.2.1 ((Int.toNat x1.1)) (([] : List (Int × Int × Int × Int × Int × Int × Int))))) ((Int.toNat x.1)) (Int.ofNat 0, Int.ofNat 0, Int.ofNat 0, Int.ofNat 0, Int.ofNat 0, Int.ofNat 0, Int.ofNat 0))))) := rfl
theorem Ev.passU {A B : Type} (g : A → B) {o : Option A} {Q : B → Prop} (h : Ev o fun x => Q (g x)) : Ev (bindO o fun x => some (g x)) Q := Ev.bind h fun b hb => Ev.some hb
def back (t : shS.D) : St := (t.1, t.2.1, t.2.2.1, t.2.2.2.1, t.2.2.2.2.1, t.2.2.2.2.2.1.map fun self => self.1, t.2.2.2.2.2.2)
def TagOk (l : List (List Int × Nat)) : Prop := (l.all fun r => Nat.blt r.2 2) = true
theorem map_tagged (qs : List (List Int)) (k : Nat) : ((tagged qs k).map fun self => self.1) = qs := by
  unfold tagged gmap
  rw [List.map_map]
  refine List.ext_getElem (by simp) fun i h1 h2 => ?_
  simp [List.getElem?_eq_getElem h2]
theorem tags_ok (qs : List (List Int)) (k : Nat) : TagOk (tagged qs k) := by
  unfold TagOk tagged gmap
  rw [List.all_eq_true]
  intro r hr
  obtain ⟨i, hi, rfl⟩ := List.mem_map.mp hr
  simp only
  split <;> rfl
theorem TagOk.set {l : List (List Int × Nat)} (h : TagOk l) (i : Nat) {x : List Int × Nat} (hx : Nat.blt x.2 2 = true) : TagOk (l.set i x) := by
  unfold TagOk at *
  rw [List.all_eq_true] at *
  intro r hr
  rcases List.mem_or_eq_of_mem_set hr with h1 | h1
  · exact h r h1
  · rw [h1]; exact hx
theorem tag_get {qs : List (List Int)} {o : Nat} (h : o < qs.length) : (tagged qs qs.length).getD o ([], 0) = (qs.getD o [], 1) := by
  unfold tagged
  rw [gmap_get _ h, if_pos h]
theorem e_mnow {n : Nat} (hn : 8193 ≤ n) {f : Fl} (hf : okAll f) {s : St} (hS : okS f s) {v : List Int} (hv : v.length = f.2.2.1.length) (p : Int) :
    Ev (mnow n (f, ownM s, v) p) fun r => r = (nowK (nowZ f v s p), (f, ownM s, v)) := by
  unfold mnow
  obtain ⟨⟨l1, l2, l3, l4, l5, l6⟩, hnx, _, _⟩ := hS
  unfold ownM
  simp only
  by_cases hp : 0 ≤ p ∧ p < f.2.2.2.1.length
  · obtain ⟨p, rfl⟩ : ∃ q : Nat, p = q := ⟨p.toNat, by omega⟩
    have hp : p < f.2.2.2.1.length := by omega
    have hpn : nowZ f v s (p : Int) = nowM f v s p := by unfold nowZ; rw [if_pos (by omega), Int.toNat_natCast]
    rw [hpn]
    rw [ask_f (b := ltI (p : Int) (Int.ofNat 0)) (by rw [ltI_false]; exact Int.natCast_nonneg _), ask_f (b := notB (ltI (p : Int) (Int.ofNat f.2.2.2.1.length))) (by rw [notB_false]; exact lt_nc hp), need_t (in_nc (by omega)), need_t (in_nc (by omega)), Int.toNat_natCast, ask_ss, bindO_s]
    by_cases hrun : s.2.1.getD p false = true ∧ s.2.2.1.getD p false = false
    · rw [hrun.1, hrun.2]
      refine Ev.askF rfl (Ev.need (in_nc hp) (Ev.need (in_nc (by omega)) ?_))
      have hnxp : 0 ≤ s.1.getD p 0 ∧ s.1.getD p 0 ≤ ((pr f p).length : Int) := hnx p hp
      have hlen : (pr f p).length ≤ 64 := hf.len hp
      show Ev (iter _ n (s.1.getD p 0)) _
      obtain ⟨k, hk⟩ : ∃ k : Nat, s.1.getD p 0 = k := ⟨(s.1.getD p 0).toNat, by omega⟩
      rw [hk] at hnxp ⊢
      have hinB : ∀ i, i < (pr f p).length → inB (inst f p i).2.2.1 v.length = true := fun i hi => by
        have hin := (hf.inst hp hi).1.2.2.2.2.2.2.1
        rw [inB_iff, hv]
        omega
      refine Ev.seekF (fun i => (i : Int)) k (pr f p).length (fun i => gv f v p i = 0) (fun i rec hki hi hg => ?_) (fun i rec hki hi hg hall => ?_) (fun rec hall => ?_) (by omega) (by omega)
      · simp only [Int.toNat_natCast]
        exact (ask_t (lt_nc hi)).trans ((need_t (in_nc hi)).trans ((need_t (hinB i hi)).trans ((ask_f (by rw [notB_false, eqI_iff]; exact hg)).trans (congrArg rec (wr_nc (by omega))))))
      · simp only [Int.toNat_natCast]
        refine Ev.askT (lt_nc hi) (Ev.need (in_nc hi) (Ev.need (hinB i hi) (Ev.askT ?_ (Ev.some ?_))))
        · rw [notB_true, eqI_false]
          exact hg
        · have : nowM f v s p = some i := nowM_some.mpr ⟨hrun, hi, by rw [hk]; omega, hg, fun j hj h => hall j (by omega) hj⟩
          rw [this]
          rfl
      · refine Ev.askF (lt_ec _) (Ev.some ?_)
        have : nowM f v s p = none := nowM_none.mpr fun _ j hj h => hall j (by omega) hj
        rw [this]
        rfl
    · refine Ev.askT (by cases h1 : s.2.1.getD p false <;> cases h2 : s.2.2.1.getD p false <;> simp_all [notB]) (Ev.some ?_)
      unfold nowM
      rw [if_neg hrun]
      rfl
  · have hz : nowZ f v s p = none := by unfold nowZ; rw [if_neg hp]
    rw [hz]
    rw [bindO_eq (a := true) (by
      by_cases h0 : p < 0
      · rw [ask_t (b := ltI p (Int.ofNat 0)) (by rw [ltI_iff]; exact h0)]
      · rw [ask_f (b := ltI p (Int.ofNat 0)) (by rw [ltI_false]; show (0 : Int) ≤ p; omega), ask_t (b := notB (ltI p (Int.ofNat f.2.2.2.1.length))) (by rw [notB_true, ltI_false]; show (f.2.2.2.1.length : Int) ≤ p; omega)])]
    exact Ev.askT rfl (Ev.some rfl)
theorem e_mdo {n : Nat} (hn : 8193 ≤ n) {f : Fl} (hf : okAll f) {s : St} (hS : okS f s) {p : Nat} {w : Int} (z : Int) {k : Nat} (ht : Turn f (V n f s) s p w k) :
    Ev (sstep_machine_do n (f, ownM s, V n f s) ((p : Int), w, z)) fun r => back r.2.2.1 = doK n f (V n f s) s p w k (inst f p k) ∧ TagOk r.2.2.1.2.2.2.2.2.1 := by
  rw [mdo_eq]
  have hp := ht.hp
  have hk := ht.hk
  have hP := hf.p
  have hD := hf.d
  have hR := hf.r
  have hw := hf.w
  have hwi := ht.with hf hS
  have hfa := fact_of hf hS hp hk
  have hkl : (pr f p).length ≤ 64 := hf.len hp
  obtain ⟨l1, l2, l3, l4, l5, l6⟩ := hS.1
  have hin := fun m (hzm : nowZ f (V n f s) s w = some m) => by
    obtain ⟨g1, g2, g3⟩ := nowZ_lt hzm
    exact fact_of hf hS (p := w.toNat) (k := m) (by omega) g3
  have hmw := fun m (hzm : nowZ f (V n f s) s w = some m) => by
    obtain ⟨g1, g2, g3⟩ := nowZ_lt hzm
    have : (pr f w.toNat).length ≤ 64 := hf.len (by omega)
    exact (show m < 64 by omega)
  refine Ev.bind (e_mnow hn hf hS (V_len n f s) (p : Int)) fun r hr => ?_
  subst hr
  rw [ht.hz]
  refine Ev.need (in_nc hp) (Ev.need (in_nc (by simp only [Int.toNat_natCast]; exact hk)) ?_)
  simp only [nowK, Int.toNat_natCast]
  have hq3 : (inst f p k).1 ≤ 10 → (qAt s (inst f p k).2.1).length ≤ 3 := fun h => q_len hf hS (hfa.obj h).1 (hfa.obj h).2
  have hwold : (inst f p k).1 = 5 → word f.1 (vAt s (inst f p k).2.1) := fun h => by
    have h1 := hfa.obj (by omega)
    have h2 := hfa.dk (by omega)
    rw [h] at h2
    exact (hS.2.2.2 (inst f p k).2.1.toNat (by omega)).2.2.1 (by rw [h2]; decide)
  have hVw := fun a h0 h => V_word (n := n) (by omega) hf s (a := a) h0 h
  have hVl := V_len n f s
  have hmn := e_mnow hn hf hS hVl w
  show Ev (mdoX n ((k : Int), f, ownM s, V n f s) ((p : Int), w, z) (inst f p k)) _
  generalize hx : inst f p k = x at *
  generalize hvv : V n f s = v at *
  unfold mdoX
  simp only
  obtain ⟨(kind : Int), (obj : Int), (g : Int), (a : Int), (b : Int), (rd : Int), (pr : Int)⟩ := x
  obtain ⟨hkind, hobj, hdk, hobj0, hgo, hrd0, ha, hb⟩ := hfa
  simp only at hkind hobj hdk hobj0 hgo hrd0 ha hb hwold hq3 hwi ⊢
  have hwa := hVw a ha.1 ha.2
  have hia : inB a v.length = true := by rw [inB_iff]; omega
  have hib : inB b v.length = true := by rw [inB_iff]; omega
  have hrd : rdK kind → inB rd s.2.2.2.1.length = true := fun h => by have := hrd0 h; rw [inB_iff]; omega
  have hob' : kind ≤ 10 → inB obj s.2.2.2.2.1.length = true := fun h => by have := hobj h; rw [inB_iff]; omega
  have hobT : kind ≤ 10 → inB obj (tagged s.2.2.2.2.2.1 s.2.2.2.2.2.1.length).length = true := fun h => by have := hobj h; rw [inB_iff, tagged_len]; omega
  have hgetT : kind ≤ 10 → (tagged s.2.2.2.2.2.1 s.2.2.2.2.2.1.length).getD obj.toNat ([], 0) = (qAt s obj, 1) := fun h => by have := hobj h; exact tag_get (by omega)
  rcases hwi with ⟨rfl, hw0, hne, _, m, hzm, h10, _⟩ | ⟨rfl, _, _, hpos⟩
  · -- with another one
    rw [ask_t (b := notB (ltI w (Int.ofNat 0))) (by rw [notB_true, ltI_false]; exact hw0)]
    obtain ⟨g1, g2, g3⟩ := nowZ_lt hzm
    have hm64 := hmw m hzm
    have hmr := (hin m hzm).rd (by rw [h10]; unfold rdK; omega)
    refine Ev.bind (Q := fun y => y = ((f, (s.1.set w.toNat ((m + 1 : Nat) : Int), s.2.1, s.2.2.1, s.2.2.2.1.set (inst f w.toNat m).2.2.2.2.2.1.toNat (v.getD a.toNat 0), s.2.2.2.2.1, tagged s.2.2.2.2.2.1 s.2.2.2.2.2.1.length, s.2.2.2.2.2.2), v) : shM.D)) ?_ fun y hy => ?_
    · refine Ev.bind hmn fun r hr => ?_
      subst hr
      rw [hzm]
      refine Ev.need (by rw [inB_iff]; show 0 ≤ w ∧ w.toNat < f.2.2.2.1.length; omega) (Ev.need (in_nc g3) (Ev.need hia (Ev.need ?_ (Ev.need ?_ (Ev.some ?_)))))
      · rw [inB_iff]
        show 0 ≤ (inst f w.toNat m).2.2.2.2.2.1 ∧ (inst f w.toNat m).2.2.2.2.2.1.toNat < s.2.2.2.1.length
        omega
      · rw [inB_iff]
        show 0 ≤ w ∧ w.toNat < s.1.length
        omega
      · simp only [nowK]
        rw [wr_nc (by omega)]
        rfl
    subst hy
    refine Ev.need (by rw [inB_iff]; show 0 ≤ (p : Int) ∧ (p : Int).toNat < (s.1.set w.toNat ((m + 1 : Nat) : Int)).length; rw [List.length_set]; omega) ?_
    simp only
    rw [wr_nc (show k < 9223372036854775807 by omega)]
    refine Ev.bindR (a := false) rfl (Ev.passU (fun x => ((), x)) (Ev.askF rfl ?_))
    refine Ev.bindR (a := false) rfl (Ev.pass (Ev.askF rfl ?_))
    refine Ev.pass (Ev.askF rfl ?_)
    refine Ev.pass (Ev.askF rfl ?_)
    refine Ev.pass (Ev.askT rfl ?_)
    refine Ev.pass (Ev.askF (by rw [ltI_false]; exact hw0) ?_)
    refine Ev.some ⟨?_, tags_ok _ _⟩
    simp only [back, doK, Int.reduceEq, reduceIte, or_false, or_true, false_or, or_self, Int.toNat_natCast, map_tagged]
    rw [if_pos hw0, hzm, List.set_comm _ _ (show w.toNat ≠ p by omega)]
    rfl
  · rw [ask_f (b := notB (ltI (-1) (Int.ofNat 0))) rfl, bindO_s]
    refine Ev.need (by rw [inB_iff]; show 0 ≤ (p : Int) ∧ (p : Int).toNat < s.1.length; omega) ?_
    unfold ownM
    simp only
    rw [wr_nc (show k < 9223372036854775807 by omega)]
    have hcs : kind = 1 ∨ kind = 2 ∨ kind = 3 ∨ kind = 4 ∨ kind = 5 ∨ kind = 6 ∨ kind = 7 ∨ kind = 8 ∨ kind = 9 ∨ kind = 10 ∨ kind = 11 ∨ kind = 12 ∨ kind = 13 := by omega
    rcases hcs with rfl | rfl | rfl | rfl | rfl | rfl | rfl | rfl | rfl | rfl | rfl | rfl | rfl
    · refine Ev.bindR (a := true) rfl (Ev.passU (fun x => ((), x)) (Ev.askT rfl ?_))
      refine Ev.need (hob' (by omega)) (Ev.need (hrd (by unfold rdK; omega)) ?_)
      refine Ev.pass (Ev.askF rfl (Ev.bindR (a := false) rfl (Ev.pass (Ev.askF rfl ?_))))
      refine Ev.some ⟨?_, tags_ok _ _⟩
      simp only [back, doK, Int.reduceEq, reduceIte, or_false, or_true, false_or, or_self, Int.toNat_natCast, map_tagged]
      all_goals rfl
    · refine Ev.bindR (a := false) rfl (Ev.passU (fun x => ((), x)) (Ev.askF rfl ?_))
      refine Ev.bindR (a := true) rfl (Ev.pass (Ev.askT rfl ?_))
      refine Ev.need hia (Ev.need (hob' (by omega)) ?_)
      refine Ev.some ⟨?_, tags_ok _ _⟩
      simp only [back, doK, Int.reduceEq, reduceIte, or_false, or_true, false_or, or_self, Int.toNat_natCast, map_tagged]
      all_goals rfl
    · refine Ev.bindR (a := true) rfl (Ev.passU (fun x => ((), x)) (Ev.askT rfl ?_))
      refine Ev.need (hob' (by omega)) (Ev.need (hrd (by unfold rdK; omega)) ?_)
      refine Ev.pass (Ev.askF rfl (Ev.bindR (a := false) rfl (Ev.pass (Ev.askF rfl ?_))))
      refine Ev.some ⟨?_, tags_ok _ _⟩
      simp only [back, doK, Int.reduceEq, reduceIte, or_false, or_true, false_or, or_self, Int.toNat_natCast, map_tagged]
      all_goals rfl
    · refine Ev.bindR (a := false) rfl (Ev.passU (fun x => ((), x)) (Ev.askF rfl ?_))
      refine Ev.bindR (a := true) rfl (Ev.pass (Ev.askT rfl ?_))
      refine Ev.need hia (Ev.need (hob' (by omega)) ?_)
      refine Ev.some ⟨?_, tags_ok _ _⟩
      simp only [back, doK, Int.reduceEq, reduceIte, or_false, or_true, false_or, or_self, Int.toNat_natCast, map_tagged]
      all_goals rfl
    · refine Ev.bindR (a := true) rfl (Ev.passU (fun x => ((), x)) (Ev.askT rfl ?_))
      refine Ev.need (hob' (by omega)) (Ev.need (hrd (by unfold rdK; omega)) ?_)
      refine Ev.pass (Ev.askT rfl (Ev.need hia (Ev.bindR (v_app (show 20 ≤ n by omega) hw (by decide) (hwold rfl) hwa).2.1 (Ev.need (hob' (by omega)) ?_))))
      refine Ev.some ⟨?_, tags_ok _ _⟩
      simp only [back, doK, Int.reduceEq, reduceIte, or_false, or_true, false_or, or_self, Int.toNat_natCast, map_tagged]
      all_goals rfl
    · refine Ev.bindR (a := true) rfl (Ev.passU (fun x => ((), x)) (Ev.askT rfl ?_))
      refine Ev.need (hob' (by omega)) (Ev.need (hrd (by unfold rdK; omega)) ?_)
      refine Ev.pass (Ev.askF rfl (Ev.bindR (a := eqI (vAt s obj) (v.getD a.toNat 0)) ((ask_t (b := eqI 6 (Int.ofNat 6)) rfl).trans (need_t hia)) (Ev.pass ?_)))
      refine Ev.ask (fun h => Ev.need hib (Ev.need (hob' (by omega)) ?_)) fun h => ?_
      · have h' : vAt s obj = v.getD a.toNat 0 := by rw [eqI_iff] at h; exact h
        refine Ev.some ⟨?_, tags_ok _ _⟩
        simp only [back, doK, Int.reduceEq, reduceIte, or_false, or_true, false_or, or_self, Int.toNat_natCast, map_tagged]
        rw [if_pos h']
        all_goals rfl
      · have h' : ¬ vAt s obj = v.getD a.toNat 0 := by rw [eqI_false] at h; exact h
        refine Ev.some ⟨?_, tags_ok _ _⟩
        simp only [back, doK, Int.reduceEq, reduceIte, or_false, or_true, false_or, or_self, Int.toNat_natCast, map_tagged]
        rw [if_neg h']
        all_goals rfl
    · refine Ev.bindR (a := false) rfl (Ev.passU (fun x => ((), x)) (Ev.askF rfl ?_))
      refine Ev.bindR (a := false) rfl (Ev.pass (Ev.askF rfl ?_))
      refine Ev.pass (Ev.askT rfl ?_)
      refine Ev.need (hob' (by omega)) ?_
      rw [wr_nc (show p < 9223372036854775807 by omega)]
      refine Ev.some ⟨?_, tags_ok _ _⟩
      simp only [back, doK, Int.reduceEq, reduceIte, or_false, or_true, false_or, or_self, Int.toNat_natCast, map_tagged]
      all_goals rfl
    · refine Ev.bindR (a := false) rfl (Ev.passU (fun x => ((), x)) (Ev.askF rfl ?_))
      refine Ev.bindR (a := false) rfl (Ev.pass (Ev.askF rfl ?_))
      refine Ev.pass (Ev.askF rfl ?_)
      refine Ev.pass (Ev.askT rfl ?_)
      refine Ev.need (hob' (by omega)) ?_
      refine Ev.some ⟨?_, tags_ok _ _⟩
      simp only [back, doK, Int.reduceEq, reduceIte, or_false, or_true, false_or, or_self, Int.toNat_natCast, map_tagged]
      all_goals rfl
    · refine Ev.bindR (a := false) rfl (Ev.passU (fun x => ((), x)) (Ev.askF rfl ?_))
      refine Ev.bindR (a := false) rfl (Ev.pass (Ev.askF rfl ?_))
      refine Ev.pass (Ev.askF rfl ?_)
      refine Ev.pass (Ev.askF rfl ?_)
      refine Ev.pass (Ev.askT rfl ?_)
      refine Ev.pass (Ev.askT rfl (Ev.need (hobT (by omega)) (Ev.need hia ?_)))
      have hgt := hgetT (by omega)
      have hq3' := hq3 (by omega)
      simp only [hgt]
      refine Ev.need rfl (Ev.need (by rw [ble_iff]; omega) (Ev.need (by rw [List.length_set]; exact hobT (by omega)) ?_))
      refine Ev.some ⟨?_, ?_⟩
      · simp only [back, doK, Int.reduceEq, reduceIte, or_false, or_true, false_or, or_self, Int.toNat_natCast, List.map_set, map_tagged, List.set_set]
        all_goals rfl
      · show TagOk _
        rw [List.set_set]
        exact (tags_ok _ _).set _ rfl
    · refine Ev.bindR (a := false) rfl (Ev.passU (fun x => ((), x)) (Ev.askF rfl ?_))
      refine Ev.bindR (a := false) rfl (Ev.pass (Ev.askF rfl ?_))
      refine Ev.pass (Ev.askF rfl ?_)
      refine Ev.pass (Ev.askF rfl ?_)
      refine Ev.pass (Ev.askF rfl ?_)
      refine Ev.pass (Ev.askT rfl ?_)
      have hq0 := hpos rfl
      have hgt := hgetT (by omega)
      refine Ev.need (hobT (by omega)) ?_
      simp only [hgt]
      refine Ev.need (by rw [andB_iff]; exact ⟨rfl, in_nc hq0⟩) (Ev.need rfl (Ev.need (by rw [andB_iff]; exact ⟨rfl, by rw [leB_d, decide_eq_true_eq]; show (0 : Int) ≤ 1 ∧ (1 : Int) ≤ ((qAt s obj).length : Int); omega⟩) (Ev.need (hrd (by unfold rdK; omega)) (Ev.need (hobT (by omega)) (Ev.need (by rw [beq_iff]) (Ev.need rfl ?_))))))
      refine Ev.some ⟨?_, (tags_ok _ _).set _ rfl⟩
      simp only [back, doK, Int.reduceEq, reduceIte, or_false, or_true, false_or, or_self, Int.toNat_natCast, List.map_set, map_tagged]
      rw [show List.take ((qAt s obj).length - 1) (List.drop 1 (qAt s obj)) = List.drop 1 (qAt s obj) from by rw [List.take_of_length_le (by rw [List.length_drop]; exact Nat.le_refl _)]]
      all_goals rfl
    · refine Ev.bindR (a := false) rfl (Ev.passU (fun x => ((), x)) (Ev.askF rfl ?_))
      refine Ev.bindR (a := false) rfl (Ev.pass (Ev.askF rfl ?_))
      refine Ev.pass (Ev.askF rfl ?_)
      refine Ev.pass (Ev.askF rfl ?_)
      refine Ev.pass (Ev.askF rfl ?_)
      refine Ev.pass (Ev.askF rfl ?_)
      refine Ev.pass (Ev.askT rfl ?_)
      refine Ev.need (by rw [inB_iff]; have := hgo rfl; show 0 ≤ obj ∧ obj.toNat < s.2.1.length; omega) ?_
      refine Ev.some ⟨?_, tags_ok _ _⟩
      simp only [back, doK, Int.reduceEq, reduceIte, or_false, or_true, false_or, or_self, Int.toNat_natCast, map_tagged]
      all_goals rfl
    · refine Ev.bindR (a := false) rfl (Ev.passU (fun x => ((), x)) (Ev.askF rfl ?_))
      refine Ev.bindR (a := false) rfl (Ev.pass (Ev.askF rfl ?_))
      refine Ev.pass (Ev.askF rfl ?_)
      refine Ev.pass (Ev.askF rfl ?_)
      refine Ev.pass (Ev.askF rfl ?_)
      refine Ev.pass (Ev.askF rfl ?_)
      refine Ev.pass (Ev.askF rfl ?_)
      refine Ev.pass (Ev.askT rfl ?_)
      refine Ev.ask (fun h => ?_) fun h => Ev.need hia ?_
      · refine Ev.some ⟨?_, tags_ok _ _⟩
        simp only [back, doK, Int.reduceEq, reduceIte, or_false, or_true, false_or, or_self, Int.toNat_natCast, map_tagged]
        rw [h, Bool.true_or]
        all_goals rfl
      · refine Ev.some ⟨?_, tags_ok _ _⟩
        simp only [back, doK, Int.reduceEq, reduceIte, or_false, or_true, false_or, or_self, Int.toNat_natCast, map_tagged]
        rw [h, Bool.false_or, eqI_d]
        all_goals rfl
    · refine Ev.bindR (a := false) rfl (Ev.passU (fun x => ((), x)) (Ev.askF rfl ?_))
      refine Ev.bindR (a := false) rfl (Ev.pass (Ev.askF rfl ?_))
      refine Ev.pass (Ev.askF rfl ?_)
      refine Ev.pass (Ev.askF rfl ?_)
      refine Ev.pass (Ev.askF rfl ?_)
      refine Ev.pass (Ev.askF rfl ?_)
      refine Ev.pass (Ev.askF rfl ?_)
      refine Ev.pass (Ev.askF rfl ?_)
      refine Ev.pass (Ev.askT rfl ?_)
      refine Ev.need (in_nc (by omega)) ?_
      refine Ev.some ⟨?_, tags_ok _ _⟩
      simp only [back, doK, Int.reduceEq, reduceIte, or_false, or_true, false_or, or_self, Int.toNat_natCast, map_tagged]
      all_goals rfl
end Go.Proofs.YtfbipcdllbdijaaGreat
namespace Go.Proofs.YtfbipcdllbdijaaGreat
open Go Go.TM
theorem ext_getD {α : Type} {a b : List α} (d : α) (hl : a.length = b.length) (h : ∀ i < a.length, a.getD i d = b.getD i d) : a = b := by
  refine List.ext_getElem hl fun i h1 h2 => ?_
  have := h i h1
  rw [List.getD_eq_getElem?_getD, List.getD_eq_getElem?_getD, List.getElem?_eq_getElem h1, List.getElem?_eq_getElem h2] at this
  exact this
theorem e_Ints {n : Nat} (hn : 8193 ≤ n) {a b : List Int} (ha : a.length ≤ 8000) : sref01_Ints n a b = some (decide (a = b)) := by
  refine Ev.dec ?_
  unfold sref01_Ints
  refine Ev.stage (P := True) (fun h hq => ?_) fun h => ?_
  · rw [notB_true, eqI_false] at h
    exact h (by rw [hq])
  have hl : a.length = b.length := by
    rw [notB_false, eqI_iff] at h
    exact Int.ofNat.inj h
  refine Ev.mono (Ev.all (fun i => (i : Int)) a.length (fun i => a.getD i 0 = b.getD i 0) (fun i rec hi h => ?_) (fun rec => ?_) n 0 (Nat.zero_le _) (by omega)) fun c hc => hc.trans ⟨fun h => ext_getD 0 hl fun i hi => h i (Nat.zero_le _) hi, fun h i _ _ => by rw [h]⟩
  · rw [ask_t (lt_nc hi), need_t (in_nc hi), need_t (in_nc (by omega)), Int.toNat_natCast, wr_nc (by omega)]
    exact Ev.roundN hi (by rw [notB_true, eqI_false]; exact Iff.rfl) h
  · exact ask_f (lt_ec _)
abbrev Tn : Type := Int × Int × Int
theorem tn_eq (a b : Tn) : andB (eqI a.1 b.1) (andB (eqI a.2.1 b.2.1) (eqI a.2.2 b.2.2)) = true ↔ a = b := by
  obtain ⟨a1, a2, a3⟩ := a
  obtain ⟨b1, b2, b3⟩ := b
  rw [andB_iff, andB_iff, eqI_iff, eqI_iff, eqI_iff]
  simp
theorem e_hasTurn {n : Nat} (hn : 8193 ≤ n) {l : List Tn} (hl : l.length ≤ 8000) (t : Tn) : sslices_Contains_api_Turn_api_Turn n l t = some (decide (t ∈ l)) := by
  refine Ev.dec ?_
  unfold sslices_Contains_api_Turn_api_Turn
  refine Ev.bind (Q := fun r => 0 ≤ r ↔ t ∈ l) ?_ fun r hr => Ev.some ?_
  · unfold sslices_Index_api_Turn_api_Turn
    refine Ev.seek (fun i => (i : Int)) l.length (fun i => l.getD i (0, 0, 0) ≠ t) (fun i rec hi hp => ?_) (fun i rec hi hp _ => ?_) (fun rec hall => ?_) n 0 (Nat.zero_le _) (by omega) (fun k hk => absurd hk (Nat.not_lt_zero _))
    · rw [ask_t (lt_nc hi), need_t (in_nc hi), Int.toNat_natCast, wr_nc (by omega)]
      exact ask_f (by rw [← Bool.not_eq_true]; exact fun h => hp ((tn_eq t (l.getD i (0, 0, 0))).mp h).symm)
    · have hp := Classical.not_not.mp hp
      refine Ev.askT (lt_nc hi) (Ev.need (in_nc hi) ?_)
      rw [Int.toNat_natCast]
      refine Ev.askT ((tn_eq t (l.getD i (0, 0, 0))).mpr hp.symm) (Ev.some ⟨fun _ => ?_, fun _ => Int.natCast_nonneg _⟩)
      rw [← hp, List.getD_eq_getElem?_getD, List.getElem?_eq_getElem hi]
      exact List.getElem_mem _
    · refine Ev.askF (lt_ec _) (Ev.some ⟨fun h => absurd h (by decide), fun h => ?_⟩)
      obtain ⟨i, hi, h⟩ := List.mem_iff_getElem.mp h
      refine absurd ?_ (hall i hi)
      rw [List.getD_eq_getElem?_getD, List.getElem?_eq_getElem hi]
      exact h
  · rw [notB_true, ltI_false]
    exact hr
theorem canP_ws {f : Fl} {v : List Int} {s : St} {p w : Int} (h : canP f v s p w) : w ∈ ws f.2.2.2.1.length := by
  rw [ws_eq, List.mem_cons, List.mem_map]
  unfold canP at h
  obtain ⟨_, h⟩ := h
  split at h
  · right
    have h10 := h.2.1
    unfold thing at h10
    cases hz : nowZ f v s w with
    | none => rw [hz] at h10; exact absurd h10 (show ¬ (0 : Int) = 10 by decide)
    | some m =>
      have := (nowZ_lt hz).1
      exact ⟨w.toNat, by rw [List.mem_range]; omega, by omega⟩
  · exact .inl h.1
theorem mem_turns {f : Fl} {v : List Int} {s : St} {t : Tn} : t ∈ turnsM f v s ↔ (0 ≤ t.1 ∧ t.1 < f.2.2.2.1.length) ∧ canP f v s t.1 t.2.1 ∧ t.2.2 = -1 := by
  unfold turnsM accM
  rw [List.mem_flatMap]
  constructor
  · rintro ⟨p, hp, h⟩
    rw [List.mem_range] at hp
    unfold tp at h
    obtain ⟨w, hw, rfl⟩ := List.mem_map.mp h
    unfold partsM at hw
    rw [List.mem_filter, decide_eq_true_eq] at hw
    exact ⟨⟨Int.natCast_nonneg _, by show (p : Int) < _; omega⟩, hw.2, rfl⟩
  · obtain ⟨p, w, z⟩ := t
    rintro ⟨⟨h1, h2⟩, h3, h4⟩
    simp only at h1 h2 h3 h4
    refine ⟨p.toNat, by rw [List.mem_range]; omega, ?_⟩
    unfold tp
    rw [List.mem_map]
    refine ⟨w, ?_, ?_⟩
    · unfold partsM
      rw [List.mem_filter, decide_eq_true_eq]
      refine ⟨canP_ws h3, ?_⟩
      rw [show ((p.toNat : Nat) : Int) = p from by omega]
      exact h3
    · rw [show ((p.toNat : Nat) : Int) = p from by omega, h4]
theorem turns_len {f : Fl} (hf : okAll f) (v : List Int) (s : St) : (turnsM f v s).length ≤ 42 := accM_small hf.p.2 v s hf.p.2
noncomputable def doM (n : Nat) (f : Fl) (s : St) (t : Tn) : St := doK n f (V n f s) s t.1.toNat t.2.1 ((nowM f (V n f s) s t.1.toNat).getD 0) (inst f t.1.toNat ((nowM f (V n f s) s t.1.toNat).getD 0))
theorem turn_mem {f : Fl} {v : List Int} {s : St} {t : Tn} (h : t ∈ turnsM f v s) : ∃ p k : Nat, t = ((p : Int), t.2.1, -1) ∧ Turn f v s p t.2.1 k ∧ nowM f v s p = some k := by
  obtain ⟨h1, h2, h3⟩ := mem_turns.mp h
  obtain ⟨p, w, z⟩ := t
  simp only at h1 h2 h3
  obtain ⟨p, rfl⟩ : ∃ q : Nat, p = q := ⟨p.toNat, by omega⟩
  obtain ⟨k, hk⟩ := turn_of (p := p) (by omega) h2
  refine ⟨p, k, by rw [h3], hk, ?_⟩
  have := (nowZ_lt hk.hz).2.1
  rwa [Int.toNat_natCast] at this
theorem e_evalV {n : Nat} (hn : 8193 ≤ n) {f : Fl} (hf : okAll f) (s : St) : sterm_Eval n f.1 f.2.2.1 s.2.2.2.1 = some (V n f s) := e_term_Eval hn hf.2.1 _
theorem e_Do {n : Nat} (hn : 8193 ≤ n) {f : Fl} (hl : lightF f) (hf : okAll f) {s : St} (hS : okS f s) (t : Tn) : sstep_Do n f s t = some (if t ∈ turnsM f (V n f s) s then (doM n f s t, 0) else (s, 4)) := by
  refine Ev.eq ?_
  unfold sstep_Do
  refine Ev.bind (e_stepCheck hn hl s) fun r hr => ?_
  rw [hr.2.mpr ⟨hf, hS⟩]
  refine Ev.askF rfl ?_
  rw [e_evalV hn hf s, bindO_s]
  refine Ev.bindR (e_mTurns hn hf hS (V_len n f s)) ?_
  simp only
  rw [e_hasTurn hn (by have := turns_len hf (V n f s) s; omega), bindO_s]
  by_cases hm : t ∈ turnsM f (V n f s) s
  · rw [if_pos hm, decide_eq_true hm]
    refine Ev.askF rfl ?_
    rw [e_own n hf hS, bindO_s]
    obtain ⟨p, k, h1, h2, h3⟩ := turn_mem hm
    have := e_mdo hn hf hS (-1) h2
    rw [← h1] at this
    refine Ev.bind this fun r hr => Ev.need (by rw [andB_iff]; exact ⟨hr.2, rfl⟩) (Ev.some ?_)
    refine Prod.ext ?_ rfl
    refine hr.1.trans ?_
    unfold doM
    rw [h1]
    simp only [Int.toNat_natCast, h3, Option.getD_some]
  · rw [if_neg hm, decide_eq_false hm]
    refine Ev.askT rfl ?_
    rw [e_own n hf hS, bindO_s]
    refine Ev.need (by rw [andB_iff]; exact ⟨tags_ok _ _, rfl⟩) (Ev.some ?_)
    unfold ownM
    simp only [map_tagged]
    rfl
end Go.Proofs.YtfbipcdllbdijaaGreat
namespace Go.Proofs.YtfbipcdllbdijaaGreat
open Go Go.TM
theorem getD_set {α : Type} (l : List α) (i : Nat) (x d : α) (j : Nat) : (l.set i x).getD j d = if i = j ∧ j < l.length then x else l.getD j d := by
  rw [List.getD_eq_getElem?_getD, List.getD_eq_getElem?_getD, List.getElem?_set]
  by_cases hi : i = j
  · subst hi
    rw [if_pos rfl]
    by_cases h : i < l.length
    · rw [if_pos h, if_pos ⟨rfl, h⟩]; rfl
    · rw [if_neg h, if_neg fun h' => h h'.2, List.getElem?_eq_none (by omega)]
  · rw [if_neg hi, if_neg fun h => hi h.1]
theorem allW_set {w : Int} {l : List Int} (h : allW w l) {i : Nat} {x : Int} (hx : word w x) : allW w (l.set i x) := by
  intro j hj
  rw [List.length_set] at hj
  rw [getD_set]
  split
  · exact hx
  · exact h j hj
theorem allW_app {w : Int} {l : List Int} (h : allW w l) {x : Int} (hx : word w x) : allW w (l ++ [x]) := by
  intro j hj
  rw [List.length_append] at hj
  rw [List.getD_eq_getElem?_getD]
  rcases Nat.lt_or_ge j l.length with h1 | h1
  · rw [List.getElem?_append_left h1, ← List.getD_eq_getElem?_getD]
    exact h j h1
  · rw [List.getElem?_append_right h1, show j - l.length = 0 from by simp at hj; omega]
    exact hx
theorem allW_drop {w : Int} {l : List Int} (h : allW w l) : allW w (l.drop 1) := by
  intro j hj
  rw [List.length_drop] at hj
  rw [List.getD_eq_getElem?_getD, List.getElem?_drop, ← List.getD_eq_getElem?_getD]
  exact h _ (by omega)
def nextOk (f : Fl) (nx : List Int) : Prop := nx.length = f.2.2.2.1.length ∧ ∀ p < f.2.2.2.1.length, 0 ≤ nx.getD p 0 ∧ nx.getD p 0 ≤ ((f.2.2.2.1.getD p []).length : Int)
theorem next_set {f : Fl} {nx : List Int} (h : nextOk f nx) {p k : Nat} (hp : p < f.2.2.2.1.length) (hk : k < (pr f p).length) : nextOk f (nx.set p ((k + 1 : Nat) : Int)) := by
  refine ⟨by rw [List.length_set]; exact h.1, fun q hq => ?_⟩
  rw [getD_set]
  split
  · rename_i he
    rw [← he.1]
    have : k < (f.2.2.2.1.getD p []).length := hk
    omega
  · exact h.2 q hq
theorem okS_set {f : Fl} (hf : okAll f) {s : St} (hS : okS f s) {nx : List Int} {rs mk : List Bool} {rd vs : List Int} {qs : List (List Int)} {fl : Bool} (h1 : nextOk f nx) (h2 : rs.length = f.2.2.2.1.length) (h3 : mk.length = f.2.2.2.1.length)
    (h4 : rd.length = s.2.2.2.1.length) (h5 : allW f.1 rd) (h6 : vs.length = s.2.2.2.2.1.length) (h7 : qs.length = s.2.2.2.2.2.1.length)
    (h8 : ∀ i < f.2.1.length, okHeld f.1 f.2.2.2.1.length (f.2.1.getD i d0) (vs.getD i 0) (qs.getD i [])) : okS f (nx, rs, mk, rd, vs, qs, fl) := by
  obtain ⟨⟨l1, l2, l3, l4, l5, l6⟩, _, _, _⟩ := hS
  exact ⟨⟨h1.1, h2, h3, by show (rd.length : Int) = _; rw [h4]; exact l4, h6.trans l5, h7.trans l6⟩, h1.2, h5, h8⟩
theorem held_v {f : Fl} {s : St} (hS : okS f s) {o v : Int} (ho : 0 ≤ o ∧ o < f.2.1.length) (hv : okHeld f.1 f.2.2.2.1.length (f.2.1.getD o.toNat d0) v (qAt s o)) :
    ∀ i < f.2.1.length, okHeld f.1 f.2.2.2.1.length (f.2.1.getD i d0) ((s.2.2.2.2.1.set o.toNat v).getD i 0) (s.2.2.2.2.2.1.getD i []) := by
  intro i hi
  rw [getD_set]
  split
  · rename_i h
    rw [← h.1]
    exact hv
  · exact hS.2.2.2 i hi
theorem held_q {f : Fl} {s : St} (hS : okS f s) {o : Int} {q : List Int} (ho : 0 ≤ o ∧ o < f.2.1.length) (hv : okHeld f.1 f.2.2.2.1.length (f.2.1.getD o.toNat d0) (vAt s o) q) :
    ∀ i < f.2.1.length, okHeld f.1 f.2.2.2.1.length (f.2.1.getD i d0) (s.2.2.2.2.1.getD i 0) ((s.2.2.2.2.2.1.set o.toNat q).getD i []) := by
  intro i hi
  rw [getD_set]
  split
  · rename_i h
    rw [← h.1]
    exact hv
  · exact hS.2.2.2 i hi
theorem okS_do {n : Nat} (hn : 8193 ≤ n) {f : Fl} (hf : okAll f) {s : St} (hS : okS f s) {p : Nat} {w : Int} {k : Nat} (ht : Turn f (V n f s) s p w k) : okS f (doK n f (V n f s) s p w k (inst f p k)) := by
  have hp := ht.hp
  have hk := ht.hk
  have hw := hf.w
  have hwi := ht.with hf hS
  have hfa := fact_of hf hS hp hk
  have hmm := fun m (hzm : nowZ f (V n f s) s w = some m) => by
    obtain ⟨g1, g2, g3⟩ := nowZ_lt hzm
    exact g3
  have hmw := fun m (hzm : nowZ f (V n f s) s w = some m) => by
    obtain ⟨g1, g2, g3⟩ := nowZ_lt hzm
    exact g1
  have hnx0 : nextOk f (s.1.set p ((k + 1 : Nat) : Int)) := next_set ⟨hS.1.1, hS.2.1⟩ hp hk
  have hVw := fun a h0 h => V_word (n := n) (by omega) hf s (a := a) h0 h
  generalize inst f p k = x at *
  obtain ⟨(kind : Int), (obj : Int), (g : Int), (a : Int), (b : Int), (rd : Int), (pr : Int)⟩ := x
  obtain ⟨hkind, hobj, hdk, hobj0, hgo, hrd0, ha, hb⟩ := hfa
  simp only at hkind hobj hdk hobj0 hgo hrd0 ha hb hwi
  have hwa := hVw a ha.1 ha.2
  have hwb := hVw b hb.1 hb.2
  have hheld := fun (h : kind ≤ 10) => hS.2.2.2 obj.toNat (by have := hobj h; omega)
  have hold : kind = 1 ∨ kind = 3 ∨ kind = 5 ∨ kind = 6 → word f.1 (vAt s obj) := fun h => by
    refine (hheld (by omega)).2.2.1 ?_
    rw [hdk (by omega)]
    rcases h with rfl | rfl | rfl | rfl <;> decide
  have hvw : kind = 2 ∨ kind = 4 ∨ kind = 5 ∨ kind = 6 → ∀ {v}, word f.1 v → okHeld f.1 f.2.2.2.1.length (f.2.1.getD obj.toNat d0) v (qAt s obj) := fun h v hv => by
    have h1 := hheld (by omega)
    have h2 := hdk (by omega)
    refine ⟨h1.1, h1.2.1, fun _ => hv, fun h3 => ?_, fun h4 => ?_⟩
    · rw [h2] at h3; rcases h with rfl | rfl | rfl | rfl <;> exact absurd h3 (by decide)
    · rw [h2] at h4; rcases h with rfl | rfl | rfl | rfl <;> exact absurd h4 (by decide)
  have hmx : kind = 7 ∨ kind = 8 → ∀ {v : Int}, (0 ≤ v ∧ v ≤ (f.2.2.2.1.length : Int)) → okHeld f.1 f.2.2.2.1.length (f.2.1.getD obj.toNat d0) v (qAt s obj) := fun h v hv => by
    have h1 := hheld (by omega)
    have h2 := hdk (by omega)
    refine ⟨h1.1, h1.2.1, fun h3 => ?_, fun _ => hv, fun h4 => ?_⟩
    · rw [h2] at h3; rcases h with rfl | rfl <;> exact absurd h3 (by decide)
    · rw [h2] at h4; rcases h with rfl | rfl <;> exact absurd h4 (by decide)
  have hch : kind = 9 ∨ kind = 10 → ∀ {q : List Int}, ((q.length : Int) ≤ dNum f obj ∧ allW f.1 q) → okHeld f.1 f.2.2.2.1.length (f.2.1.getD obj.toNat d0) (vAt s obj) q := fun h q hq => by
    have h1 := hheld (by omega)
    have h2 : (f.2.1.getD obj.toNat d0).1 = 4 := by rw [hdk (by omega)]; rcases h with rfl | rfl <;> rfl
    exact ⟨by rw [if_pos h2]; exact hq.1, hq.2, h1.2.2.1, h1.2.2.2.1, h1.2.2.2.2⟩
  have hq : kind = 9 ∨ kind = 10 → allW f.1 (qAt s obj) := fun h => (hheld (by omega)).2.1
  have hqn : kind = 9 ∨ kind = 10 → ((qAt s obj).length : Int) ≤ dNum f obj := fun h => by
    have h1 := (hheld (by omega)).1
    have h2 : (f.2.1.getD obj.toNat d0).1 = 4 := by rw [hdk (by omega)]; rcases h with rfl | rfl <;> rfl
    rw [if_pos h2] at h1
    exact h1
  have hpos : kind = 10 → 0 < (qAt s obj).length := fun h => by
    rcases hwi with h1 | h1
    · omega
    · exact h1.2.2.2 h
  have hcs : kind = 1 ∨ kind = 2 ∨ kind = 3 ∨ kind = 4 ∨ kind = 5 ∨ kind = 6 ∨ kind = 7 ∨ kind = 8 ∨ kind = 9 ∨ kind = 10 ∨ kind = 11 ∨ kind = 12 ∨ kind = 13 := by omega
  rcases hcs with rfl | rfl | rfl | rfl | rfl | rfl | rfl | rfl | rfl | rfl | rfl | rfl | rfl
  · simp only [doK, Int.reduceEq, reduceIte, or_false, or_true, false_or, or_self]
    exact okS_set hf hS (hnx0) (hS.1.2.1) hS.1.2.2.1 (by rw [List.length_set]) (allW_set hS.2.2.1 (hold (by omega))) rfl rfl hS.2.2.2
  · simp only [doK, Int.reduceEq, reduceIte, or_false, or_true, false_or, or_self]
    exact okS_set hf hS (hnx0) (hS.1.2.1) hS.1.2.2.1 rfl hS.2.2.1 (by rw [List.length_set]) rfl (held_v hS (hobj (by omega)) (hvw (by omega) hwa))
  · simp only [doK, Int.reduceEq, reduceIte, or_false, or_true, false_or, or_self]
    exact okS_set hf hS (hnx0) (hS.1.2.1) hS.1.2.2.1 (by rw [List.length_set]) (allW_set hS.2.2.1 (hold (by omega))) rfl rfl hS.2.2.2
  · simp only [doK, Int.reduceEq, reduceIte, or_false, or_true, false_or, or_self]
    exact okS_set hf hS (hnx0) (hS.1.2.1) hS.1.2.2.1 rfl hS.2.2.1 (by rw [List.length_set]) rfl (held_v hS (hobj (by omega)) (hvw (by omega) hwa))
  · simp only [doK, Int.reduceEq, reduceIte, or_false, or_true, false_or, or_self]
    exact okS_set hf hS (hnx0) (hS.1.2.1) hS.1.2.2.1 (by rw [List.length_set]) (allW_set hS.2.2.1 (hold (by omega))) (by rw [List.length_set]) rfl (held_v hS (hobj (by omega)) (hvw (by omega) (v_app (show 20 ≤ n by omega) hw (by decide) (hold (by omega)) hwa).2.2))
  · simp only [doK, Int.reduceEq, reduceIte, or_false, or_true, false_or, or_self]
    by_cases h' : vAt s obj = (V n f s).getD a.toNat 0
    · rw [if_pos h']
      exact okS_set hf hS (hnx0) (hS.1.2.1) hS.1.2.2.1 (by rw [List.length_set]) (allW_set hS.2.2.1 (hold (by omega))) (by rw [List.length_set]) rfl (held_v hS (hobj (by omega)) (hvw (by omega) hwb))
    · rw [if_neg h']
      exact okS_set hf hS (hnx0) (hS.1.2.1) hS.1.2.2.1 (by rw [List.length_set]) (allW_set hS.2.2.1 (hold (by omega))) rfl rfl hS.2.2.2
  · simp only [doK, Int.reduceEq, reduceIte, or_false, or_true, false_or, or_self]
    exact okS_set hf hS (hnx0) (hS.1.2.1) hS.1.2.2.1 rfl hS.2.2.1 (by rw [List.length_set]) rfl (held_v hS (hobj (by omega)) (hmx (by omega) ⟨by omega, by omega⟩))
  · simp only [doK, Int.reduceEq, reduceIte, or_false, or_true, false_or, or_self]
    exact okS_set hf hS (hnx0) (hS.1.2.1) hS.1.2.2.1 rfl hS.2.2.1 (by rw [List.length_set]) rfl (held_v hS (hobj (by omega)) (hmx (by omega) ⟨by omega, by omega⟩))
  · simp only [doK, Int.reduceEq, reduceIte, or_false, or_true, false_or, or_self]
    rcases hwi with ⟨_, hw0, hne, _, m, hzm, h10, _⟩ | ⟨rfl, _, hlt, _⟩
    · rw [if_pos hw0, hzm]
      exact okS_set hf hS (next_set (hnx0) (by have := hmw m hzm; omega) (hmm m hzm)) (hS.1.2.1) hS.1.2.2.1 (by rw [List.length_set]) (allW_set hS.2.2.1 hwa) rfl rfl hS.2.2.2
    · rw [if_neg (by decide)]
      exact okS_set hf hS (hnx0) (hS.1.2.1) hS.1.2.2.1 rfl hS.2.2.1 rfl (by rw [List.length_set]) (held_q hS (hobj (by omega)) (hch (by omega) ⟨by rw [List.length_append]; have := hlt rfl; show (((qAt s obj).length + 1 : Nat) : Int) ≤ dNum f obj; omega, allW_app (hq (by omega)) hwa⟩))
  · simp only [doK, Int.reduceEq, reduceIte, or_false, or_true, false_or, or_self]
    have hq0 := hpos rfl
    exact okS_set hf hS (hnx0) (hS.1.2.1) hS.1.2.2.1 (by rw [List.length_set]) (allW_set hS.2.2.1 ((hq (by omega)) 0 hq0)) rfl (by rw [List.length_set]) (held_q hS (hobj (by omega)) (hch (by omega) ⟨by rw [List.length_drop]; have := hqn (by omega); omega, allW_drop (hq (by omega))⟩))
  · simp only [doK, Int.reduceEq, reduceIte, or_false, or_true, false_or, or_self]
    exact okS_set hf hS (hnx0) (by rw [List.length_set]; exact hS.1.2.1) hS.1.2.2.1 rfl hS.2.2.1 rfl rfl hS.2.2.2
  · simp only [doK, Int.reduceEq, reduceIte, or_false, or_true, false_or, or_self]
    exact okS_set hf hS (hnx0) (hS.1.2.1) hS.1.2.2.1 rfl hS.2.2.1 rfl rfl hS.2.2.2
  · simp only [doK, Int.reduceEq, reduceIte, or_false, or_true, false_or, or_self]
    exact okS_set hf hS (hnx0) (hS.1.2.1) (by rw [List.length_set]; exact hS.1.2.2.1) rfl hS.2.2.1 rfl rfl hS.2.2.2
theorem okS_doM {n : Nat} (hn : 8193 ≤ n) {f : Fl} (hf : okAll f) {s : St} (hS : okS f s) {t : Tn} (h : t ∈ turnsM f (V n f s) s) : okS f (doM n f s t) := by
  obtain ⟨p, k, h1, h2, h3⟩ := turn_mem h
  have := okS_do hn hf hS h2
  unfold doM
  rw [h1]
  simp only [Int.toNat_natCast, h3, Option.getD_some]
  exact this
def waitP (f : Fl) (v : List Int) (s : St) (p : Int) : Prop := (nowZ f v s p).isSome = true ∧ ∀ t ∈ turnsM f v s, ¬ (t.1 = p ∨ t.2.1 = p)
instance (f : Fl) (v : List Int) (s : St) (p : Int) : Decidable (waitP f v s p) := by unfold waitP; infer_instance
def waitsM (f : Fl) (v : List Int) (s : St) : List Int := ((List.range f.2.2.2.1.length).map fun j : Nat => (j : Int)).filter fun p => decide (waitP f v s p)
theorem waits_succ (f : Fl) (v : List Int) (s : St) (p : Nat) : ((List.range (p + 1)).map fun j : Nat => (j : Int)).filter (fun p => decide (waitP f v s p)) = ((List.range p).map fun j : Nat => (j : Int)).filter (fun p => decide (waitP f v s p)) ++ if waitP f v s p then [(p : Int)] else [] := by
  rw [List.range_succ, List.map_append, List.filter_append]
  congr 1
  by_cases h : waitP f v s p
  · rw [List.map_cons, List.filter_cons, if_pos (decide_eq_true h), if_pos h]; rfl
  · rw [List.map_cons, List.filter_cons, if_neg (by rw [decide_eq_true_eq]; exact h), if_neg h]; rfl
theorem waits_small {f : Fl} (hf : okAll f) (v : List Int) (s : St) {p : Nat} (hp : p ≤ f.2.2.2.1.length) : (((List.range p).map fun j : Nat => (j : Int)).filter (fun p => decide (waitP f v s p))).length ≤ 6 := by
  refine Nat.le_trans (List.length_filter_le _ _) ?_
  rw [List.length_map, List.length_range]
  have := hf.p
  omega
theorem e_waits {n : Nat} (hn : 8193 ≤ n) {f : Fl} (hl : lightF f) (hf : okAll f) {s : St} (hS : okS f s) : sstep_Waits n f s = some (waitsM f (V n f s) s) := by
  refine Ev.eq ?_
  unfold sstep_Waits
  have hP := hf.p
  refine Ev.bind (e_stepCheck hn hl s) fun r hr => ?_
  rw [hr.2.mpr ⟨hf, hS⟩]
  refine Ev.askF rfl ?_
  rw [e_evalV hn hf s, bindO_s]
  refine Ev.bindR (e_mTurns hn hf hS (V_len n f s)) ?_
  simp only
  have htl := turns_len hf (V n f s) s
  refine Ev.forN f.2.2.2.1.length (fun p (x : List Int × Int × Fl × St × List Int) => x = (((List.range p).map fun j : Nat => (j : Int)).filter (fun p => decide (waitP f (V n f s) s p)), (p : Int), (f, s, V n f s))) (fun p x rec hp hx hrec => ?_) (fun x rec hx => ?_) n 0 _ rfl (Nat.zero_le _) (by omega)
  · subst hx
    refine Ev.askT (lt_nc hp) ?_
    refine Ev.bind (e_mNow hn hf hS (V_len n f s) (p : Int)) fun r hr => ?_
    subst hr
    simp only
    have hsm := waits_small hf (V n f s) s (p := p) (by omega)
    refine Ev.bind (Q := fun b => b = true ↔ waitP f (V n f s) s p) ?_ fun b hb => ?_
    · refine Ev.ask (fun h => ?_) fun h => Ev.some ⟨fun e => (by cases e), fun h2 => absurd h2.1 (by rw [h]; decide)⟩
      refine Ev.seek (fun j => (j : Int)) (turnsM f (V n f s) s).length (fun j => ¬ (((turnsM f (V n f s) s).getD j (0, 0, 0)).1 = p ∨ ((turnsM f (V n f s) s).getD j (0, 0, 0)).2.1 = p)) (fun j rec1 hj hjj => ?_) (fun j rec1 hj hjj _ => ?_) (fun rec1 hall => ?_) n 0 (Nat.zero_le _) (by omega) (fun k hk => absurd hk (Nat.not_lt_zero _))
      · rw [ask_t (lt_nc hj), need_t (in_nc hj), Int.toNat_natCast, wr_nc (by omega), ask_ss, bindO_s]
        refine ask_f ?_
        have h1 : eqI ((turnsM f (V n f s) s).getD j (Int.ofNat 0, Int.ofNat 0, Int.ofNat 0)).1 (p : Int) = false := by rw [eqI_false]; exact fun h => hjj (.inl h)
        have h2 : eqI ((turnsM f (V n f s) s).getD j (Int.ofNat 0, Int.ofNat 0, Int.ofNat 0)).2.1 (p : Int) = false := by rw [eqI_false]; exact fun h => hjj (.inr h)
        rw [h1, h2]
        rfl
      · have hjj := Classical.not_not.mp hjj
        refine Ev.askT (lt_nc hj) (Ev.need (in_nc hj) ?_)
        rw [Int.toNat_natCast]
        refine Ev.bind (Q := fun b => b = true) ?_ fun b hb => ?_
        · refine Ev.ask (fun _ => Ev.some rfl) fun h1 => Ev.some ?_
          rw [eqI_false] at h1
          rw [eqI_iff]
          exact hjj.resolve_left h1
        · subst hb
          refine Ev.askT rfl (Ev.some ?_)
          rw [notB_true, notB_false, ltI_iff]
          constructor
          · intro h3; exact absurd h3 (Int.not_lt.mpr (Int.natCast_nonneg j))
          · intro h3
            refine absurd hjj (h3.2 _ ?_)
            rw [List.getD_eq_getElem?_getD, List.getElem?_eq_getElem hj]
            exact List.getElem_mem _
      · refine Ev.askF (lt_ec _) (Ev.some ⟨fun _ => ⟨h, fun t ht h4 => ?_⟩, fun _ => rfl⟩)
        obtain ⟨i, hi, rfl⟩ := List.mem_iff_getElem.mp ht
        refine hall i hi ?_
        rw [List.getD_eq_getElem?_getD, List.getElem?_eq_getElem hi]
        exact h4
    · refine Ev.bind (Q := fun y => y = ((List.range (p + 1)).map fun j : Nat => (j : Int)).filter (fun p => decide (waitP f (V n f s) s p))) ?_ fun y hy => ?_
      · rw [waits_succ]
        refine Ev.ask (fun h => Ev.need (by rw [ble_iff]; omega) (Ev.some ?_)) fun h => Ev.some ?_
        · rw [if_pos (hb.mp h)]
        · rw [if_neg fun h2 => by rw [hb.mpr h2] at h; cases h]
          simp
      · subst hy
        rw [wr_nc (by omega)]
        exact hrec _ rfl
  · subst hx
    exact Ev.askF (lt_ec _) (Ev.some rfl)
end Go.Proofs.YtfbipcdllbdijaaGreat
namespace Go.Proofs.YtfbipcdllbdijaaGreat
open Go Go.TM
def beginV (f : Fl) : List Int := gmap f.2.1.length fun i => if (f.2.1.getD i d0).1 = 1 ∨ (f.2.1.getD i d0).1 = 2 then (f.2.1.getD i d0).2.2.1 else 0
def beginM (f : Fl) : St := (List.replicate f.2.2.2.1.length 0, (List.replicate f.2.2.2.1.length false).set 0 true, List.replicate f.2.2.2.1.length false, List.replicate f.2.2.2.2.toNat 0, beginV f, List.replicate f.2.1.length [], false)
theorem e_Begin {n : Nat} (hn : 8193 ≤ n) {f : Fl} (hl : lightF f) (hf : okAll f) : sstep_Begin n f = some (beginM f, 0) := by
  refine Ev.eq ?_
  unfold sstep_Begin
  obtain ⟨r, hr1, hr2, hr3⟩ := e_uCheck hn hl
  rw [hr1, bindO_s, hr3.mpr hf]
  refine Ev.askF rfl ?_
  have hP := hf.p
  have hD := hf.d
  have hR := hf.r
  refine Ev.bindR (permsR_eq 7 _ rfl (by
    intro c hc
    simp only [List.mem_cons, List.not_mem_nil, or_false] at hc
    have h1 : ∀ {b : Nat} {i : Int}, 0 ≤ i → i ≤ 1000 → b ≤ 1000 → fitB b i = true := fun {b i} h1 h2 h3 => by
      rw [fitB_iff]
      refine ⟨h1, Nat.le_trans (Nat.mul_le_mul (show i.toNat ≤ 1000 by omega) h3) (by decide)⟩
    rcases hc with rfl | rfl | rfl | rfl | rfl | rfl | rfl
    · exact h1 (Int.natCast_nonneg _) (by show (f.2.2.2.1.length : Int) ≤ 1000; omega) (by decide)
    · exact h1 (Int.natCast_nonneg _) (by show (f.2.2.2.1.length : Int) ≤ 1000; omega) (by decide)
    · exact h1 (Int.natCast_nonneg _) (by show (f.2.2.2.1.length : Int) ≤ 1000; omega) (by decide)
    · exact h1 hR.1 (by omega) (by decide)
    · exact h1 (Int.natCast_nonneg _) (by show (f.2.1.length : Int) ≤ 1000; omega) (by decide)
    · exact h1 (Int.natCast_nonneg _) (by show (f.2.1.length : Int) ≤ 1000; omega) (by decide)
    · rfl)) ?_
  refine Ev.need (by rw [inB_iff, List.length_replicate]; exact ⟨by decide, by show 0 < f.2.2.2.1.length; omega⟩) ?_
  refine Ev.forN f.2.1.length (fun i (x : Int × St) => x = ((i : Int), (List.replicate f.2.2.2.1.length 0, (List.replicate f.2.2.2.1.length false).set 0 true, List.replicate f.2.2.2.1.length false, List.replicate f.2.2.2.2.toNat 0,
      gmap f.2.1.length (fun j => if j < i then (if (f.2.1.getD j d0).1 = 1 ∨ (f.2.1.getD j d0).1 = 2 then (f.2.1.getD j d0).2.2.1 else 0) else 0), List.replicate f.2.1.length [], false))) (fun i x rec hi hx hrec => ?_) (fun x rec hx => ?_) n 0 _ ?_ (Nat.zero_le _) (by omega)
  · subst hx
    refine Ev.askT (lt_nc hi) (Ev.need (in_nc hi) ?_)
    rw [Int.toNat_natCast]
    refine Ev.bind (Q := fun b => b = true ↔ (f.2.1.getD i d0).1 = 1 ∨ (f.2.1.getD i d0).1 = 2) ?_ fun b hb => ?_
    · rw [ask_ss]
      refine Ev.some ?_
      by_cases h1 : (f.2.1.getD i d0).1 = 1
      · rw [if_pos (by rw [eqI_iff]; exact h1)]
        exact ⟨fun _ => .inl h1, fun _ => rfl⟩
      · rw [if_neg (by rw [eqI_iff]; exact h1), eqI_iff]
        exact ⟨fun h => .inr h, fun h => h.resolve_left h1⟩
    · rw [wr_nc (by omega)]
      refine Ev.bind (Q := fun y => y = ((List.replicate f.2.2.2.1.length 0, (List.replicate f.2.2.2.1.length false).set 0 true, List.replicate f.2.2.2.1.length false, List.replicate f.2.2.2.2.toNat 0,
      gmap f.2.1.length (fun j => if j < i + 1 then (if (f.2.1.getD j d0).1 = 1 ∨ (f.2.1.getD j d0).1 = 2 then (f.2.1.getD j d0).2.2.1 else 0) else 0), List.replicate f.2.1.length [], false) : St)) ?_ fun y hy => ?_
      · refine Ev.ask (fun h => Ev.need (by rw [inB_nat, gmap_len]; exact hi) (Ev.some ?_)) fun h => Ev.some ?_
        · simp only
          rw [gmap_set _ hi]
          have : ∀ j < f.2.1.length, (if j = i then (f.2.1.getD i d0).2.2.1 else if j < i then (if (f.2.1.getD j d0).1 = 1 ∨ (f.2.1.getD j d0).1 = 2 then (f.2.1.getD j d0).2.2.1 else 0) else 0) = (if j < i + 1 then (if (f.2.1.getD j d0).1 = 1 ∨ (f.2.1.getD j d0).1 = 2 then (f.2.1.getD j d0).2.2.1 else 0) else 0) := fun j hj => by
            by_cases hji : j = i
            · subst hji
              rw [if_pos rfl, if_pos (by omega), if_pos (hb.mp h)]
            · rw [if_neg hji]
              by_cases h2 : j < i
              · simp only [if_pos h2, if_pos (show j < i + 1 by omega)]
              · rw [if_neg h2, if_neg (by omega)]
          rw [← gmap_congr this]
          rfl
        · have : ∀ j < f.2.1.length, (if j < i then (if (f.2.1.getD j d0).1 = 1 ∨ (f.2.1.getD j d0).1 = 2 then (f.2.1.getD j d0).2.2.1 else 0) else 0) = (if j < i + 1 then (if (f.2.1.getD j d0).1 = 1 ∨ (f.2.1.getD j d0).1 = 2 then (f.2.1.getD j d0).2.2.1 else 0) else 0) := fun j hj => by
            by_cases h2 : j < i
            · simp only [if_pos h2, if_pos (show j < i + 1 by omega)]
            · rw [if_neg h2]
              by_cases h3 : j = i
              · subst h3
                rw [if_pos (by omega), if_neg fun h4 => by rw [hb.mpr h4] at h; cases h]
              · rw [if_neg (by omega)]
          rw [gmap_congr this]
      · subst hy
        exact hrec _ rfl
  · subst hx
    refine Ev.askF (lt_ec _) (Ev.some ?_)
    unfold beginM beginV
    refine Prod.ext ?_ rfl
    simp only
    have : ∀ j < f.2.1.length, (if j < f.2.1.length then (if (f.2.1.getD j d0).1 = 1 ∨ (f.2.1.getD j d0).1 = 2 then (f.2.1.getD j d0).2.2.1 else 0) else 0) = (if (f.2.1.getD j d0).1 = 1 ∨ (f.2.1.getD j d0).1 = 2 then (f.2.1.getD j d0).2.2.1 else 0) := fun j hj => by rw [if_pos hj]
    rw [gmap_congr this]
  · have : gmap f.2.1.length (fun j => if j < 0 then (if (f.2.1.getD j d0).1 = 1 ∨ (f.2.1.getD j d0).1 = 2 then (f.2.1.getD j d0).2.2.1 else 0) else 0) = List.replicate f.2.1.length 0 := by
      unfold gmap
      refine List.ext_getElem (by simp) fun i h1 h2 => ?_
      simp
    rw [this]
    rfl
theorem okS_begin {f : Fl} (hf : okAll f) : okS f (beginM f) := by
  have hR := hf.r
  have hw := hf.w
  refine ⟨⟨by simp [beginM], by simp [beginM], by simp [beginM], by simp [beginM]; omega, by simp [beginM, beginV, gmap_len], by simp [beginM]⟩, fun p hp => ?_, fun i hi => ?_, fun i hi => ?_⟩
  · unfold okNext beginM
    simp only
    rw [List.getD_eq_getElem?_getD, List.getElem?_replicate, if_pos hp]
    exact ⟨Int.le_refl _, Int.natCast_nonneg _⟩
  · unfold beginM at hi ⊢
    simp only [List.length_replicate] at hi ⊢
    rw [List.getD_eq_getElem?_getD, List.getElem?_replicate, if_pos hi]
    exact word01 hw false
  · have hd := hf.dk hi
    unfold beginM beginV
    simp only
    rw [gmap_get _ hi, List.getD_eq_getElem?_getD (l := List.replicate _ _), List.getElem?_replicate, if_pos hi]
    refine ⟨?_, fun j hj => absurd hj (Nat.not_lt_zero _), fun h2 => ?_, fun h3 => ?_, fun h4 => ?_⟩
    · show ((0 : Nat) : Int) ≤ _
      split
      · exact hd.2.2.1
      · exact Int.le_refl _
    · rw [if_pos (by have := hd.1; omega)]
      exact ⟨hd.2.2.1, hd.2.2.2.1 h2⟩
    · rw [if_neg (by omega)]
      omega
    · rw [if_neg (by omega)]
def demo : Fl := (1, [(3, [109], 0, 0)], [(1, [], 1, 0, 0, 0)], [[(11, 1, 0, 0, 0, -1, -1), (7, 0, 0, 0, 0, -1, -1)], [(7, 0, 0, 0, 0, -1, -1)]], 0)
theorem e_Demo (n : Nat) : slaw28_Demo n = some demo := by
  unfold slaw28_Demo dup
  simp only [both_self]
  rfl
instance (f : Fl) : Decidable (okF f) := by unfold okF; infer_instance
instance (f : Fl) : Decidable (okAll f) := by unfold okAll; infer_instance
instance (D : List De) : Decidable (short D) := by unfold short; infer_instance
instance (f : Fl) : Decidable (lightF f) := by unfold lightF; infer_instance
theorem demo_ok : okAll demo := by decide +kernel
theorem demo_light : lightF demo := by decide +kernel
theorem demo_V (n : Nat) (s : St) : V n demo s = [1] := rfl
abbrev tt0 : Tn := (0, -1, -1)
def demo1 : St := ([1, 0], [true, true], [false, false], [], [0], [[]], false)
def demo2 : St := ([2, 0], [true, true], [false, false], [], [1], [[]], false)
theorem demo_t0 : tt0 ∈ turnsM demo [1] (beginM demo) := by decide +kernel
theorem demo_t1 : tt0 ∈ turnsM demo [1] demo1 := by decide +kernel
theorem demo_d0 (n : Nat) : doM n demo (beginM demo) tt0 = demo1 := by
  unfold doM
  rw [demo_V]
  rfl
theorem demo_d1 (n : Nat) : doM n demo demo1 tt0 = demo2 := by
  unfold doM
  rw [demo_V]
  rfl
theorem demo_w : waitsM demo [1] demo2 = [1] := by decide +kernel
theorem e_awake {n : Nat} (hn : 8193 ≤ n) : slaw28_awake n = some true := by
  unfold slaw28_awake
  have hS0 := okS_begin demo_ok
  have ht0 : tt0 ∈ turnsM demo (V n demo (beginM demo)) (beginM demo) := by rw [demo_V]; exact demo_t0
  have hS1 := okS_doM hn demo_ok hS0 ht0
  have ht1 : tt0 ∈ turnsM demo (V n demo demo1) demo1 := by rw [demo_V]; exact demo_t1
  rw [demo_d0] at hS1
  have hS2 := okS_doM hn demo_ok hS1 ht1
  rw [demo_d1] at hS2
  rw [e_Demo, bindO_s, e_Begin hn demo_light demo_ok, bindO_s]
  rw [show ((Int.ofNat 0, Int.negSucc 0, Int.negSucc 0) : Tn) = tt0 from rfl]
  simp only
  rw [e_Do hn demo_light demo_ok hS0, if_pos ht0, bindO_s]
  simp only
  rw [demo_d0, e_Do hn demo_light demo_ok hS1, if_pos ht1, bindO_s]
  simp only
  rw [demo_d1, e_waits hn demo_light demo_ok hS2, demo_V, demo_w, bindO_s, show ([Int.ofNat 1] : List Int) = [1] from rfl, e_Ints hn (by decide), bindO_s]
  rfl
end Go.Proofs.YtfbipcdllbdijaaGreat
namespace Go.Proofs.YtfbipcdllbdijaaGreat
open Go Go.TM
theorem e_TurnsF {n : Nat} (hn : 8193 ≤ n) {f : Fl} (hl : lightF f) (hf : okAll f) {s : St} (hS : okS f s) : sstep_Turns n f s = some (turnsM f (V n f s) s) := by
  refine Ev.eq ?_
  unfold sstep_Turns
  refine Ev.bind (e_stepCheck hn hl s) fun r hr => ?_
  rw [hr.2.mpr ⟨hf, hS⟩]
  refine Ev.askF rfl ?_
  rw [e_evalV hn hf s, bindO_s]
  exact Ev.bindR (e_mTurns hn hf hS (V_len n f s)) (Ev.some rfl)
abbrev z0 : St := ([], [], [], [], [], [], false)
theorem Ev.true {o : Option Bool} (h : o = some true) : Ev o fun b => b = true := ⟨_, h, rfl⟩
end Go.Proofs.YtfbipcdllbdijaaGreat
namespace Go.Proofs.YtfbipcdllbdijaaGreat
open Go Go.TM
inductive Reach (n : Nat) (f : Fl) : St → Prop
  | begin : Reach n f (beginM f)
  | step {s : St} {t : Tn} : Reach n f s → t ∈ turnsM f (V n f s) s → Reach n f (doM n f s t)
theorem Reach.ok {n : Nat} (hn : 8193 ≤ n) {f : Fl} (hf : okAll f) {s : St} (h : Reach n f s) : okS f s := by
  induction h with
  | begin => exact okS_begin hf
  | step h1 h2 ih => exact okS_doM hn hf ih h2
theorem sum_set {l : List Int} : ∀ {i : Nat} (x : Int), i < l.length → (l.set i x).sum = l.sum + (x - l.getD i 0) := by
  induction l with
  | nil => intro i x h; exact absurd h (Nat.not_lt_zero _)
  | cons a l ih =>
    intro i x h
    cases i with
    | zero => simp; omega
    | succ i =>
      have h2 := ih (i := i) x (by simpa using h)
      simp only [List.set_cons_succ, List.sum_cons, List.getD_cons_succ]
      omega
theorem sum_le : ∀ {a : List Int} {P : List (List In)}, a.length = P.length → (∀ i < P.length, a.getD i 0 ≤ ((P.getD i []).length : Int)) → a.sum ≤ (P.flatten.length : Int)
  | [], [], _, _ => by simp
  | [], _ :: _, h, _ => by cases h
  | _ :: _, [], h, _ => by cases h
  | a :: l, p :: P, h, hle => by
    have h0 := hle 0 (by simp)
    have h1 := sum_le (a := l) (P := P) (by simpa using h) fun i hi => by
      have := hle (i + 1) (by simpa using hi)
      simpa using this
    simp only [List.getD_cons_zero] at h0
    simp only [List.sum_cons, List.flatten_cons, List.length_append]
    omega
theorem next_le {f : Fl} {s : St} (hS : okS f s) : s.1.sum ≤ (tot f.2.2.2.1 : Int) := sum_le hS.1.1 fun i hi => (hS.2.1 i hi).2
theorem doK_next {n : Nat} {f : Fl} {v : List Int} {s : St} {p : Nat} {w : Int} {k : Nat} {x : In} (hx : 1 ≤ x.1 ∧ x.1 ≤ 13) :
    (doK n f v s p w k x).1 = if x.1 = 9 ∧ 0 ≤ w then (s.1.set p ((k + 1 : Nat) : Int)).set w.toNat (((nowZ f v s w).getD 0 + 1 : Nat) : Int) else s.1.set p ((k + 1 : Nat) : Int) := by
  obtain ⟨(kind : Int), (obj : Int), (g : Int), (a : Int), (b : Int), (rd : Int), (pr : Int)⟩ := x
  have hcs : kind = 1 ∨ kind = 2 ∨ kind = 3 ∨ kind = 4 ∨ kind = 5 ∨ kind = 6 ∨ kind = 7 ∨ kind = 8 ∨ kind = 9 ∨ kind = 10 ∨ kind = 11 ∨ kind = 12 ∨ kind = 13 := by simp only at hx; omega
  rcases hcs with rfl | rfl | rfl | rfl | rfl | rfl | rfl | rfl | rfl | rfl | rfl | rfl | rfl
  case inr.inr.inr.inr.inr.inr.inr.inr.inl =>
    by_cases h0 : 0 ≤ w <;> simp [doK, h0]
  all_goals simp [doK]
theorem nowM_ge {f : Fl} {v : List Int} {s : St} {p k : Nat} (h : nowM f v s p = some k) : s.1.getD p 0 ≤ (k : Int) := (nowM_some.mp h).2.2.1
theorem nowZ_ge {f : Fl} {v : List Int} {s : St} {p : Int} {k : Nat} (h : nowZ f v s p = some k) : s.1.getD p.toNat 0 ≤ (k : Int) := nowM_ge (nowZ_lt h).2.1
theorem next_up {n : Nat} (hn : 8193 ≤ n) {f : Fl} (hf : okAll f) {s : St} (hS : okS f s) {t : Tn} (h : t ∈ turnsM f (V n f s) s) : s.1.sum + 1 ≤ (doM n f s t).1.sum := by
  obtain ⟨p, k, h1, h2, h3⟩ := turn_mem h
  have hfa := fact_of hf hS h2.hp h2.hk
  have hwi := h2.with hf hS
  have hp := h2.hp
  have hl := hS.1.1
  have hge := nowM_ge h3
  have hd : doM n f s t = doK n f (V n f s) s p t.2.1 k (inst f p k) := by
    unfold doM
    rw [h1]
    simp only [Int.toNat_natCast, h3, Option.getD_some]
  rw [hd, doK_next hfa.kind]
  have hs1 := sum_set (l := s.1) (i := p) ((k + 1 : Nat) : Int) (by omega)
  split
  · rename_i hc
    rcases hwi with ⟨_, hw0, hne, _, m, hzm, h10, _⟩ | ⟨hw, _⟩
    · have hgz := nowZ_ge hzm
      have hwl := (nowZ_lt hzm).1
      rw [hzm]
      have hs2 := sum_set (l := s.1.set p ((k + 1 : Nat) : Int)) (i := t.2.1.toNat) (((some m).getD 0 + 1 : Nat) : Int) (by rw [List.length_set]; omega)
      rw [hs2, hs1, getD_set, if_neg (by omega)]
      simp only [Option.getD_some]
      omega
    · omega
  · rw [hs1]
    omega
def Played (n : Nat) (f : Fl) (r : List St × Bool) : Prop := r.2 = true ∧ (∀ s ∈ r.1, Reach n f s) ∧ ∃ l s, r.1 = l ++ [s] ∧ turnsM f (V n f s) s = [] ∧ (l.length : Int) ≤ s.1.sum
theorem e_play {n : Nat} (hn : 8193 ≤ n) {f : Fl} (hl : lightF f) (hf : okAll f) {picks : List Int} (hp : ∀ x ∈ picks, 0 ≤ x ∧ x < 256) : Ev (slaw28_play n f picks) (Played n f) := by
  unfold slaw28_play
  refine Ev.bindR (e_Begin hn hl hf) ?_
  have htot : tot f.2.2.2.1 ≤ 64 := hf.2.2.2.2.1
  refine Ev.iter (fun (x : Int × List St × Int × St) => x.1 = 0 ∧ Reach n f x.2.2.2 ∧ (∀ s ∈ x.2.1, Reach n f s) ∧ (∃ l, x.2.1 = l ++ [x.2.2.2] ∧ x.2.2.1 = (l.length : Int) ∧ (l.length : Int) ≤ x.2.2.2.1.sum)) (fun x => 64 - x.2.2.1.toNat) (fun x rec hx hrec => ?_) n _ ⟨rfl, Reach.begin, ?_, [], rfl, rfl, ?_⟩ (by omega)
  · obtain ⟨e, out, i, s⟩ := x
    obtain ⟨he, hR, hall, l, ho, hi, hle⟩ := hx
    simp only at he hR hall ho hi hle
    subst he ho hi
    simp only at hrec ⊢
    have hS := hR.ok hn hf
    have hnl := next_le hS
    refine Ev.bindR (a := true) ?_ (Ev.askT rfl ?_)
    · rw [ask_t (by rw [notB_true, ltI_false]; show (l.length : Int) ≤ 70; omega)]
      rfl
    refine Ev.bindR (e_TurnsF hn hl hf hS) ?_
    have htl := turns_len hf (V n f s) s
    by_cases hz : turnsM f (V n f s) s = []
    · rw [hz]
      exact Ev.askT rfl (Ev.some ⟨rfl, hall, l, s, rfl, hz, hle⟩)
    · have hpos : 0 < (turnsM f (V n f s) s).length := List.length_pos_iff.mpr hz
      refine Ev.askF (by rw [eqI_false]; show ((turnsM f (V n f s) s).length : Int) ≠ 0; omega) ?_
      refine Ev.bind (Q := fun k => 0 ≤ k ∧ k < ((turnsM f (V n f s) s).length : Int)) ?_ fun k hk => ?_
      · refine Ev.ask (fun h => ?_) fun h => Ev.some ⟨Int.le_refl _, by show (0 : Int) < _; omega⟩
        have hi : l.length < picks.length := by
          rw [ltI_iff] at h
          exact Int.ofNat_lt.mp h
        refine Ev.need (in_nc hi) (Ev.need (by rw [notB_true, eqI_false]; show ((turnsM f (V n f s) s).length : Int) ≠ 0; omega) (Ev.some ?_))
        rw [Int.toNat_natCast]
        have hpk := hp (picks.getD l.length 0) (by
          rw [List.getD_eq_getElem?_getD, List.getElem?_eq_getElem hi]
          exact List.getElem_mem _)
        rw [show wr .i64 (picks.getD l.length (Int.ofNat 0)) = picks.getD l.length 0 from wr_i64 (by show -9223372036854775808 ≤ picks.getD l.length 0; omega) (by show picks.getD l.length 0 < _; omega)]
        have h1 := Int.tmod_eq_emod_of_nonneg (b := ((turnsM f (V n f s) s).length : Int)) hpk.1
        show 0 ≤ Int.tmod (picks.getD l.length 0) ((turnsM f (V n f s) s).length : Int) ∧ Int.tmod (picks.getD l.length 0) ((turnsM f (V n f s) s).length : Int) < _
        rw [h1]
        exact ⟨Int.emod_nonneg _ (by omega), Int.emod_lt_of_pos _ (by omega)⟩
      · have hkl : k.toNat < (turnsM f (V n f s) s).length := by omega
        have hmem : (turnsM f (V n f s) s).getD k.toNat (0, 0, 0) ∈ turnsM f (V n f s) s := by
          rw [List.getD_eq_getElem?_getD, List.getElem?_eq_getElem hkl]
          exact List.getElem_mem _
        refine Ev.need (by rw [inB_iff]; exact ⟨hk.1, hkl⟩) ?_
        refine Ev.bindR ((e_Do hn hl hf hS ((turnsM f (V n f s) s).getD k.toNat (0, 0, 0))).trans (by rw [if_pos hmem])) ?_
        have hup := next_up hn hf hS hmem
        have hR2 := Reach.step hR hmem
        have hnl2 := next_le (hR2.ok hn hf)
        refine Ev.need (by rw [ble_iff, List.length_append]; show (l.length + 1 + 1) * 152 ≤ _; omega) ?_
        rw [wr_nc (by omega)]
        refine hrec _ ⟨rfl, hR2, fun s' hs' => ?_, l ++ [s], rfl, by rw [List.length_append]; rfl, ?_⟩ ?_
        · rcases List.mem_append.mp hs' with h | h
          · exact hall s' h
          · rw [List.mem_singleton.mp h]; exact hR2
        · rw [List.length_append]
          show ((l.length + 1 : Nat) : Int) ≤ (doM n f s ((turnsM f (V n f s) s).getD k.toNat (0, 0, 0))).1.sum
          omega
        · show 64 - ((l.length + 1 : Nat) : Int).toNat < 64 - (l.length : Int).toNat
          omega
  · intro s hs
    rw [List.mem_singleton.mp hs]
    exact Reach.begin
  · show (0 : Int) ≤ (beginM f).1.sum
    unfold beginM
    simp
end Go.Proofs.YtfbipcdllbdijaaGreat
namespace Go.Proofs.YtfbipcdllbdijaaGreat
open Go Go.TM
theorem e_Has {n : Nat} {l : List Int} (hl : l.length < n) (hl2 : l.length ≤ 8000) (x : Int) : sref01_Has n l x = some (decide (x ∈ l)) := by
  refine Ev.dec ?_
  unfold sref01_Has
  refine Ev.seek (fun i => (i : Int)) l.length (fun i => l.getD i 0 ≠ x) (fun i rec hi hp => ?_) (fun i rec hi hp _ => ?_) (fun rec hall => ?_) n 0 (Nat.zero_le _) (by omega) (fun k hk => absurd hk (Nat.not_lt_zero _))
  · rw [ask_t (lt_nc hi), need_t (in_nc hi), Int.toNat_natCast, wr_nc (by omega)]
    exact ask_f (by rw [eqI_false]; exact hp)
  · have hp := Classical.not_not.mp hp
    refine Ev.askT (lt_nc hi) (Ev.need (in_nc hi) ?_)
    rw [Int.toNat_natCast]
    refine Ev.askT (by rw [eqI_iff]; exact hp) (Ev.some ⟨fun _ => ?_, fun _ => rfl⟩)
    rw [← hp, List.getD_eq_getElem?_getD, List.getElem?_eq_getElem hi]
    exact List.getElem_mem _
  · refine Ev.askF (lt_ec _) (Ev.some ⟨fun e => (by cases e), fun h => ?_⟩)
    obtain ⟨i, hi, h⟩ := List.mem_iff_getElem.mp h
    refine absurd ?_ (hall i hi)
    rw [List.getD_eq_getElem?_getD, List.getElem?_eq_getElem hi]
    exact h
theorem u8_has {picks : List Int} (h : WB (.sl (.int .u8)) picks) : ∀ x ∈ picks, 0 ≤ x ∧ x < 256 := fun x hx => by
  obtain ⟨h1, h2⟩ : (0 : Int) ≤ x ∧ x ≤ 255 := h.2 x hx
  omega
theorem mem_waits {f : Fl} {v : List Int} {s : St} {p : Nat} (hp : p < f.2.2.2.1.length) : (p : Int) ∈ waitsM f v s ↔ waitP f v s p := by
  unfold waitsM
  rw [List.mem_filter, decide_eq_true_eq]
  constructor
  · intro h; exact h.2
  · intro h; exact ⟨List.mem_map.mpr ⟨p, List.mem_range.mpr hp, rfl⟩, h⟩
theorem wait_end {f : Fl} {v : List Int} {s : St} (h : turnsM f v s = []) (p : Int) : waitP f v s p ↔ (nowZ f v s p).isSome = true := by
  unfold waitP
  rw [h]
  simp
theorem waits_len {f : Fl} (hf : okAll f) (v : List Int) (s : St) : (waitsM f v s).length ≤ 6 := waits_small hf v s (Nat.le_refl _)
theorem last_get {l : List St} {s : St} : (l ++ [s]).getD l.length z0 = s := by simp [List.getD_eq_getElem?_getD]
theorem len_last (l : List St) (s : St) (h : l.length ≤ 1000) : wr .i64 (Int.sub (Int.ofNat (l ++ [s]).length) (Int.ofNat 1)) = (l.length : Int) := by
  rw [List.length_append]
  show wr .i64 (((l.length + 1 : Nat) : Int) - 1) = _
  rw [show ((l.length + 1 : Nat) : Int) - 1 = (l.length : Int) from by omega]
  exact wr_nat (by omega)
end Go.Proofs.YtfbipcdllbdijaaGreat
namespace Go.Proofs.YtfbipcdllbdijaaGreat
open Go Go.TM
theorem getD_app_left {α : Type} {l r : List α} {j : Nat} {d : α} (h : j < l.length) : (l ++ r).getD j d = l.getD j d := by
  rw [List.getD_eq_getElem?_getD, List.getD_eq_getElem?_getD, List.getElem?_append_left h]
theorem getD_app_one {α : Type} {l : List α} {x d : α} {j : Nat} (h : j = l.length) : (l ++ [x]).getD j d = x := by
  subst h
  simp [List.getD_eq_getElem?_getD]
theorem vals_agree {n : Nat} {w : Int} {l : List Te} (hl : okTerms w l) {rd rd' : List Int} (hlen : rd.length = rd'.length) : ∀ i, i ≤ l.length → ∀ j, j < i → (∀ r < 64, (hg l i).getD j (fun _ => false) r = true → rd.getD r 0 = rd'.getD r 0) →
    (vals n w l rd i).getD j 0 = (vals n w l rd' i).getD j 0
  | 0, _, j, hj, _ => absurd hj (Nat.not_lt_zero _)
  | i + 1, hi, j, hj, hr => by
    have ih := vals_agree (n := n) hl hlen i (by omega)
    have e1 := vals_len n w l rd i
    have e2 := vals_len n w l rd' i
    have e3 := hg_len l i
    rw [hg] at hr
    rw [vals, vals]
    rcases Nat.lt_or_ge j i with h | h
    · rw [getD_app_left (by omega)] at hr
      rw [getD_app_left (by omega), getD_app_left (by omega)]
      exact ih j h hr
    · have hji : j = i := by omega
      rw [getD_app_one (by omega)] at hr
      rw [getD_app_one (by omega), getD_app_one (by omega)]
      have ht := hl.2.2 i (by omega)
      unfold t0 at *
      generalize l.getD i (Int.ofNat 0, ([] : List Int), Int.ofNat 0, Int.ofNat 0, Int.ofNat 0, Int.ofNat 0) = t at *
      obtain ⟨(k : Int), (op : List Int), (num : Int), (a : Int), (b : Int), (c : Int)⟩ := t
      have hat : ∀ a : Int, 0 ≤ a ∧ a < (i : Int) → (∀ r < 64, rowOf (hg l i) a r = true → rd.getD r 0 = rd'.getD r 0) → (vals n w l rd i).getD a.toNat 0 = (vals n w l rd' i).getD a.toNat 0 := fun a ha h2 => ih a.toNat (by omega) h2
      unfold tv
      rcases okTerm_cases ht with h | h | h | h | h <;> obtain ⟨rfl, h⟩ := h <;> simp only [Int.reduceEq, reduceIte, row, decide_true, decide_false, Bool.true_and, Bool.false_and, Bool.or_false, Bool.false_or, true_and, false_and, Int.reduceLE, Bool.or_eq_true, decide_eq_true_eq] at hr ⊢
      · rw [hlen]
        rw [hr num.toNat (by omega) (by omega)]
      · rw [hat a h.2.2.1 hr]
      · rw [hat a h.2.2.1 fun r h1 h2 => hr r h1 (.inl h2), hat b h.2.2.2.1 fun r h1 h2 => hr r h1 (.inr h2)]
      · rw [hat a h.2.2.1 fun r h1 h2 => hr r h1 (.inl (.inl h2)), hat b h.2.2.2.1 fun r h1 h2 => hr r h1 (.inl (.inr h2)), hat c h.2.2.2.2 fun r h1 h2 => hr r h1 (.inr h2)]
theorem cR_two {A B : List In} {x y : In} {r : Int} (hx : x ∈ A) (hy : y ∈ B) (h1 : x.2.2.2.2.2.1 = r) (h2 : y.2.2.2.2.2.1 = r) : 2 ≤ cR (A ++ B) r := by
  have a1 : 0 < cR A r := cR_pos.mpr ⟨x, hx, h1⟩
  have a2 : 0 < cR B r := cR_pos.mpr ⟨y, hy, h2⟩
  unfold cR at *
  rw [List.countP_append]
  omega
theorem getD_mem_in {L : List In} {i : Nat} (h : i < L.length) : L.getD i i0 ∈ L := by
  rw [List.getD_eq_getElem?_getD, List.getElem?_eq_getElem h]
  exact List.getElem_mem _
theorem read_lt {f : Fl} (hf : okAll f) {p q j k : Nat} (hp : p < f.2.2.2.1.length) (hq : q < f.2.2.2.1.length) (hj : j < (pr f p).length) (hk : k < (pr f q).length) (h0 : 0 ≤ (inst f p j).2.2.2.2.2.1)
    (h : (inst f p j).2.2.2.2.2.1 = (inst f q k).2.2.2.2.2.1) (hlt : p < q ∨ p = q ∧ j < k) : False := by
  have hr := (hf.inst hp hj).2.1 h0
  have hR := hf.r
  have h1 := hf.2.2.2.2.2.2.1 (inst f p j).2.2.2.2.2.1.toNat (by omega) (by omega)
  rw [show (((inst f p j).2.2.2.2.2.1.toNat : Nat) : Int) = (inst f p j).2.2.2.2.2.1 from by omega] at h1
  rcases hlt with hlt | ⟨rfl, hlt⟩
  · have := cR_two (A := (f.2.2.2.1.take q).flatten) (B := (f.2.2.2.1.drop q).flatten) (x := inst f p j) (y := inst f q k) (r := (inst f p j).2.2.2.2.2.1) ?_ ?_ rfl h.symm
    · rw [← List.flatten_append, List.take_append_drop] at this
      omega
    · rw [List.mem_flatten]
      refine ⟨pr f p, ?_, getD_mem_in hj⟩
      rw [List.mem_iff_getElem]
      refine ⟨p, by rw [List.length_take]; omega, ?_⟩
      rw [List.getElem_take]
      show f.2.2.2.1[p] = f.2.2.2.1.getD p []
      rw [List.getD_eq_getElem?_getD, List.getElem?_eq_getElem hp]
      rfl
    · rw [List.mem_flatten]
      refine ⟨pr f q, ?_, getD_mem_in hk⟩
      rw [List.mem_iff_getElem]
      refine ⟨0, by rw [List.length_drop]; omega, ?_⟩
      rw [List.getElem_drop]
      show f.2.2.2.1[q + 0] = f.2.2.2.1.getD q []
      rw [List.getD_eq_getElem?_getD, List.getElem?_eq_getElem hq]
      rfl
  · have h2 := cR_two (A := (pr f p).take k) (B := (pr f p).drop k) (x := inst f p j) (y := inst f p k) (r := (inst f p j).2.2.2.2.2.1) ?_ ?_ rfl h.symm
    · rw [List.take_append_drop] at h2
      have hs := (pre_sub (P := f.2.2.2.1) (i := (pr f p).length) hp)
      rw [List.take_length] at hs
      have h3 : cR ((f.2.2.2.1.take p).flatten ++ pr f p) (inst f p j).2.2.2.2.2.1 ≤ cR f.2.2.2.1.flatten (inst f p j).2.2.2.2.2.1 := hs.countP_le
      have h4 : cR ((f.2.2.2.1.take p).flatten ++ pr f p) (inst f p j).2.2.2.2.2.1 = cR (f.2.2.2.1.take p).flatten (inst f p j).2.2.2.2.2.1 + cR (pr f p) (inst f p j).2.2.2.2.2.1 := by
        unfold cR
        rw [List.countP_append]
      omega
    · rw [List.mem_iff_getElem]
      refine ⟨j, by rw [List.length_take]; omega, ?_⟩
      rw [List.getElem_take]
      show (pr f p)[j] = (pr f p).getD j i0
      rw [List.getD_eq_getElem?_getD, List.getElem?_eq_getElem hj]
      rfl
    · rw [List.mem_iff_getElem]
      refine ⟨0, by rw [List.length_drop]; omega, ?_⟩
      rw [List.getElem_drop]
      show (pr f p)[k + 0] = (pr f p).getD k i0
      rw [List.getD_eq_getElem?_getD, List.getElem?_eq_getElem hk]
      rfl
theorem read_one {f : Fl} (hf : okAll f) {p q j k : Nat} (hp : p < f.2.2.2.1.length) (hq : q < f.2.2.2.1.length) (hj : j < (pr f p).length) (hk : k < (pr f q).length) (h0 : 0 ≤ (inst f p j).2.2.2.2.2.1)
    (h : (inst f p j).2.2.2.2.2.1 = (inst f q k).2.2.2.2.2.1) : p = q ∧ j = k := by
  rcases Nat.lt_trichotomy p q with h1 | h1 | h1
  · exact (read_lt hf hp hq hj hk h0 h (.inl h1)).elim
  · subst h1
    rcases Nat.lt_trichotomy j k with h2 | h2 | h2
    · exact (read_lt hf hp hq hj hk h0 h (.inr ⟨rfl, h2⟩)).elim
    · exact ⟨rfl, h2⟩
    · exact (read_lt hf hq hp hk hj (by omega) h.symm (.inr ⟨rfl, h2⟩)).elim
  · exact (read_lt hf hq hp hk hj (by omega) h.symm (.inl h1)).elim
theorem doK_reads {n : Nat} {f : Fl} {v : List Int} {s : St} {p : Nat} {w : Int} {k : Nat} {x : In} (hx : 1 ≤ x.1 ∧ x.1 ≤ 13) :
    (doK n f v s p w k x).2.2.2.1 = s.2.2.2.1 ∨ (rdK x.1 ∧ ∃ y, (doK n f v s p w k x).2.2.2.1 = s.2.2.2.1.set x.2.2.2.2.2.1.toNat y) ∨
    (x.1 = 9 ∧ 0 ≤ w ∧ ∃ y, (doK n f v s p w k x).2.2.2.1 = s.2.2.2.1.set (inst f w.toNat ((nowZ f v s w).getD 0)).2.2.2.2.2.1.toNat y) := by
  obtain ⟨(kind : Int), (obj : Int), (g : Int), (a : Int), (b : Int), (rd : Int), (pr : Int)⟩ := x
  have hcs : kind = 1 ∨ kind = 2 ∨ kind = 3 ∨ kind = 4 ∨ kind = 5 ∨ kind = 6 ∨ kind = 7 ∨ kind = 8 ∨ kind = 9 ∨ kind = 10 ∨ kind = 11 ∨ kind = 12 ∨ kind = 13 := by simp only at hx; omega
  rcases hcs with rfl | rfl | rfl | rfl | rfl | rfl | rfl | rfl | rfl | rfl | rfl | rfl | rfl
  · exact .inr (.inl ⟨.inl rfl, _, rfl⟩)
  · exact .inl rfl
  · exact .inr (.inl ⟨.inr (.inl rfl), _, rfl⟩)
  · exact .inl rfl
  · exact .inr (.inl ⟨.inr (.inr (.inl rfl)), _, rfl⟩)
  · exact .inr (.inl ⟨.inr (.inr (.inr (.inl rfl))), _, rfl⟩)
  · exact .inl rfl
  · exact .inl rfl
  · by_cases h0 : 0 ≤ w
    · refine .inr (.inr ⟨rfl, h0, v.getD a.toNat 0, ?_⟩)
      simp [doK, h0]
    · refine .inl ?_
      simp [doK, h0]
  · exact .inr (.inl ⟨.inr (.inr (.inr (.inr rfl))), _, rfl⟩)
  · exact .inl rfl
  · exact .inl rfl
  · exact .inl rfl
structure Part (n : Nat) (f : Fl) (s s' : St) (p k : Nat) (m : Option (Nat × Nat)) : Prop where
  ok : okS f s'
  hp : p < f.2.2.2.1.length
  hk : nowM f (V n f s) s p = some k
  hm : ∀ q j, m = some (q, j) → q < f.2.2.2.1.length ∧ q ≠ p ∧ nowM f (V n f s) s q = some j ∧ (inst f p k).1 = 9 ∧ (inst f q j).1 = 10
  next : ∀ q < f.2.2.2.1.length, s'.1.getD q 0 = if q = p then ((k + 1 : Nat) : Int) else if (m.map Prod.fst) = some q then (((m.map Prod.snd).getD 0 + 1 : Nat) : Int) else s.1.getD q 0
  rd : s'.2.2.2.1 = s.2.2.2.1 ∨ (∃ y, 0 ≤ (inst f p k).2.2.2.2.2.1 ∧ s'.2.2.2.1 = s.2.2.2.1.set (inst f p k).2.2.2.2.2.1.toNat y) ∨ ∃ q j y, m = some (q, j) ∧ 0 ≤ (inst f q j).2.2.2.2.2.1 ∧ s'.2.2.2.1 = s.2.2.2.1.set (inst f q j).2.2.2.2.2.1.toNat y
theorem part_of {n : Nat} (hn : 8193 ≤ n) {f : Fl} (hf : okAll f) {s : St} (hS : okS f s) {t : Tn} (h : t ∈ turnsM f (V n f s) s) : ∃ p k m, Part n f s (doM n f s t) p k m ∧ doM n f s t = doK n f (V n f s) s p t.2.1 k (inst f p k) ∧ Turn f (V n f s) s p t.2.1 k ∧ (m = none → ¬ ((inst f p k).1 = 9 ∧ 0 ≤ t.2.1)) := by
  obtain ⟨p, k, h1, h2, h3⟩ := turn_mem h
  have hfa := fact_of hf hS h2.hp h2.hk
  have hwi := h2.with hf hS
  have hp := h2.hp
  have hl := hS.1.1
  have hd : doM n f s t = doK n f (V n f s) s p t.2.1 k (inst f p k) := by
    unfold doM
    rw [h1]
    simp only [Int.toNat_natCast, h3, Option.getD_some]
  have hok := okS_doM hn hf hS h
  rcases hwi with ⟨h9, hw0, hne, hnum, m, hzm, h10, hob⟩ | ⟨hw, h7, h9, h10⟩
  · have hwl := (nowZ_lt hzm)
    have hfw := fact_of hf hS (p := t.2.1.toNat) (k := m) (by omega) hwl.2.2
    have hrw := hfw.rd (by rw [h10]; unfold rdK; omega)
    refine ⟨p, k, some (t.2.1.toNat, m), ⟨hok, hp, h3, ?_, fun q hq => ?_, ?_⟩, hd, h2, fun e => by cases e⟩
    · intro q j e
      injection e with e
      injection e with e1 e2
      subst e1 e2
      exact ⟨by omega, by omega, hwl.2.1, h9, h10⟩
    · rw [hd, doK_next hfa.kind, if_pos ⟨h9, hw0⟩, hzm, getD_set, getD_set]
      simp only [Option.map_some, Option.getD_some, List.length_set]
      by_cases hqp : q = p
      · subst hqp
        rw [if_neg (by omega), if_pos ⟨rfl, by omega⟩, if_pos rfl]
      · rw [if_neg hqp]
        by_cases hqw : t.2.1.toNat = q
        · rw [if_pos ⟨hqw, by omega⟩, if_pos (by rw [hqw])]
        · rw [if_neg fun h => hqw h.1, if_neg fun h => hqp h.1.symm, if_neg (by intro e; injection e with e; exact hqw e)]
    · rw [hd]
      rcases doK_reads (n := n) (f := f) (v := V n f s) (s := s) (p := p) (w := t.2.1) (k := k) hfa.kind with h | ⟨h, _⟩ | ⟨_, _, y, hy⟩
      · exact .inl h
      · rw [h9] at h; exact absurd h (by decide)
      · rw [hzm] at hy
        exact .inr (.inr ⟨_, _, y, rfl, hrw.1, hy⟩)
  · refine ⟨p, k, none, ⟨hok, hp, h3, fun q j e => (by cases e), fun q hq => ?_, ?_⟩, hd, h2, fun _ h => by omega⟩
    · rw [hd, doK_next hfa.kind, if_neg (by omega), getD_set]
      simp only [Option.map_none]
      by_cases hqp : q = p
      · subst hqp
        rw [if_pos ⟨rfl, by omega⟩, if_pos rfl]
      · rw [if_neg fun h => hqp h.1.symm, if_neg hqp, if_neg (by intro e; cases e)]
    · rw [hd]
      rcases doK_reads (n := n) (f := f) (v := V n f s) (s := s) (p := p) (w := t.2.1) (k := k) hfa.kind with h | ⟨h, y, hy⟩ | ⟨_, h, _⟩
      · exact .inl h
      · exact .inr (.inl ⟨y, (hfa.rd h).1, hy⟩)
      · omega
theorem Part.stable {n : Nat} {f : Fl} (hf : okAll f) {s s' : St} (hS : okS f s) {p k : Nat} {m : Option (Nat × Nat)} (h : Part n f s s' p k m) {q i : Nat} (hq : q < f.2.2.2.1.length) (hi : (i : Int) < s'.1.getD q 0) : gv f (V n f s') q i = gv f (V n f s) q i := by
  have hn' := (h.ok.2.1 q hq).2
  have hil : i < (pr f q).length := by
    have : (i : Int) < ((pr f q).length : Int) := Int.lt_of_lt_of_le hi hn'
    omega
  have hin := hf.inst hq hil
  have hg := hin.1.2.2.2.2.2.2.1
  -- one read that differs, and it is of what was done in this turn
  have main : ∀ (q' j : Nat) (y : Int), q' < f.2.2.2.1.length → j < (pr f q').length → 0 ≤ (inst f q' j).2.2.2.2.2.1 → s'.1.getD q' 0 = ((j + 1 : Nat) : Int) → s'.2.2.2.1 = s.2.2.2.1.set (inst f q' j).2.2.2.2.2.1.toNat y → gv f (V n f s') q i = gv f (V n f s) q i := by
    intro q' j y hq' hj h0 hnx hrd
    unfold gv V
    refine vals_agree (n := n) hf.2.1 (by rw [hrd, List.length_set]) f.2.2.1.length (Nat.le_refl _) _ (by omega) fun r hr hrow => ?_
    rw [hrd, getD_set, if_neg]
    rintro ⟨he, _⟩
    have hal := hf.2.2.2.2.2.2.2.2 q hq i hil r hr (by
      unfold needs
      rw [Bool.or_eq_true, Bool.or_eq_true]
      exact .inl (.inl hrow))
    unfold have_ at hal
    obtain ⟨j', hj', hrj⟩ := of_decide_eq_true hal
    have hrj : (inst f q j').2.2.2.2.2.1 = (r : Int) := hrj
    have := read_one hf hq hq' (by omega) hj (by omega) (show (inst f q j').2.2.2.2.2.1 = (inst f q' j).2.2.2.2.2.1 by omega)
    obtain ⟨rfl, rfl⟩ := this
    omega
  have hkl := (nowM_some.mp h.hk).2.1
  rcases h.rd with h1 | ⟨y, h0, h1⟩ | ⟨q', j, y, hm, h0, h1⟩
  · unfold gv V
    rw [h1]
  · refine main p k y h.hp hkl h0 ?_ h1
    rw [h.next p h.hp, if_pos rfl]
  · obtain ⟨g1, g2, g3, g4, g5⟩ := h.hm q' j hm
    refine main q' j y g1 (nowM_some.mp g3).2.1 h0 ?_ h1
    rw [h.next q' g1, if_neg g2, hm]
    simp
def Done (n : Nat) (f : Fl) (s : St) (p i : Nat) : Prop := (i : Int) < s.1.getD p 0 ∧ gv f (V n f s) p i ≠ 0
theorem Part.done {n : Nat} {f : Fl} (hf : okAll f) {s s' : St} (hS : okS f s) {p k : Nat} {m : Option (Nat × Nat)} (h : Part n f s s' p k m) {q i : Nat} (hq : q < f.2.2.2.1.length) : Done n f s' q i ↔ Done n f s q i ∨ (q = p ∧ i = k) ∨ m = some (q, i) := by
  have hnx := h.next q hq
  unfold Done
  have one : ∀ (q j : Nat), q < f.2.2.2.1.length → nowM f (V n f s) s q = some j → s'.1.getD q 0 = ((j + 1 : Nat) : Int) → (((i : Int) < s'.1.getD q 0 ∧ gv f (V n f s') q i ≠ 0) ↔ ((i : Int) < s.1.getD q 0 ∧ gv f (V n f s) q i ≠ 0) ∨ i = j) := by
    intro q j hq hj hx
    obtain ⟨_, _, hge, hne, hbe⟩ := nowM_some.mp hj
    constructor
    · rintro ⟨h1, h2⟩
      rw [h.stable hf hS hq h1] at h2
      by_cases hij : i = j
      · exact .inr hij
      · refine .inl ⟨?_, h2⟩
        apply Classical.byContradiction
        intro h3
        exact h2 (hbe i (by omega) (by omega))
    · rintro (⟨h1, h2⟩ | rfl)
      · have h3 : (i : Int) < s'.1.getD q 0 := by omega
        exact ⟨h3, by rw [h.stable hf hS hq h3]; exact h2⟩
      · have h3 : (i : Int) < s'.1.getD q 0 := by omega
        exact ⟨h3, by rw [h.stable hf hS hq h3]; exact hne⟩
  by_cases hqp : q = p
  · subst hqp
    rw [if_pos rfl] at hnx
    rw [one q k hq h.hk hnx]
    constructor
    · rintro (h1 | h1)
      · exact .inl h1
      · exact .inr (.inl ⟨rfl, h1⟩)
    · rintro (h1 | h1 | h1)
      · exact .inl h1
      · exact .inr h1.2
      · exact absurd rfl (h.hm _ _ h1).2.1
  · rw [if_neg hqp] at hnx
    by_cases hm : (m.map Prod.fst) = some q
    · rw [if_pos hm] at hnx
      cases m with
      | none => cases hm
      | some mm =>
        obtain ⟨q', j⟩ := mm
        have hm : q' = q := by simpa using hm
        subst hm
        obtain ⟨g1, g2, g3, g4, g5⟩ := h.hm q' j rfl
        rw [one q' j hq g3 (by simpa using hnx)]
        constructor
        · rintro (h1 | h1)
          · exact .inl h1
          · exact .inr (.inr (by rw [h1]))
        · rintro (h1 | h1 | h1)
          · exact .inl h1
          · exact absurd h1.1 hqp
          · injection h1 with h1
            injection h1 with _ h1
            exact .inr h1.symm
    · rw [if_neg hm] at hnx
      have hmn : ¬ m = some (q, i) := fun e => hm (by rw [e]; rfl)
      constructor
      · rintro ⟨h1, h2⟩
        rw [h.stable hf hS hq h1] at h2
        exact .inl ⟨by rw [← hnx]; exact h1, h2⟩
      · rintro (⟨h1, h2⟩ | h1 | h1)
        · have h3 : (i : Int) < s'.1.getD q 0 := by rw [hnx]; exact h1
          exact ⟨h3, by rw [h.stable hf hS hq h3]; exact h2⟩
        · exact absurd h1.1 hqp
        · exact absurd h1 hmn
end Go.Proofs.YtfbipcdllbdijaaGreat
namespace Go.Proofs.YtfbipcdllbdijaaGreat
open Go Go.TM
theorem kinds13 {x : In} (hx : 1 ≤ x.1 ∧ x.1 ≤ 13) : x.1 = 1 ∨ x.1 = 2 ∨ x.1 = 3 ∨ x.1 = 4 ∨ x.1 = 5 ∨ x.1 = 6 ∨ x.1 = 7 ∨ x.1 = 8 ∨ x.1 = 9 ∨ x.1 = 10 ∨ x.1 = 11 ∨ x.1 = 12 ∨ x.1 = 13 := by omega
theorem doK_runs {n : Nat} {f : Fl} {v : List Int} {s : St} {p : Nat} {w : Int} {k : Nat} {x : In} (hx : 1 ≤ x.1 ∧ x.1 ≤ 13) : (doK n f v s p w k x).2.1 = if x.1 = 11 then s.2.1.set x.2.1.toNat true else s.2.1 := by
  have h := kinds13 hx
  obtain ⟨(kind : Int), (obj : Int), (g : Int), (a : Int), (b : Int), (rd : Int), (pr : Int)⟩ := x
  simp only at h
  rcases h with rfl | rfl | rfl | rfl | rfl | rfl | rfl | rfl | rfl | rfl | rfl | rfl | rfl
  case inr.inr.inr.inr.inr.inr.inr.inr.inl =>
    by_cases h0 : 0 ≤ w <;> simp [doK, h0]
  all_goals simp [doK]
theorem doK_marked {n : Nat} {f : Fl} {v : List Int} {s : St} {p : Nat} {w : Int} {k : Nat} {x : In} (hx : 1 ≤ x.1 ∧ x.1 ≤ 13) : (doK n f v s p w k x).2.2.1 = if x.1 = 13 then s.2.2.1.set p true else s.2.2.1 := by
  have h := kinds13 hx
  obtain ⟨(kind : Int), (obj : Int), (g : Int), (a : Int), (b : Int), (rd : Int), (pr : Int)⟩ := x
  simp only at h
  rcases h with rfl | rfl | rfl | rfl | rfl | rfl | rfl | rfl | rfl | rfl | rfl | rfl | rfl
  case inr.inr.inr.inr.inr.inr.inr.inr.inl =>
    by_cases h0 : 0 ≤ w <;> simp [doK, h0]
  all_goals simp [doK]
theorem doK_vars {n : Nat} {f : Fl} {v : List Int} {s : St} {p : Nat} {w : Int} {k : Nat} {x : In} (hx : 1 ≤ x.1 ∧ x.1 ≤ 13) {d : Nat} (hd : d < s.2.2.2.2.1.length) (h0 : 0 ≤ x.2.1) (hne : x.1 = 2 ∨ x.1 = 4 ∨ x.1 = 5 ∨ x.1 = 6 → x.2.1 ≠ d) :
    (doK n f v s p w k x).2.2.2.2.1.getD d 0 = if x.1 = 7 ∧ x.2.1 = d then ((p + 1 : Nat) : Int) else if x.1 = 8 ∧ x.2.1 = d then 0 else s.2.2.2.2.1.getD d 0 := by
  have h := kinds13 hx
  obtain ⟨(kind : Int), (obj : Int), (g : Int), (a : Int), (b : Int), (rd : Int), (pr : Int)⟩ := x
  simp only at h h0 hne
  have hs : ∀ y : Int, (s.2.2.2.2.1.set obj.toNat y).getD d 0 = if obj = d then y else s.2.2.2.2.1.getD d 0 := fun y => by
    rw [getD_set]
    by_cases ho : obj = d
    · rw [if_pos ⟨by omega, hd⟩, if_pos ho]
    · rw [if_neg fun h => ho (by omega), if_neg ho]
  rcases h with rfl | rfl | rfl | rfl | rfl | rfl | rfl | rfl | rfl | rfl | rfl | rfl | rfl
  case inr.inr.inr.inr.inr.inr.inr.inr.inl =>
    by_cases h0 : 0 ≤ w <;> simp only [doK, Int.reduceEq, reduceIte, or_false, or_true, false_or, or_self, h0, false_and]
  case inr.inr.inr.inr.inr.inl =>
    have := hne (by omega)
    by_cases hc : vAt s obj = v.getD a.toNat 0 <;> simp only [doK, Int.reduceEq, reduceIte, or_false, or_true, false_or, or_self, hc, false_and, hs, this]
  case inr.inl =>
    have := hne (by omega)
    simp only [doK, Int.reduceEq, reduceIte, or_false, or_true, false_or, or_self, false_and, hs, this]
  case inr.inr.inr.inl =>
    have := hne (by omega)
    simp only [doK, Int.reduceEq, reduceIte, or_false, or_true, false_or, or_self, false_and, hs, this]
  case inr.inr.inr.inr.inl =>
    have := hne (by omega)
    simp only [doK, Int.reduceEq, reduceIte, or_false, or_true, false_or, or_self, false_and, hs, this]
  all_goals simp only [doK, Int.reduceEq, reduceIte, or_false, or_true, false_or, or_self, false_and, true_and, hs]
structure Inv (n : Nat) (f : Fl) (s : St) : Prop where
  runs : ∀ p < f.2.2.2.1.length, s.2.1.getD p false = false → s.1.getD p 0 = 0
  marked : ∀ p < f.2.2.2.1.length, (s.2.2.1.getD p false = true ↔ ∃ i, Done n f s p i ∧ (inst f p i).1 = 13)
  locks : ∀ d < f.2.1.length, (f.2.1.getD d d0).1 = 3 → s.2.2.2.2.1.getD d 0 ≠ 0 → ∃ p < f.2.2.2.1.length, s.2.2.2.2.1.getD d 0 = ((p + 1 : Nat) : Int) ∧ ∃ i, Done n f s p i ∧ (inst f p i).1 = 7 ∧ (inst f p i).2.1 = (d : Int) ∧ ∀ j, i < j → Done n f s p j → ¬ (((inst f p j).1 = 7 ∨ (inst f p j).1 = 8) ∧ (inst f p j).2.1 = (d : Int))
theorem inv_begin {n : Nat} {f : Fl} (hf : okAll f) : Inv n f (beginM f) := by
  have h0 : ∀ p, p < f.2.2.2.1.length → (beginM f).1.getD p 0 = 0 := fun p hp => by
    unfold beginM
    simp only
    rw [List.getD_eq_getElem?_getD, List.getElem?_replicate, if_pos hp]
    rfl
  refine ⟨fun p hp _ => h0 p hp, fun p hp => ?_, fun d hd hk hv => ?_⟩
  · constructor
    · intro h
      unfold beginM at h
      simp only at h
      rw [List.getD_eq_getElem?_getD, List.getElem?_replicate, if_pos hp] at h
      cases h
    · rintro ⟨i, ⟨h1, _⟩, _⟩
      rw [h0 p hp] at h1
      omega
  · refine absurd ?_ hv
    unfold beginM beginV
    simp only
    rw [gmap_get _ hd, if_neg (by omega)]
theorem inv_step {n : Nat} (hn : 8193 ≤ n) {f : Fl} (hf : okAll f) {s : St} (hS : okS f s) (hI : Inv n f s) {t : Tn} (h : t ∈ turnsM f (V n f s) s) : Inv n f (doM n f s t) := by
  obtain ⟨p, k, m, hP, hd, hT, hmn⟩ := part_of hn hf hS h
  have hfa := fact_of hf hS hT.hp hT.hk
  obtain ⟨l1, l2, l3, l4, l5, l6⟩ := hS.1
  have hrun := (nowM_some.mp hP.hk).1
  have hnx := hP.next
  have hm := hP.hm
  have hdone := fun (q i : Nat) (hq : q < f.2.2.2.1.length) => hP.done hf hS (q := q) (i := i) hq
  have hr := doK_runs (n := n) (f := f) (v := V n f s) (s := s) (p := p) (w := t.2.1) (k := k) hfa.kind
  have hk := doK_marked (n := n) (f := f) (v := V n f s) (s := s) (p := p) (w := t.2.1) (k := k) hfa.kind
  rw [← hd] at hr hk
  refine ⟨fun q hq hrq => ?_, fun q hq => ?_, fun d hdl hd3 hv => ?_⟩
  · -- runs
    have h1 : s.2.1.getD q false = false := by
      rw [hr] at hrq
      split at hrq
      · rw [getD_set] at hrq
        split at hrq
        · cases hrq
        · exact hrq
      · exact hrq
    have hqp : q ≠ p := fun e => by rw [e, hrun.1] at h1; cases h1
    rw [hnx q hq, if_neg hqp]
    by_cases hmq : (m.map Prod.fst) = some q
    · cases m with
      | none => cases hmq
      | some mm =>
        obtain ⟨q', j⟩ := mm
        have hmq : q' = q := by simpa using hmq
        subst hmq
        have := (nowM_some.mp (hm q' j rfl).2.2.1).1.1
        rw [h1] at this
        cases this
    · rw [if_neg hmq]
      exact hI.runs q hq h1
  · -- marked
    have h1 : (doM n f s t).2.2.1.getD q false = true ↔ ((inst f p k).1 = 13 ∧ q = p) ∨ s.2.2.1.getD q false = true := by
      rw [hk]
      by_cases h13 : (inst f p k).1 = 13
      · rw [if_pos h13, getD_set]
        by_cases hpq : p = q
        · rw [if_pos ⟨hpq, by omega⟩]
          exact ⟨fun _ => .inl ⟨h13, hpq.symm⟩, fun _ => rfl⟩
        · rw [if_neg fun h => hpq h.1]
          exact ⟨fun h => .inr h, fun h => h.resolve_left fun h2 => hpq h2.2.symm⟩
      · rw [if_neg h13]
        exact ⟨fun h => .inr h, fun h => h.resolve_left fun h2 => h13 h2.1⟩
    rw [h1, hI.marked q hq]
    constructor
    · rintro (⟨h13, rfl⟩ | ⟨i, h2, h3⟩)
      · exact ⟨k, (hdone q k hq).mpr (.inr (.inl ⟨rfl, rfl⟩)), h13⟩
      · exact ⟨i, (hdone q i hq).mpr (.inl h2), h3⟩
    · rintro ⟨i, h2, h3⟩
      rcases (hdone q i hq).mp h2 with h4 | ⟨rfl, rfl⟩ | h4
      · exact .inr ⟨i, h4, h3⟩
      · exact .inl ⟨h3, rfl⟩
      · have := (hm q i h4).2.2.2.2
        rw [this] at h3
        exact absurd h3 (by decide)
  · -- locks
    have hvs := doK_vars (n := n) (f := f) (v := V n f s) (s := s) (p := p) (w := t.2.1) (k := k) hfa.kind (d := d) (by omega) hfa.obj0 (fun hk2 e => by
      have h1 := hfa.dk (by omega)
      rw [e, Int.toNat_natCast, hd3] at h1
      rcases hk2 with h | h | h | h <;> rw [h] at h1 <;> exact absurd h1 (by decide))
    rw [← hd] at hvs
    rw [hvs] at hv ⊢
    by_cases h7 : (inst f p k).1 = 7 ∧ (inst f p k).2.1 = (d : Int)
    · rw [if_pos h7]
      refine ⟨p, hT.hp, rfl, k, (hdone p k hT.hp).mpr (.inr (.inl ⟨rfl, rfl⟩)), h7.1, h7.2, fun j hj hdj => ?_⟩
      have := hdj.1
      rw [hnx p hT.hp, if_pos rfl] at this
      omega
    · rw [if_neg h7] at hv ⊢
      by_cases h8 : (inst f p k).1 = 8 ∧ (inst f p k).2.1 = (d : Int)
      · rw [if_pos h8] at hv
        exact absurd rfl hv
      · rw [if_neg h8] at hv ⊢
        obtain ⟨q, hq, hqv, i, hdi, hi7, hio, hall⟩ := hI.locks d hdl hd3 hv
        refine ⟨q, hq, hqv, i, (hdone q i hq).mpr (.inl hdi), hi7, hio, fun j hj hdj => ?_⟩
        rcases (hdone q j hq).mp hdj with h4 | ⟨rfl, rfl⟩ | h4
        · exact hall j hj h4
        · rintro ⟨h5 | h5, h6⟩
          · exact h7 ⟨h5, h6⟩
          · exact h8 ⟨h5, h6⟩
        · have := (hm q j h4).2.2.2.2
          rw [this]
          rintro ⟨h5 | h5, _⟩ <;> exact absurd h5 (by decide)
theorem Reach.inv {n : Nat} (hn : 8193 ≤ n) {f : Fl} (hf : okAll f) {s : St} (h : Reach n f s) : Inv n f s := by
  induction h with
  | begin => exact inv_begin hf
  | step h1 h2 ih => exact inv_step hn hf (h1.ok hn hf) ih h2
def dl (f : Fl) (v : List Int) (p m : Nat) : List Nat := (List.range m).filter fun i => decide (gv f v p i ≠ 0)
theorem dl_succ (f : Fl) (v : List Int) (p m : Nat) : dl f v p (m + 1) = dl f v p m ++ if gv f v p m ≠ 0 then [m] else [] := by
  unfold dl
  rw [List.range_succ, List.filter_append]
  congr 1
  by_cases h : gv f v p m ≠ 0
  · rw [List.filter_cons, if_pos (decide_eq_true h), if_pos h]; rfl
  · rw [List.filter_cons, if_neg (by rw [decide_eq_true_eq]; exact h), if_neg h]; rfl
theorem dl_len (f : Fl) (v : List Int) (p m : Nat) : (dl f v p m).length ≤ m := by
  unfold dl
  exact Nat.le_trans (List.length_filter_le _ _) (by rw [List.length_range]; exact Nat.le_refl _)
theorem dl_mem {f : Fl} {v : List Int} {p m i : Nat} : i ∈ dl f v p m ↔ i < m ∧ gv f v p i ≠ 0 := by
  unfold dl
  rw [List.mem_filter, List.mem_range, decide_eq_true_eq]
theorem e_Run {n : Nat} (hn : 8193 ≤ n) {f : Fl} (hl : lightF f) (hf : okAll f) {s : St} (hS : okS f s) {p : Nat} (hp : p < f.2.2.2.1.length) :
    Ev (sunroll_Run n f (p : Int) s.2.2.2.1) fun r => r.map Prod.fst = (dl f (V n f s) p (pr f p).length).map fun i : Nat => (i : Int) := by
  unfold sunroll_Run
  obtain ⟨c, hc1, hc2, hc3⟩ := e_uCheck hn hl
  have hw := hf.w
  have hw1 := hw.1
  refine Ev.bindR (a := false) ?_ (Ev.askF rfl ?_)
  · refine (bindO_eq hc1).trans ?_
    rw [hc3.mpr hf]
    refine (ask_f rfl).trans ((ask_f (by rw [ltI_false]; exact Int.natCast_nonneg p)).trans (congrArg some ?_))
    rw [notB_false]
    exact lt_nc hp
  refine Ev.bindR (e_evalV hn hf s) (Ev.need (in_nc hp) ?_)
  have hVl := V_len n f s
  have hlen : (pr f p).length ≤ 64 := hf.len hp
  have hst := fun i (hi : i < (pr f p).length) => fact_of hf hS hp hi
  have hgd := fun i (hi : i < (pr f p).length) => (hf.inst hp hi).1.2.2.2.2.2.2.1
  refine Ev.forN (pr f p).length (fun i (x : List (Int × Int) × Int) => x.2 = (i : Int) ∧ x.1.map Prod.fst = (dl f (V n f s) p i).map fun i : Nat => (i : Int)) (fun i x rec hi hx hrec => ?_) (fun x rec hx => ?_) n 0 _ ⟨rfl, rfl⟩ (Nat.zero_le _) (by omega)
  · obtain ⟨l, y⟩ := x
    obtain ⟨rfl, hx⟩ := hx
    simp only at hx ⊢
    refine Ev.askT (lt_nc hi) ?_
    have hll : l.length ≤ i := by
      have := congrArg List.length hx
      rw [List.length_map, List.length_map] at this
      have := dl_len f (V n f s) p i
      omega
    have hsucc := dl_succ f (V n f s) p i
    refine Ev.bind (Q := fun y => y.map Prod.fst = (dl f (V n f s) p (i + 1)).map fun i : Nat => (i : Int)) ?_ fun y hy => by rw [wr_nc (by omega)]; exact hrec _ ⟨rfl, hy⟩
    refine Ev.need (in_nc hi) (Ev.need ?_ ?_)
    · have := hgd i hi
      simp only [Int.toNat_natCast]
      rw [inB_iff]
      exact (show 0 ≤ (inst f p i).2.2.1 ∧ (inst f p i).2.2.1.toNat < (V n f s).length by omega)
    · refine Ev.ask (fun h => Ev.some ?_) fun h => ?_
      · have h : gv f (V n f s) p i = 0 := by rw [eqI_iff] at h; simp only [Int.toNat_natCast] at h; exact h
        rw [hsucc, if_neg (not_not_intro h), List.append_nil]
        exact hx
      · have h : gv f (V n f s) p i ≠ 0 := by rw [eqI_false] at h; simp only [Int.toNat_natCast] at h; exact h
        have hfa := hst i hi
        simp only [Int.toNat_natCast]
        refine Ev.bind (Q := fun b => b = true → 0 ≤ (inst f p i).2.2.2.2.2.1 ∧ (inst f p i).2.2.2.2.2.1 < s.2.2.2.1.length) ?_ fun b hb => ?_
        · refine Ev.ask (fun h1 => Ev.some fun h2 => ?_) fun h1 => Ev.some fun e => by cases e
          rw [notB_true, ltI_false] at h1
          rw [ltI_iff] at h2
          exact ⟨h1, h2⟩
        · have hfin : ∀ z : Int × Int, z.1 = (i : Int) → Ev (need (Nat.ble ((l.length + 1) * 16) 140737488355328) (some (l ++ [(z.1, z.2)]))) fun y => y.map Prod.fst = (dl f (V n f s) p (i + 1)).map fun i : Nat => (i : Int) := fun z hz => by
            refine Ev.need (by rw [ble_iff]; omega) (Ev.some ?_)
            rw [hsucc, if_pos h, List.map_append, List.map_append, hx, List.map_cons, hz]
            rfl
          refine Ev.bind (Q := fun z => z.1 = (i : Int)) ?_ fun z hz => hfin z hz
          refine Ev.ask (fun hbt => ?_) fun _ => ?_
          · have := hb hbt
            refine Ev.need ?_ (Ev.need (by rw [notB_true, ltI_false]; show (0 : Int) ≤ f.1; omega) (Ev.some rfl))
            rw [inB_iff]
            exact (show 0 ≤ (inst f p i).2.2.2.2.2.1 ∧ (inst f p i).2.2.2.2.2.1.toNat < s.2.2.2.1.length by omega)
          · refine Ev.bind (Q := fun _ => True) ?_ fun b2 _ => ?_
            · refine Ev.ask (fun _ => ?_) fun _ => Ev.some trivial
              exact Ev.bindR (e_uterms n _) (Ev.some trivial)
            · refine Ev.bind (Q := fun z => z.1 = (i : Int)) ?_ fun z hz => Ev.some hz
              refine Ev.ask (fun _ => Ev.need ?_ (Ev.some rfl)) fun _ => Ev.some rfl
              rw [inB_iff]
              have := hfa.a
              exact (show 0 ≤ (inst f p i).2.2.2.1 ∧ (inst f p i).2.2.2.1.toNat < (V n f s).length by omega)
  · obtain ⟨l, y⟩ := x
    obtain ⟨rfl, hx⟩ := hx
    exact Ev.askF (lt_ec _) (Ev.some hx)
end Go.Proofs.YtfbipcdllbdijaaGreat
