/- The machine VM, part 4: operations on values. -/
import Derived.Test.YtbopmdbejfcbcaaGreatV3
import Derived.Laws.StructEq
set_option linter.unusedVariables false
set_option linter.unusedSectionVars false
set_option linter.unusedSimpArgs false
set_option linter.constructorNameAsVariable false
namespace Go.VM
open Go.RowKit
variable [Val]

theorem eqI_eq (a b : Int) : eqI a b = (a == b) := by
  have hb : ∀ m n : Nat, Nat.beq m n = decide (m = n) := fun m n => by
    by_cases h : m = n
    · subst h; simp
    · rw [decide_eq_false h]
      cases hh : Nat.beq m n with
      | true => exact absurd (Nat.eq_of_beq_eq_true hh) h
      | false => rfl
  rw [Bool.eq_iff_iff, beq_iff_eq]
  cases a <;> cases b <;> simp only [eqI, hb, decide_eq_true_eq]
  · constructor
    · intro h; subst h; rfl
    · intro h; injection h
  · constructor
    · intro h; cases h
    · intro h; cases h
  · constructor
    · intro h; cases h
    · intro h; cases h
  · constructor
    · intro h; subst h; rfl
    · intro h; injection h
theorem eqI_iff {a b : Int} : eqI a b = true ↔ a = b := by rw [eqI_eq]; simp
theorem ltI_eq (a b : Int) : ltI a b = decide (a < b) := by
  have hb : ∀ m n : Nat, Nat.blt m n = decide (m < n) := fun m n => by
    by_cases h : m < n
    · rw [decide_eq_true h]; exact Nat.ble_eq_true_of_le h
    · rw [decide_eq_false h]
      cases hh : Nat.blt m n with
      | true => exact absurd (Nat.le_of_ble_eq_true hh) h
      | false => rfl
  cases a <;> cases b <;> simp only [ltI, hb]
  · rename_i m n; simp
  · rename_i m n; symm; rw [decide_eq_false_iff_not]; simp only [Int.ofNat_eq_natCast]; omega
  · rename_i m n; symm; rw [decide_eq_true_iff]; simp only [Int.ofNat_eq_natCast]; omega
  · rename_i m n; by_cases h : n < m
    · rw [decide_eq_true h, decide_eq_true]; omega
    · rw [decide_eq_false h, decide_eq_false]; omega
theorem eqB_eq (a b : Bool) : eqB a b = (a == b) := by cases a <;> cases b <;> rfl
theorem eqL_iff : ∀ {a b : List Nat}, eqL a b = true ↔ a = b
  | [], [] => by simp [eqL]
  | [], _ :: _ => by simp [eqL]
  | _ :: _, [] => by simp [eqL]
  | a :: r, b :: s => by
    simp only [eqL]
    split
    · rename_i h; have := Nat.eq_of_beq_eq_true h; subst this; rw [eqL_iff]; simp
    · rename_i h; have := Nat.ne_of_beq_eq_false h; simp [this]

theorem wrap_i64 (n : Int) : IntKind.i64.wrap n = if n % 18446744073709551616 ≥ 9223372036854775808 then n % 18446744073709551616 - 18446744073709551616 else n % 18446744073709551616 := by
  have h1 : (2 : Int) ^ 64 = 18446744073709551616 := rfl
  have h2 : (2 : Int) ^ (64 - 1) = 9223372036854775808 := rfl
  simp only [IntKind.wrap, IntKind.bits, IntKind.signed, Bool.true_and, decide_eq_true_eq, h1, h2]
theorem wrap_u64 (n : Int) : IntKind.u64.wrap n = n % 18446744073709551616 := by
  have h1 : (2 : Int) ^ 64 = 18446744073709551616 := rfl
  simp only [IntKind.wrap, IntKind.bits, IntKind.signed, Bool.false_and, h1]
  rfl

theorem wr_eq (k : IntKind) (n : Int) : wr k n = k.wrap n := by
  have hlt : ∀ {m c : Nat}, Nat.blt m c = true → m < c := fun h => Nat.le_of_ble_eq_true h
  unfold wr
  cases k <;> try rfl
  · cases n with
    | ofNat m =>
      dsimp only
      split
      · rename_i h
        have := hlt h
        rw [wrap_i64]
        simp only [Int.ofNat_eq_natCast]
        split <;> omega
      · rfl
    | negSucc m =>
      dsimp only
      split
      · rename_i h
        have := hlt h
        rw [wrap_i64, Int.negSucc_eq]
        split <;> omega
      · rfl
  · cases n with
    | ofNat m =>
      dsimp only
      split
      · rename_i h
        have := hlt h
        rw [wrap_u64]
        simp only [Int.ofNat_eq_natCast]
        omega
      · rfl
    | negSucc m => rfl

theorem bits_eq (op : BinOp) (k : IntKind) (a b : Int) : bits op k a b = match op with
    | .and => k.wrap (BitVec.ofInt k.bits a &&& BitVec.ofInt k.bits b).toNat
    | .or => k.wrap (BitVec.ofInt k.bits a ||| BitVec.ofInt k.bits b).toNat
    | _ => k.wrap (BitVec.ofInt k.bits a ^^^ BitVec.ofInt k.bits b).toNat := by
  unfold bits
  split
  · rename_i m n
    split
    · rename_i h
      simp only [Bool.and_eq_true] at h
      have hm : m < 2 ^ 63 := Nat.le_of_ble_eq_true h.1
      have hn : n < 2 ^ 63 := Nat.le_of_ble_eq_true h.2
      have e : ∀ j : Nat, j < 2 ^ 63 → IntKind.i64.wrap (j : Int) = j := fun j hj => by
        rw [wrap_i64]; split <;> omega
      have eb : ∀ j : Nat, j < 2 ^ 63 → (BitVec.ofInt IntKind.i64.bits (Int.ofNat j)).toNat = j := fun j hj => by
        show (BitVec.ofInt 64 (j : Int)).toNat = j
        rw [BitVec.ofInt_natCast, BitVec.toNat_ofNat]
        exact Nat.mod_eq_of_lt (by omega)
      cases op <;> dsimp only <;> first
        | (rw [BitVec.toNat_and, eb m hm, eb n hn, e _ (Nat.lt_of_le_of_lt Nat.and_le_left hm)]; rfl)
        | (rw [BitVec.toNat_or, eb m hm, eb n hn, e _ (Nat.or_lt_two_pow hm hn)]; rfl)
        | (rw [BitVec.toNat_xor, eb m hm, eb n hn, e _ (Nat.xor_lt_two_pow hm hn)]; rfl)
    · cases op <;> rfl
  · cases op <;> rfl

section
variable {P : Program} {w : World} {X : Nat → Prop} {φ : Loc}

theorem yes_rep {b : Bool} {c : V} (h : yes b = some c) : Rep w X φ c (.bool b) := by
  simp only [yes, Option.some.injEq] at h
  subst h
  exact mk_b

theorem binI_run {op : BinOp} {k : IntKind} {x y : Int} {c : V} (h : binI op k x y = some c) (t : TypeId) : ∃ v, (∀ w', (binOp op t (.int k x) (.int k y)).run P w' = .ok v w') ∧ Rep w X φ c v := by
  cases op <;> simp only [binI] at h <;> first
    | (cases h; done)
    | (injection h with h
       subst h
       refine ⟨_, fun w' => ?_, mk_i⟩
       simp only [wr_eq, bits_eq]
       simp [binOp, Op.intArith, Op.intBits, Op.intCmp]
       done)
    | (injection h with h
       subst h
       refine ⟨_, fun w' => ?_, mk_i⟩
       simp only [wr_eq, bits_eq]
       simp [binOp, Op.intArith, Op.intBits, Op.intCmp]
       rfl)
    | (injection h with h
       subst h
       refine ⟨_, fun w' => ?_, mk_i⟩
       simp [binOp, Op.intArith, Op.intBits, Op.intCmp]
       done)
    | (refine ⟨_, fun w' => ?_, yes_rep h⟩
       simp only [eqI_eq, ltI_eq]
       simp [binOp, Op.intCmp]
       done)
    | (refine ⟨_, fun w' => ?_, yes_rep h⟩
       simp only [eqI_eq, ltI_eq]
       simp [binOp, Op.intCmp]
       rfl)
    | (refine ⟨_, fun w' => ?_, yes_rep h⟩
       simp only [eqI_eq, ltI_eq]
       simp only [binOp, Op.intCmp]
       simp
       omega)
    | (split at h
       · cases h
       · rename_i hb
         injection h with h
         subst h
         have h0 : ¬ y = 0 := fun e => by subst e; simp [eqI] at hb
         refine ⟨_, fun w' => ?_, mk_i⟩
         try simp only [wr_eq]
         simp [binOp, Op.intDiv, h0])
    | (refine ⟨_, fun w' => ?_, yes_rep h⟩
       simp only [ltI_eq, ← decide_not, Int.not_lt]
       simp [binOp, Op.intCmp])
    | (refine ⟨_, fun w' => ?_, yes_rep h⟩
       simp only [ltI_eq, ← decide_not, Int.not_lt]
       simp [binOp, Op.intCmp]
       rfl)

theorem shI_run {op : BinOp} {k k' : IntKind} {x y : Int} {c : V} (h : shI op k x y = some c) (t : TypeId) : ∃ v, (∀ w', (binOp op t (.int k x) (.int k' y)).run P w' = .ok v w') ∧ Rep w X φ c v := by
  unfold shI at h
  split at h
  · rename_i h0
    injection h with h; subst h
    rw [ltI_eq, decide_eq_false_iff_not] at h0
    exact ⟨_, fun w' => by simp only [wr_eq]; simp [binOp, Op.shift, h0], mk_i⟩
  · rename_i h0
    injection h with h; subst h
    rw [ltI_eq, decide_eq_false_iff_not] at h0
    exact ⟨_, fun w' => by simp [binOp, Op.shift, h0], mk_i⟩
  · cases h

theorem asks_run {op : BinOp} {b : Bool} {c : V} {t : TypeId} {u v : Value} (h : asks op b = some c) (he : ∀ w', (binOp .eql t u v).run P w' = .ok (.bool b) w') (hn : ∀ w', (binOp .neq t u v).run P w' = .ok (.bool (!b)) w') : ∃ r, (∀ w', (binOp op t u v).run P w' = .ok r w') ∧ Rep w X φ c r := by
  cases op <;> simp only [asks] at h <;> first
    | (cases h; done)
    | exact ⟨_, he, yes_rep h⟩
    | exact ⟨_, hn, yes_rep h⟩

theorem map_toNat_inj : ∀ {a b : List UInt8}, a.map UInt8.toNat = b.map UInt8.toNat → a = b
  | [], [], _ => rfl
  | [], _ :: _, h => by simp at h
  | _ :: _, [], h => by simp at h
  | x :: a, y :: b, h => by
    simp only [List.map_cons, List.cons.injEq] at h
    rw [map_toNat_inj h.2, UInt8.toNat_inj.1 h.1]

theorem toList_data (s : ByteArray) : s.toList = s.data.toList := ByteArray.toList_eq s

theorem eqL_bytes {s t : ByteArray} {a b : List Nat} (ha : s.data.toList.map UInt8.toNat = a) (hb : t.data.toList.map UInt8.toNat = b) : eqL a b = (s.toList == t.toList) := by
  subst ha; subst hb
  rw [toList_data, toList_data, Bool.eq_iff_iff, eqL_iff]
  constructor
  · intro h; rw [map_toNat_inj h]; simp
  · intro h; rw [beq_iff_eq] at h; rw [h]

/-! structs of plain cells -/

theorem nilP_spec {c : V} {b : Bool} {v : Value} (h : nilP c = some b) (hr : Rep w X φ c v) : ∃ ad, v = .pointer ad ∧ b = ad.isNone := by
  unfold nilP at h
  split at h <;> first | (cases h; done) | (injection h with h; subst h)
  · exact ⟨none, rep_raw hr |>.1, rfl⟩
  · obtain ⟨ad, rfl, _⟩ := rep_ptr hr; exact ⟨_, rfl, rfl⟩
  · obtain ⟨ad, _, rfl, _⟩ := rep_fpt hr; exact ⟨_, rfl, rfl⟩
theorem nilS_spec {c : V} {b : Bool} {v : Value} (h : nilS c = some b) (hr : Rep w X φ c v) : ∃ ad n c, v = .slice ad n c ∧ b = ad.isNone := by
  unfold nilS at h
  split at h <;> first | (cases h; done) | (injection h with h; subst h)
  · exact ⟨none, 0, 0, rep_raw hr |>.1, rfl⟩
  · obtain ⟨ad, c, rfl, _⟩ := rep_sl hr; exact ⟨_, _, _, rfl, rfl⟩
  · obtain ⟨ad, rfl⟩ := rep_emp hr; exact ⟨_, _, _, rfl, rfl⟩
  · cases hr; exact ⟨_, _, _, rfl, rfl⟩
theorem nilM_spec {c : V} {b : Bool} {v : Value} (h : nilM c = some b) (hr : Rep w X φ c v) : ∃ r, v = .map r ∧ b = r.isNone := by
  unfold nilM at h
  split at h <;> first | (cases h; done) | (injection h with h; subst h)
  · exact ⟨none, rep_raw hr |>.1, rfl⟩
  · obtain ⟨r, rfl, _⟩ := rep_mp hr; exact ⟨_, rfl, rfl⟩

theorem eqIn_ptr_nil {d : Nat} {t e : TypeId} (ht : P.underlying t = some (.pointer e)) (ad : Option Addr) (w : World) : (Op.equalIn (d + 1) t (.pointer ad) (.pointer none)).run P w = .ok ad.isNone w ∧ (Op.equalIn (d + 1) t (.pointer none) (.pointer ad)).run P w = .ok ad.isNone w := by
  cases ad <;> simp [Op.equalIn, run_underlying ht]
theorem eqIn_slice_nil {d : Nat} {t e : TypeId} (ht : P.underlying t = some (.slice e)) (ad : Option Addr) (n c n' c' : Nat) (w : World) : (Op.equalIn (d + 1) t (.slice ad n c) (.slice none n' c')).run P w = .ok ad.isNone w ∧ (Op.equalIn (d + 1) t (.slice none n' c') (.slice ad n c)).run P w = .ok ad.isNone w := by
  cases ad <;> simp [Op.equalIn, run_underlying ht]
theorem eqIn_map_nil {d : Nat} {t k e : TypeId} (ht : P.underlying t = some (.map k e)) (r : Option Nat) (w : World) : (Op.equalIn (d + 1) t (.map r) (.map none)).run P w = .ok r.isNone w ∧ (Op.equalIn (d + 1) t (.map none) (.map r)).run P w = .ok r.isNone w := by
  cases r <;> simp [Op.equalIn, run_underlying ht]

/-! cells of one kind -/

theorem tKind_spec {t : TypeId} {k : Nat} (h : tKind P t = some k) : (k = 0 ∧ ∃ j, P.underlying t = some (.int j)) ∨ (k = 1 ∧ P.underlying t = some .string) ∨ (k = 2 ∧ P.underlying t = some .bool) := by
  unfold tKind at h
  split at h <;> first | (cases h; done) | (injection h with h; subst h)
  · rename_i j hj; exact .inl ⟨rfl, j, hj⟩
  · rename_i hj; exact .inr (.inl ⟨rfl, hj⟩)
  · rename_i hj; exact .inr (.inr ⟨rfl, hj⟩)

theorem cell_eq {d : Nat} {t : TypeId} {k : Nat} (ht : tKind P t = some k) {a b : V} {u v : Value} (ho : kindOk k a = true) {r : Bool} (he : cellEq a b = some r) (ha : Rep w X φ a u) (hb : Rep w X φ b v) (w' : World) : (Op.equalIn (d + 1) t u v).run P w' = .ok r w' := by
  unfold cellEq at he
  split at he
  · rename_i j x k' y
    split at he
    · rename_i hk
      have hk := of_decide_eq_true hk
      subst hk
      injection he with he
      subst he
      obtain rfl := rep_i ha
      obtain rfl := rep_i hb
      rcases tKind_spec ht with ⟨rfl, j', hj⟩ | ⟨rfl, _⟩ | ⟨rfl, _⟩
      · rw [eqI_eq]; exact run_equalIn_int w' d t j j' x y hj
      · cases ho
      · cases ho
    · cases he
  · rename_i x y
    injection he with he
    subst he
    obtain rfl := rep_b ha
    obtain rfl := rep_b hb
    rcases tKind_spec ht with ⟨rfl, j', hj⟩ | ⟨rfl, _⟩ | ⟨rfl, hj⟩
    · cases ho
    · cases ho
    · rw [eqB_eq]; exact run_equalIn_bool' w' d t x y hj
  · rename_i x y
    injection he with he
    subst he
    obtain ⟨s, rfl, hs⟩ := rep_str ha
    obtain ⟨s', rfl, hs'⟩ := rep_str hb
    rcases tKind_spec ht with ⟨rfl, j', hj⟩ | ⟨rfl, hj⟩ | ⟨rfl, _⟩
    · cases ho
    · rw [eqL_bytes hs hs']; exact run_equalIn_string w' d t s s' hj
    · cases ho
  · cases he

theorem tKind_agg {t : TypeId} {k : Nat} (ht : tKind P t = some k) (w' : World) : (isAgg t).run P w' = .ok false w' := by
  unfold isAgg
  rcases tKind_spec ht with ⟨rfl, j', hj⟩ | ⟨rfl, hj⟩ | ⟨rfl, hj⟩ <;> simp [run_underlying hj]

theorem part_plain {t : TypeId} {k : Nat} (ht : tKind P t = some k) {vs : List Value} {o : Nat} {v : Value} (hv : vs[o]? = some v) (w' : World) : (part t vs.toArray o).run P w' = .ok v w' := by
  unfold part
  simp only [Sem.run_bind, tKind_agg ht, Result.andThen_ok]
  simp [hv]

theorem flat_eq {d : Nat} {xs ys : List Value} : ∀ {fs : List Field} {n : Nat} {ks : List Nat} {a b : List V} {r : Bool}, tFlat P n fs = some ks → kindsOk ks a = true → eqCells a b = some r →
    (∀ (i : Nat) (c : V), a[i]? = some c → ∃ v, xs[n + i]? = some v ∧ Rep w X φ c v) → (∀ (i : Nat) (c : V), b[i]? = some c → ∃ v, ys[n + i]? = some v ∧ Rep w X φ c v) → ∀ w', (Op.eqFields (d + 1) xs.toArray ys.toArray fs).run P w' = .ok r w'
  | [], n, ks, a, b, r, hf, ha, he, hx, hy, w' => by
    simp only [tFlat, Option.some.injEq] at hf
    subst hf
    cases a with
    | nil =>
      cases b with
      | nil => simp only [eqCells, Option.some.injEq] at he; subst he; rfl
      | cons => cases he
    | cons => cases ha
  | f :: fs, n, ks, a, b, r, hf, ha, he, hx, hy, w' => by
    simp only [tFlat] at hf
    split at hf
    · rename_i k h1 h2 h3
      split at hf
      · rename_i l hl
        injection hf with hf
        subst hf
        cases a with
        | nil => cases ha
        | cons c a =>
          cases b with
          | nil => cases he
          | cons e b =>
            simp only [kindsOk] at ha
            split at ha
            · rename_i hc
              simp only [eqCells] at he
              split at he
              · rename_i p q hp hq
                injection he with he
                subst he
                have hoff : f.offset = n := Nat.eq_of_beq_eq_true h1
                have hnm : f.name ≠ "_" := by simpa using h3
                obtain ⟨u, hu, hru⟩ := hx 0 c rfl
                obtain ⟨v, hv, hrv⟩ := hy 0 e rfl
                simp only [Nat.add_zero] at hu hv
                have ih := flat_eq (d := d) (xs := xs) (ys := ys) hl ha hq (fun i c h => by rw [show n + 1 + i = n + (i + 1) from by omega]; exact hx (i + 1) c h) (fun i c h => by rw [show n + 1 + i = n + (i + 1) from by omega]; exact hy (i + 1) c h) w'
                simp only [Op.eqFields]
                rw [if_pos hnm]
                simp only [Sem.run_bind, hoff, part_plain h2 hu, part_plain h2 hv, Result.andThen_ok, cell_eq h2 hc hp hru hrv]
                cases p
                · simp
                · simp [ih]
              · cases he
            · cases ha
      · cases hf
    · cases hf

theorem flat_equal {d : Nat} {t : TypeId} {fs : Array Field} (ht : P.underlying t = some (.struct fs)) {ks : List Nat} (hf : tFlatS P t fs = some ks) {a b : List V} {r : Bool} {u v : Value} (hk : kindsOk ks a = true) (he : eqCells a b = some r) (ha : Rep w X φ (.agg a) u) (hb : Rep w X φ (.agg b) v) (w' : World) :
    (Op.equalIn (d + 1 + 1) t u v).run P w' = .ok r w' ∧ ∃ xs ys, u = .agg xs ∧ v = .agg ys := by
  obtain ⟨xs, rfl, hlx, hx⟩ := rep_agg ha
  obtain ⟨ys, rfl, hly, hy⟩ := rep_agg hb
  have hfo : P.fieldsOf t = fs := by simp [Program.fieldsOf, ht]
  unfold tFlatS at hf
  split at hf
  · rename_i hst
    refine ⟨?_, _, _, rfl, rfl⟩
    rw [run_equalIn_struct w' (d + 1) t _ _ (by rw [hfo]; exact ht) hst, hfo]
    refine flat_eq (w := w) (X := X) (φ := φ) hf hk he (fun i c h => ?_) (fun i c h => ?_) w'
    · have hi : i < xs.length := by rw [← hlx]; exact (List.getElem?_eq_some_iff.1 h).1
      exact ⟨xs[i], by simp [hi], hx i c _ h (by simp [hi])⟩
    · have hi : i < ys.length := by rw [← hly]; exact (List.getElem?_eq_some_iff.1 h).1
      exact ⟨ys[i], by simp [hi], hy i c _ h (by simp [hi])⟩
  · cases hf

theorem asks_eq {op : BinOp} {b : Bool} {c : V} {t : TypeId} {u v : Value} (h : asks op b = some c) (he : ∀ w', (Op.equal t u v).run P w' = .ok b w') (hb : ∀ w', (binOp .eql t u v).run P w' = ((Op.equal t u v).run P w').andThen fun b w' => .ok (.bool b) w') (hn : ∀ w', (binOp .neq t u v).run P w' = ((Op.equal t u v).run P w').andThen fun b w' => .ok (.bool (!b)) w') :
    ∃ r, (∀ w', (binOp op t u v).run P w' = .ok r w') ∧ Rep w X φ c r :=
  asks_run h (fun w' => by rw [hb, he]; rfl) (fun w' => by rw [hn, he]; rfl)

/-- what the type says of a compare -/
structure BinT (P : Program) (kd : Nat) (t : TypeId) : Prop where
  bool : kd = 1 → P.underlying t = some .bool
  ptr : kd = 2 → ∃ e, P.underlying t = some (.pointer e)
  sl : kd = 3 → ∃ e, P.underlying t = some (.slice e)
  mp : kd = 4 → ∃ k e, P.underlying t = some (.map k e)

/-- not what a compare has to look into first -/
def Plain (u v : Value) : Prop := (∀ z, u ≠ .agg z) ∧ u ≠ .nilIface

theorem nilv_cases {op : BinOp} {p q : Option Bool} {c : V} (h : nilv op p q = some c) : ∃ a b, p = some a ∧ q = some b ∧ ((a = true ∧ asks op b = some c) ∨ (b = true ∧ asks op a = some c)) := by
  unfold nilv at h
  split at h
  · exact ⟨_, _, rfl, rfl, .inl ⟨rfl, h⟩⟩
  · exact ⟨_, _, rfl, rfl, .inr ⟨rfl, h⟩⟩
  · cases h

theorem sound_binv {kd : Nat} {op : BinOp} {x y : V} {u v : Value} {c : V} {t : TypeId} (h : binv kd op x y = some c) (hx : Rep w X φ x u) (hy : Rep w X φ y v) (ht : BinT P kd t) :
    Plain u v ∧ ∃ r, (∀ w', (binOp op t u v).run P w' = .ok r w') ∧ Rep w X φ c r := by
  unfold binv at h
  split at h
  · split at h
    · obtain rfl := rep_i hx
      obtain rfl := rep_i hy
      refine ⟨⟨fun z h => by (cases h), by intro h; cases h⟩, ?_⟩
      split at h
      · exact shI_run h t
      · split at h
        · rename_i hk
          have hk := of_decide_eq_true hk
          subst hk
          exact binI_run h t
        · cases h
    · rename_i p q
      obtain ⟨s, rfl, hs⟩ := rep_str hx
      obtain ⟨s', rfl, hs'⟩ := rep_str hy
      refine ⟨⟨fun z h => by (cases h), by intro h; cases h⟩, ?_⟩
      split at h
      · split at h
        · rename_i hle
          injection h with h
          subst h
          have hle := Nat.le_of_ble_eq_true hle
          have e1 : p.length = s.size := by rw [← hs]; simp
          have e2 : q.length = s'.size := by rw [← hs']; simp
          refine ⟨.string (s ++ s'), fun w' => ?_, .str _ _ (by rw [← hs, ← hs']; simp)⟩
          have h2 : ¬ (IntKind.i64.max : Int) < (s.size : Int) + (s'.size : Int) := by
            have : (IntKind.i64.max : Int) = 9223372036854775807 := by decide
            omega
          simp only [binOp, Op.stringOp]
          rw [if_neg (by simpa using h2)]
          rfl
        · cases h
      · exact asks_run h (fun w' => by rw [eqL_bytes hs hs']; simp [binOp, Op.stringOp]) (fun w' => by rw [eqL_bytes hs hs']; simp [binOp, Op.stringOp])
    · cases h
  · split at h
    · rename_i p q
      obtain rfl := rep_b hx
      obtain rfl := rep_b hy
      refine ⟨⟨fun z h => by (cases h), by intro h; cases h⟩, asks_eq h (fun w' => ?_) (fun w' => by simp [binOp]) (fun w' => by simp [binOp])⟩
      rw [eqB_eq]
      exact run_equalIn_bool' w' 9999 t p q (ht.bool rfl)
    · cases h
  · obtain ⟨a, b, h1, h2, h3⟩ := nilv_cases h
    obtain ⟨e, he⟩ := ht.ptr rfl
    obtain ⟨ad, rfl, rfl⟩ := nilP_spec h1 hx
    obtain ⟨bd, rfl, rfl⟩ := nilP_spec h2 hy
    refine ⟨⟨fun z h => by (cases h), by intro h; cases h⟩, ?_⟩
    rcases h3 with ⟨h3, h4⟩ | ⟨h3, h4⟩
    · cases ad <;> first | (cases h3; done) | exact asks_eq h4 (fun w' => (eqIn_ptr_nil (d := 9999) he bd w').2) (fun w' => by simp [binOp]) (fun w' => by simp [binOp])
    · cases bd <;> first | (cases h3; done) | exact asks_eq h4 (fun w' => (eqIn_ptr_nil (d := 9999) he ad w').1) (fun w' => by simp [binOp]) (fun w' => by simp [binOp])
  · obtain ⟨a, b, h1, h2, h3⟩ := nilv_cases h
    obtain ⟨e, he⟩ := ht.sl rfl
    obtain ⟨ad, n, c', rfl, rfl⟩ := nilS_spec h1 hx
    obtain ⟨bd, n', c'', rfl, rfl⟩ := nilS_spec h2 hy
    refine ⟨⟨fun z h => by (cases h), by intro h; cases h⟩, ?_⟩
    rcases h3 with ⟨h3, h4⟩ | ⟨h3, h4⟩
    · cases ad <;> first | (cases h3; done) | exact asks_eq h4 (fun w' => (eqIn_slice_nil (d := 9999) he bd n' c'' n c' w').2) (fun w' => by simp [binOp]) (fun w' => by simp [binOp])
    · cases bd <;> first | (cases h3; done) | exact asks_eq h4 (fun w' => (eqIn_slice_nil (d := 9999) he ad n c' n' c'' w').1) (fun w' => by simp [binOp]) (fun w' => by simp [binOp])
  · obtain ⟨a, b, h1, h2, h3⟩ := nilv_cases h
    obtain ⟨k, e, he⟩ := ht.mp rfl
    obtain ⟨ad, rfl, rfl⟩ := nilM_spec h1 hx
    obtain ⟨bd, rfl, rfl⟩ := nilM_spec h2 hy
    refine ⟨⟨fun z h => by (cases h), by intro h; cases h⟩, ?_⟩
    rcases h3 with ⟨h3, h4⟩ | ⟨h3, h4⟩
    · cases ad <;> first | (cases h3; done) | exact asks_eq h4 (fun w' => (eqIn_map_nil (d := 9999) he bd w').2) (fun w' => by simp [binOp]) (fun w' => by simp [binOp])
    · cases bd <;> first | (cases h3; done) | exact asks_eq h4 (fun w' => (eqIn_map_nil (d := 9999) he ad w').1) (fun w' => by simp [binOp]) (fun w' => by simp [binOp])
  · cases h

theorem sound_beqv {ks : List Nat} {op : BinOp} {x y : V} {u v : Value} {c : V} {t : TypeId} {fs : Array Field} (ht : P.underlying t = some (.struct fs)) (hf : tFlatS P t fs = some ks) (h : beqv ks op x y = some c) (hx : Rep w X φ x u) (hy : Rep w X φ y v) :
    (∃ xs ys, u = .agg xs ∧ v = .agg ys) ∧ ∃ r, (∀ w', (binOp op t u v).run P w' = .ok r w') ∧ Rep w X φ c r := by
  unfold beqv at h
  split at h
  · split at h
    · rename_i hk he
      have hq := fun w' => flat_equal (d := 9998) ht hf hk he hx hy w'
      obtain ⟨xs, ys, rfl, rfl⟩ := (hq default).2
      exact ⟨⟨xs, ys, rfl, rfl⟩, asks_eq h (fun w' => (hq w').1) (fun w' => by simp [binOp]) (fun w' => by simp [binOp])⟩
    · cases h
  · cases h

theorem sound_unv {op : UnOp} {x c : V} {u : Value} (h : unv op x = some c) (hx : Rep w X φ x u) : ∃ r, (∀ w', (Op.unary op u).run P w' = .ok r w') ∧ Rep w X φ c r := by
  unfold unv at h
  split at h
  · obtain rfl := rep_b hx
    split at h
    · exact ⟨_, fun w' => by simp [Op.unary], yes_rep h⟩
    · cases h
  · obtain rfl := rep_i hx
    split at h
    · injection h with h; subst h
      refine ⟨_, fun w' => ?_, mk_i⟩
      have e : ∀ n : Int, Int.sub 0 n = -n := fun n => by show (0 : Int) - n = -n; omega
      simp only [wr_eq, e]
      simp [Op.unary, Op.intArith]
    · injection h with h; subst h; exact ⟨_, fun w' => by simp [Op.unary, Op.intBits], mk_i⟩
    · cases h
  · cases h

end
end Go.VM
