/- The machine VM, part 18: what is known of functions: texts that are searched, and calls whose answer was told once (arguments that are read alone). -/
import Derived.Test.YtbopmdbejfcbcaaGreatV17
import Derived.Lib.IndexMore
set_option linter.unusedVariables false
set_option linter.unusedSectionVars false
set_option linter.unusedSimpArgs false
set_option linter.constructorNameAsVariable false
namespace Go.VM
open Go.RowKit
variable [Val]

section
variable {P : Program} {N : Nat} {B : Nat → Prop} {G : Nat → Nat → Value → Prop} {fr U : Nat → Prop} {φ : Loc} {w : World} {h : Heap}

/-! ### texts -/

def findB : List Nat → Nat → Nat → Int
  | [], _, _ => .negSucc 0
  | a :: r, b, i => match Nat.beq a b with | true => .ofNat i | false => findB r b (Nat.succ i)

def offI (i : Nat) (x : Int) : Int := if x = -1 then -1 else x + i

theorem findB_eq (c : UInt8) : ∀ (l : List UInt8) (i : Nat), findB (l.map UInt8.toNat) c.toNat i = offI i (Lib.indexByte l c)
  | [], i => rfl
  | b :: l, i => by
    simp only [List.map_cons, findB, Lib.indexByte]
    have hb : (b == c) = Nat.beq b.toNat c.toNat := by
      cases h : Nat.beq b.toNat c.toNat with
      | true => rw [UInt8.toNat_inj.1 (Nat.eq_of_beq_eq_true h)]; simp
      | false =>
        have := Nat.ne_of_beq_eq_false h
        rw [beq_eq_false_iff_ne]
        exact fun e => this (by rw [e])
    rw [hb]
    cases Nat.beq b.toNat c.toNat with
    | true => simp [offI]
    | false =>
      simp only [Bool.false_eq_true, if_false, beq_iff_eq]
      rw [findB_eq c l]
      have := Lib.indexByte_ge l c
      unfold offI
      by_cases h1 : Lib.indexByte l c = -1
      · simp [h1]
      · rw [if_neg h1, if_neg h1, if_neg (by omega)]
        simp only [Nat.succ_eq_add_one]
        omega

def isAt : List Nat → List Nat → Bool
  | _, [] => true
  | [], _ => false
  | a :: r, b :: s => match Nat.beq a b with | true => isAt r s | false => false
def hasSub (t : List Nat) : List Nat → Bool
  | [] => match t with | [] => true | _ => false
  | a :: r => match isAt (a :: r) t with | true => true | false => hasSub t r

theorem isAt_eq : ∀ (l t : List UInt8), isAt (l.map UInt8.toNat) (t.map UInt8.toNat) = t.isPrefixOf l
  | l, [] => by cases l <;> simp [isAt]
  | [], b :: t => by simp [isAt]
  | a :: l, b :: t => by
    simp only [List.map_cons, isAt, List.isPrefixOf]
    rw [isAt_eq l t]
    cases h : Nat.beq a.toNat b.toNat with
    | true => rw [UInt8.toNat_inj.1 (Nat.eq_of_beq_eq_true h)]; simp
    | false =>
      have h := Nat.ne_of_beq_eq_false h
      have : (b == a) = false := by rw [beq_eq_false_iff_ne]; exact fun e => h (by rw [e])
      simp [this]

theorem hasSub_eq (t : List UInt8) : ∀ l : List UInt8, hasSub (t.map UInt8.toNat) (l.map UInt8.toNat) = Lib.contains l t
  | [] => by cases t <;> simp [hasSub, Lib.contains, Lib.index]
  | a :: l => by
    have h1 := isAt_eq (a :: l) t
    simp only [List.map_cons] at h1
    simp only [List.map_cons, hasSub]
    rw [h1, hasSub_eq t l]
    simp only [Lib.contains, Lib.index, beq_iff_eq]
    cases t.isPrefixOf (a :: l) with
    | true => simp
    | false =>
      have := Lib.index_ge l t
      simp only [Bool.false_eq_true, if_false]
      by_cases h : Lib.index l t = -1
      · simp [h]
      · rw [if_neg h]
        congr 1
        apply propext
        constructor <;> intro _ <;> omega

/-- functions of Go's library that search texts, by their numbers -/
structure StrFns (P : Program) (k1 k2 g0 : Nat) : Prop where
  ib : ∀ (s : ByteArray) (c : Int) (w : World), Calls P k1 #[.string s, .int .u8 c] w fun e w' => e = .returned (.int .i64 (Lib.indexByte s.data.toList c.toNat.toUInt8)) ∧ w' = w
  ct : ∀ (s sub : ByteArray) (m : Int) (w : World), s.size < 4294967281 → w.cell? ⟨g0, 0, none⟩ = some (.int .i64 m) → Calls P k2 #[.string s, .string sub] w fun e w' => e = .returned (.bool (Lib.contains s.data.toList sub.data.toList)) ∧ w' = w
  e1 : ∃ fn, P.funcs[k1]? = some fn ∧ (fn.name == "runtime.NumGoroutine") = false ∧ fn.body.isNone = false
  e2 : ∃ fn, P.funcs[k2]? = some fn ∧ (fn.name == "runtime.NumGoroutine") = false ∧ fn.body.isNone = false

def strI : List V → Option V
  | [.str s, .raw (.int .u8 (.ofNat b))] => match Nat.blt b 256 with | true => some (.raw (.int .i64 (findB s b 0))) | false => none
  | _ => none
def strC : List V → Option V
  | [.str s, .str t] => match Nat.blt s.length 4294967281 with | true => some (.raw (.bool (hasSub t s))) | false => none
  | _ => none

/-! ### data, and what stands for it -/

inductive D where
  | num (k : IntKind) (n : Int)
  | bool (b : Bool)
  | str (l : List Nat)
  | nils
  | sl (sz n : Nat) (cs : List D)
  | agg (cs : List D)
  deriving Inhabited

def D.cell : Nat → D → V
  | 0, _ => .any
  | d + 1, c => match c with
    | .num k n => .raw (.int k n)
    | .bool b => .raw (.bool b)
    | .str l => .str l
    | .nils => .raw (.slice none 0 0)
    | .sl sz n cs => .fro sz n fun j i => match cs[j * sz + i]? with | some c => D.cell d c | none => .any
    | .agg _ => .any

def D.val (d : Nat) : D → V
  | .agg cs => .agg (cs.map (D.cell d))
  | c => D.cell d c

theorem cell_nl (d : Nat) (c : D) : (D.cell d c).nl 4 = true := by
  cases d with
  | zero => rfl
  | succ d => cases c <;> rfl

mutual
def eqD : Nat → Heap → D → V → Bool
  | 0, _, _, _ => false
  | d + 1, h, c, v => match c with
    | .num k n => match v with | .raw (.int k' n') => decide (k = k') && eqI n n' | _ => false
    | .bool b => match v with | .raw (.bool b') => eqB b b' | _ => false
    | .str l => match v with | .str l' => eqL l l' | _ => false
    | .nils => match v with | .raw (.slice none 0 0) => true | _ => false
    | .agg _ => false
    | .sl sz n cs => match v with
      | .sl x sz' off n' cap => match Nat.beq sz sz' && Nat.beq n n' && Nat.beq cs.length (n * sz), h.get x with
        | true, some (.cells us) => match Nat.ble (off + n * sz) us.length with
          | true => eqDs d h cs (cut us off (n * sz))
          | false => false
        | _, _ => false
      | .fro sz' n' g => match Nat.beq sz sz' && Nat.beq n n' && Nat.beq cs.length (n * sz) with
        | true => eqDs d h cs ((List.range n).map fun j => cellsAt (g j) 0 sz).flatten
        | false => false
      | _ => false
def eqDs : Nat → Heap → List D → List V → Bool
  | _, _, [], [] => true
  | d, h, c :: r, v :: s => match eqD d h c v with | true => eqDs d h r s | false => false
  | _, _, _, _ => false
end

theorem eqDs_get {d : Nat} {h : Heap} : ∀ {cs : List D} {vs : List V}, eqDs d h cs vs = true → cs.length = vs.length ∧ ∀ (i : Nat) (c : D) (v : V), cs[i]? = some c → vs[i]? = some v → eqD d h c v = true
  | [], [], _ => ⟨rfl, fun i c v h => by cases h⟩
  | c :: r, v :: s, hq => by
    unfold eqDs at hq
    split at hq
    · rename_i h1
      obtain ⟨h2, h3⟩ := eqDs_get hq
      refine ⟨by simp [h2], fun i c' v' g1 g2 => ?_⟩
      cases i with
      | zero => simp at g1 g2; subst g1; subst g2; exact h1
      | succ i => exact h3 i c' v' (by simpa using g1) (by simpa using g2)
    · cases hq
  | [], _ :: _, hq => by unfold eqDs at hq; cases hq
  | _ :: _, [], hq => by unfold eqDs at hq; cases hq

theorem gone0 : Gone 0 = fun _ => none := by funext x; simp [Gone]

/-- what stands for data in a store may be read as memory that nobody writes -/
theorem eqD_rep (R : HeapAt B G fr φ h w) : ∀ {d : Nat} {c : D} {v : V} {u : Value}, eqD d h c v = true → Rep w (Excl B φ) φ v u → Rep w (fun _ => False) (Gone 0) (D.cell d c) u := by
  intro d
  induction d with
  | zero => intro c v u hq _; unfold eqD at hq; cases hq
  | succ d ih =>
    intro c v u hq hr
    have froz : ∀ {sz n : Nat} {cs : List D} {us : List V} {b off cap : Nat} {ad : Addr} {val : Nat → Value}, ad.spot = none → ad.block < w.heap.size → n ≤ cap → cs.length = n * sz → eqDs d h cs us = true →
        (∀ k, k < n * sz → w.cell? ⟨ad.block, ad.off + k, none⟩ = some (val k) ∧ (val k).oneCell' = true ∧ ∀ v, us[k]? = some v → Rep w (Excl B φ) φ v (val k)) →
        Rep w (fun _ => False) (Gone 0) (D.cell (d + 1) (.sl sz n cs)) (.slice (some ad) n cap) := by
      intro sz n cs us b off cap ad val hs hlt hc hl hq hv
      obtain ⟨hl2, hg⟩ := eqDs_get hq
      have hk : ∀ {j c : Nat}, j < n → c < sz → j * sz + c < n * sz := fun {j c} h1 h2 => by
        have : (j + 1) * sz ≤ n * sz := Nat.mul_le_mul_right _ h1
        rw [Nat.add_mul] at this; omega
      refine .fro sz n _ ad cap (fun j c => val (j * sz + c)) hs (fun h => h) hlt hc (fun j c h1 h2 => (hv _ (hk h1 h2)).1) (fun j c h1 h2 => (hv _ (hk h1 h2)).2.1) (fun j c h1 h2 => ?_) fun j c h1 h2 => ?_
      · have hlt := hk h1 h2
        have e1 : cs[j * sz + c]? = some cs[j * sz + c] := List.getElem?_eq_getElem (by omega)
        have e2 : us[j * sz + c]? = some us[j * sz + c] := List.getElem?_eq_getElem (by omega)
        simp only [e1]
        exact ih (hg _ _ _ e1 e2) ((hv _ hlt).2.2 _ e2)
      · split
        · exact cell_nl _ _
        · rfl
    unfold eqD at hq
    cases c with
    | num k n =>
      dsimp only at hq
      split at hq
      · rename_i k' n'
        rw [Bool.and_eq_true, decide_eq_true_iff] at hq
        obtain ⟨rfl, h2⟩ := hq
        obtain rfl := eqI_iff.1 h2
        rw [rep_i hr]; exact mk_i
      · cases hq
    | bool b =>
      dsimp only at hq
      split at hq
      · rename_i b'
        rw [eqB_eq, beq_iff_eq] at hq
        subst hq
        rw [rep_b hr]; exact mk_b
      · cases hq
    | str l =>
      dsimp only at hq
      split at hq
      · rename_i l'
        obtain rfl := eqL_iff.1 hq
        obtain ⟨t, rfl, ht⟩ := rep_str hr
        exact .str _ t ht
      · cases hq
    | nils =>
      dsimp only at hq
      split at hq
      · obtain ⟨rfl, h2⟩ := rep_raw hr
        exact .raw _ h2
      · cases hq
    | agg cs => dsimp only at hq; cases hq
    | sl sz n cs =>
      dsimp only at hq
      split at hq
      · rename_i x sz' off n' cap
        split at hq
        · rename_i us h1 h2
          split at hq
          · rename_i hle
            have hle := Nat.le_of_ble_eq_true hle
            simp only [Bool.and_eq_true] at h1
            obtain ⟨⟨e1, e2⟩, e3⟩ := h1
            have e1 := Nat.eq_of_beq_eq_true e1
            have e2 := Nat.eq_of_beq_eq_true e2
            have e3 := Nat.eq_of_beq_eq_true e3
            subst e1; subst e2
            obtain ⟨b, hb, vs, t', z, hh, hz, hlen, hv⟩ := R.st x _ h2
            obtain ⟨ad, c', rfl, hs, _, had⟩ := rep_sl hr
            obtain ⟨had, hnc, _⟩ := had b hb
            rcases Nat.eq_zero_or_pos n with hn | hn
            · subst hn
              exact .froZero _ _ _ _
            · obtain rfl := had (by omega)
              refine froz (b := b) (off := off) (val := fun k => vs.getD (off + k) undef) rfl (heap_lt hh) hnc e3 hq fun k hk => ?_
              have hlt : off + k < vs.size := by omega
              have e5 : vs[off + k]? = some vs[off + k] := by simp [hlt]
              have e4 : vs.getD (off + k) undef = vs[off + k] := by simp [Array.getD, hlt]
              have hu : off + k < us.length := by omega
              have e6 : us[off + k]? = some us[off + k] := List.getElem?_eq_getElem hu
              rw [e4]
              refine ⟨by rw [cell_of_heap hh]; exact e5, (hv _ _ _ e6 e5).2, fun v hv' => ?_⟩
              obtain ⟨_, h8⟩ := cut_get hv'
              exact (hv _ _ _ h8 e5).1
          · cases hq
        · cases hq
      · rename_i sz' n' g
        split at hq
        · rename_i h1
          simp only [Bool.and_eq_true] at h1
          obtain ⟨⟨e1, e2⟩, e3⟩ := h1
          have e1 := Nat.eq_of_beq_eq_true e1
          have e2 := Nat.eq_of_beq_eq_true e2
          have e3 := Nat.eq_of_beq_eq_true e3
          subst e1; subst e2
          cases hr with
          | froNil _ _ => exact .froNil _ _
          | froZero _ _ ad cap => exact .froZero _ _ ad cap
          | fro _ _ _ ad cap val hs hx hlt hcap hr' h1 hf hn =>
            rcases Nat.eq_zero_or_pos sz with h0 | h0
            · subst h0
              exact .fro 0 n _ ad cap (fun _ _ => undef) hs (fun h => h) hlt hcap (fun j c _ h => absurd h (by omega)) (fun j c _ h => absurd h (by omega)) (fun j c _ h => absurd h (by omega)) (fun j c _ h => absurd h (by omega))
            refine froz (b := 0) (off := 0) (val := fun k => val (k / sz) (k % sz)) hs hlt hcap e3 hq fun k hk => ?_
            have hj : k / sz < n := by rw [Nat.div_lt_iff_lt_mul h0]; exact hk
            have hm : k % sz < sz := Nat.mod_lt _ h0
            have hkk : k / sz * sz + k % sz = k := Nat.div_add_mod' k sz
            refine ⟨?_, h1 _ _ hj hm, fun v hv => ?_⟩
            · have := hr' _ _ hj hm; rw [hkk] at this; exact this
            · have hA : ∀ l ∈ (List.range n).map fun j => cellsAt (g j) 0 sz, l.length = sz := fun l hl => by
                obtain ⟨j, _, rfl⟩ := List.mem_map.1 hl
                exact cellsAt_len _ _ _
              rw [flat_get h0 k hA] at hv
              obtain ⟨l, hl, hv⟩ := Option.bind_eq_some_iff.1 hv
              simp only [List.getElem?_map, List.getElem?_range hj, Option.map_some, Option.some.injEq] at hl
              subst hl
              obtain ⟨_, rfl⟩ := cellsAt_get _ _ _ _ _ hv
              have := hf _ _ hj hm
              simpa using this
        · cases hq
      · cases hq

def eqT (d : Nat) (h : Heap) : D → V → Bool
  | .agg cs, .agg vs => eqDs d h cs vs
  | .agg _, _ => false
  | c, v => eqD d h c v

theorem eqT_rep (R : HeapAt B G fr φ h w) {d : Nat} {c : D} {v : V} {u : Value} (hq : eqT d h c v = true) (hr : Rep w (Excl B φ) φ v u) : Rep w (fun _ => False) (Gone 0) (D.val d c) u := by
  cases c with
  | agg cs =>
    unfold eqT at hq
    cases v with
    | agg vs =>
      dsimp only at hq
      obtain ⟨us, rfl, hl, hg⟩ := rep_agg hr
      obtain ⟨h1, h2⟩ := eqDs_get hq
      refine .agg _ us (by simp [h1, hl]) fun i c u g1 g2 => ?_
      rw [List.getElem?_map] at g1
      obtain ⟨c', hc, rfl⟩ := Option.map_eq_some_iff.1 g1
      have hlt : i < vs.length := by rw [← h1]; exact (List.getElem?_eq_some_iff.1 hc).1
      have e2 : vs[i]? = some vs[i] := List.getElem?_eq_getElem hlt
      exact eqD_rep R (h2 i _ _ hc e2) (hg i _ _ e2 g2)
    | _ => cases hq
  | num _ _ => exact eqD_rep R hq hr
  | bool _ => exact eqD_rep R hq hr
  | str _ => exact eqD_rep R hq hr
  | nils => exact eqD_rep R hq hr
  | sl _ _ _ => exact eqD_rep R hq hr

def eqTs (d : Nat) (h : Heap) : List D → List V → Bool
  | [], [] => true
  | c :: r, v :: s => match eqT d h c v with | true => eqTs d h r s | false => false
  | _, _ => false

theorem eqTs_get {d : Nat} {h : Heap} : ∀ {cs : List D} {vs : List V}, eqTs d h cs vs = true → cs.length = vs.length ∧ ∀ (i : Nat) (c : D) (v : V), cs[i]? = some c → vs[i]? = some v → eqT d h c v = true
  | [], [], _ => ⟨rfl, fun i c v h => by cases h⟩
  | c :: r, v :: s, hq => by
    unfold eqTs at hq
    split at hq
    · rename_i h1
      obtain ⟨h2, h3⟩ := eqTs_get hq
      refine ⟨by simp [h2], fun i c' v' g1 g2 => ?_⟩
      cases i with
      | zero => simp at g1 g2; subst g1; subst g2; exact h1
      | succ i => exact h3 i c' v' (by simpa using g1) (by simpa using g2)
    · cases hq
  | [], _ :: _, hq => by unfold eqTs at hq; cases hq
  | _ :: _, [], hq => by unfold eqTs at hq; cases hq

/-! results: what stands for data, all of it in memory that is new -/

mutual
def eqN : Nat → Heap → D → V → Bool
  | 0, _, _, _ => false
  | d + 1, h, c, v => match c with
    | .num k n => match v with | .raw (.int k' n') => decide (k = k') && eqI n n' | _ => false
    | .bool b => match v with | .raw (.bool b') => eqB b b' | _ => false
    | .str l => match v with | .str l' => eqL l l' | _ => false
    | .nils => match v with | .raw (.slice none 0 0) => true | _ => false
    | .agg _ => false
    | .sl sz n cs => match v with
      | .emp => Nat.beq n 0
      | .sl x sz' off n' cap => match Nat.beq sz sz' && Nat.beq n n' && Nat.beq cs.length (n * sz), h.get x with
        | true, some (.cells us) => match Nat.ble (off + n * sz) us.length with
          | true => eqNs d h cs (cut us off (n * sz))
          | false => false
        | _, _ => false
      | _ => false
def eqNs : Nat → Heap → List D → List V → Bool
  | _, _, [], [] => true
  | d, h, c :: r, v :: s => match eqN d h c v with | true => eqNs d h r s | false => false
  | _, _, _, _ => false
end

theorem eqNs_get {d : Nat} {h : Heap} : ∀ {cs : List D} {vs : List V}, eqNs d h cs vs = true → cs.length = vs.length ∧ ∀ (i : Nat) (c : D) (v : V), cs[i]? = some c → vs[i]? = some v → eqN d h c v = true
  | [], [], _ => ⟨rfl, fun i c v h => by cases h⟩
  | c :: r, v :: s, hq => by
    unfold eqNs at hq
    split at hq
    · rename_i h1
      obtain ⟨h2, h3⟩ := eqNs_get hq
      refine ⟨by simp [h2], fun i c' v' g1 g2 => ?_⟩
      cases i with
      | zero => simp at g1 g2; subst g1; subst g2; exact h1
      | succ i => exact h3 i c' v' (by simpa using g1) (by simpa using g2)
    · cases hq
  | [], _ :: _, hq => by unfold eqNs at hq; cases hq
  | _ :: _, [], hq => by unfold eqNs at hq; cases hq

theorem eqN_rep (R : HeapAt B G fr φ h w) {m : Nat} (hnew : ∀ x b, φ x = some (some b) → m ≤ b) {X' : Nat → Prop} {φ' : Loc} (hX : ∀ b, X' b → b < m) : ∀ {d : Nat} {c : D} {v : V} {u : Value}, eqN d h c v = true → Rep w (Excl B φ) φ v u → Rep w X' φ' (D.cell d c) u := by
  intro d
  induction d with
  | zero => intro c v u hq _; unfold eqN at hq; cases hq
  | succ d ih =>
    intro c v u hq hr
    unfold eqN at hq
    cases c with
    | num k n =>
      dsimp only at hq
      split at hq
      · rename_i k' n'
        rw [Bool.and_eq_true, decide_eq_true_iff] at hq
        obtain ⟨rfl, h2⟩ := hq
        obtain rfl := eqI_iff.1 h2
        rw [rep_i hr]; exact mk_i
      · cases hq
    | bool b =>
      dsimp only at hq
      split at hq
      · rename_i b'
        rw [eqB_eq, beq_iff_eq] at hq
        subst hq
        rw [rep_b hr]; exact mk_b
      · cases hq
    | str l =>
      dsimp only at hq
      split at hq
      · rename_i l'
        obtain rfl := eqL_iff.1 hq
        obtain ⟨t, rfl, ht⟩ := rep_str hr
        exact .str _ t ht
      · cases hq
    | nils =>
      dsimp only at hq
      split at hq
      · obtain ⟨rfl, h2⟩ := rep_raw hr
        exact .raw _ h2
      · cases hq
    | agg cs => dsimp only at hq; cases hq
    | sl sz n cs =>
      dsimp only at hq
      split at hq
      · obtain rfl := Nat.eq_of_beq_eq_true hq
        obtain ⟨ad, rfl⟩ := rep_emp hr
        exact .froZero _ _ _ _
      · rename_i x sz' off n' cap
        split at hq
        · rename_i us h1 h2
          split at hq
          · rename_i hle
            have hle := Nat.le_of_ble_eq_true hle
            simp only [Bool.and_eq_true] at h1
            obtain ⟨⟨e1, e2⟩, e3⟩ := h1
            have e1 := Nat.eq_of_beq_eq_true e1
            have e2 := Nat.eq_of_beq_eq_true e2
            have e3 := Nat.eq_of_beq_eq_true e3
            subst e1; subst e2
            obtain ⟨b, hb, vs, t', z, hh, hz, hlen, hv⟩ := R.st x _ h2
            obtain ⟨ad, c', rfl, hs, _, had⟩ := rep_sl hr
            obtain ⟨had, hnc, _⟩ := had b hb
            rcases Nat.eq_zero_or_pos n with hn | hn
            · subst hn
              exact .froZero _ _ _ _
            · obtain rfl := had (by omega)
              obtain ⟨hl2, hg⟩ := eqNs_get hq
              have hk : ∀ {j c : Nat}, j < n → c < sz → j * sz + c < n * sz := fun {j c} h1 h2 => by
                have : (j + 1) * sz ≤ n * sz := Nat.mul_le_mul_right _ h1
                rw [Nat.add_mul] at this; omega
              have key : ∀ k, k < n * sz → w.cell? ⟨b, off + k, none⟩ = some (vs.getD (off + k) undef) ∧ (vs.getD (off + k) undef).oneCell' = true ∧ ∀ v, (cut us off (n * sz))[k]? = some v → Rep w (Excl B φ) φ v (vs.getD (off + k) undef) := fun k hk => by
                have hlt : off + k < vs.size := by omega
                have e5 : vs[off + k]? = some vs[off + k] := by simp [hlt]
                have e4 : vs.getD (off + k) undef = vs[off + k] := by simp [Array.getD, hlt]
                have hu : off + k < us.length := by omega
                have e6 : us[off + k]? = some us[off + k] := List.getElem?_eq_getElem hu
                rw [e4]
                refine ⟨by rw [cell_of_heap hh]; exact e5, (hv _ _ _ e6 e5).2, fun v hv' => ?_⟩
                obtain ⟨_, h8⟩ := cut_get hv'
                exact (hv _ _ _ h8 e5).1
              refine .fro sz n _ ⟨b, off, none⟩ c' (fun j c => vs.getD (off + (j * sz + c)) undef) rfl (fun h => by have := hX _ h; have := hnew x b hb; dsimp only at *; omega) (heap_lt hh) hnc (fun j c h1 h2 => (key _ (hk h1 h2)).1) (fun j c h1 h2 => (key _ (hk h1 h2)).2.1) (fun j c h1 h2 => ?_) fun j c h1 h2 => ?_
              · have hlt := hk h1 h2
                have e1 : cs[j * sz + c]? = some cs[j * sz + c] := List.getElem?_eq_getElem (by omega)
                have e2 : (cut us off (n * sz))[j * sz + c]? = some (cut us off (n * sz))[j * sz + c] := List.getElem?_eq_getElem (by omega)
                simp only [e1]
                exact ih (hg _ _ _ e1 e2) ((key _ hlt).2.2 _ e2)
              · split
                · exact cell_nl _ _
                · rfl
          · cases hq
        · cases hq
      · cases hq

def eqO (d : Nat) (h : Heap) : D → V → Bool
  | .agg cs, .agg vs => eqNs d h cs vs
  | .agg _, _ => false
  | c, v => eqN d h c v

theorem eqO_rep (R : HeapAt B G fr φ h w) {m : Nat} (hnew : ∀ x b, φ x = some (some b) → m ≤ b) {X' : Nat → Prop} {φ' : Loc} (hX : ∀ b, X' b → b < m) {d : Nat} {c : D} {v : V} {u : Value} (hq : eqO d h c v = true) (hr : Rep w (Excl B φ) φ v u) : Rep w X' φ' (D.val d c) u := by
  cases c with
  | agg cs =>
    unfold eqO at hq
    cases v with
    | agg vs =>
      dsimp only at hq
      obtain ⟨us, rfl, hl, hg⟩ := rep_agg hr
      obtain ⟨h1, h2⟩ := eqNs_get hq
      refine .agg _ us (by simp [h1, hl]) fun i c u g1 g2 => ?_
      rw [List.getElem?_map] at g1
      obtain ⟨c', hc, rfl⟩ := Option.map_eq_some_iff.1 g1
      have hlt : i < vs.length := by rw [← h1]; exact (List.getElem?_eq_some_iff.1 hc).1
      have e2 : vs[i]? = some vs[i] := List.getElem?_eq_getElem hlt
      exact eqN_rep R hnew hX (h2 i _ _ hc e2) (hg i _ _ e2 g2)
    | _ => cases hq
  | num _ _ => exact eqN_rep R hnew hX hq hr
  | bool _ => exact eqN_rep R hnew hX hq hr
  | str _ => exact eqN_rep R hnew hX hq hr
  | nils => exact eqN_rep R hnew hX hq hr
  | sl _ _ _ => exact eqN_rep R hnew hX hq hr

def eqOs (d : Nat) (h : Heap) : List D → List V → Bool
  | [], [] => true
  | c :: r, v :: s => match eqO d h c v with | true => eqOs d h r s | false => false
  | _, _ => false

theorem eqOs_get {d : Nat} {h : Heap} : ∀ {cs : List D} {vs : List V}, eqOs d h cs vs = true → cs.length = vs.length ∧ ∀ (i : Nat) (c : D) (v : V), cs[i]? = some c → vs[i]? = some v → eqO d h c v = true
  | [], [], _ => ⟨rfl, fun i c v h => by cases h⟩
  | c :: r, v :: s, hq => by
    unfold eqOs at hq
    split at hq
    · rename_i h1
      obtain ⟨h2, h3⟩ := eqOs_get hq
      refine ⟨by simp [h2], fun i c' v' g1 g2 => ?_⟩
      cases i with
      | zero => simp at g1 g2; subst g1; subst g2; exact h1
      | succ i => exact h3 i c' v' (by simpa using g1) (by simpa using g2)
    · cases hq
  | [], _ :: _, hq => by unfold eqOs at hq; cases hq
  | _ :: _, [], hq => by unfold eqOs at hq; cases hq

/-- a function's answer: one, or more -/
inductive Ans where
  | one (c : D)
  | many (cs : List D)

def deepD : Nat := 6

def Ans.toV : Ans → V
  | .one c => D.val deepD c
  | .many cs => .tup (cs.map (D.val deepD))
def eqAns (h : Heap) : Ans → V → Bool
  | .one c, v => eqO deepD h c v
  | .many cs, .tup vs => eqOs deepD h cs vs
  | .many _, _ => false

theorem eqAns_rep (R : HeapAt B G fr φ h w) {m : Nat} (hnew : ∀ x b, φ x = some (some b) → m ≤ b) {X' : Nat → Prop} {φ' : Loc} (hX : ∀ b, X' b → b < m) {c : Ans} {v : V} {u : Value} (hq : eqAns h c v = true) (hr : Rep w (Excl B φ) φ v u) : Rep w X' φ' c.toV u := by
  cases c with
  | one c => exact eqO_rep R hnew hX hq hr
  | many cs =>
    cases v with
    | tup vs =>
      obtain ⟨us, rfl, hl, hg⟩ := rep_tup hr
      obtain ⟨h1, h2⟩ := eqOs_get hq
      refine .tup _ us (by simp [h1, hl]) fun i c u g1 g2 => ?_
      rw [List.getElem?_map] at g1
      obtain ⟨c', hc, rfl⟩ := Option.map_eq_some_iff.1 g1
      have hlt : i < vs.length := by rw [← h1]; exact (List.getElem?_eq_some_iff.1 hc).1
      have e2 : vs[i]? = some vs[i] := List.getElem?_eq_getElem hlt
      exact eqO_rep R hnew hX (h2 i _ _ hc e2) (hg i _ _ e2 g2)
    | _ => cases hq

/-- a call that was told: the function, its arguments, its answer -/
structure Memo where
  f : Nat
  args : List D
  ans : Ans

def MemoOk (P : Program) (G : Nat → Nat → Value → Prop) (m : Memo) : Prop :=
  (∃ fn, P.funcs[m.f]? = some fn ∧ (fn.name == "runtime.NumGoroutine") = false ∧ fn.body.isNone = false) ∧
  ∀ (w : World) (vals : List Value), GAt G w → m.args.length = vals.length → (∀ (i : Nat) (c : D) (v : Value), m.args[i]? = some c → vals[i]? = some v → Rep w (fun _ => False) (Gone 0) (D.val deepD c) v) →
    Calls P m.f vals.toArray w fun e w' => ∃ u, e = .returned u ∧ Below w.heap.size w w' ∧ ∀ (X : Nat → Prop) (φ : Loc), (∀ b, X b → b < w.heap.size) → Rep w' X φ m.ans.toV u

def lookMemo (ms : List Memo) (g : Nat) (h : Heap) (args : List V) : Option V := match ms with
  | [] => none
  | m :: r => match Nat.beq m.f g with
    | true => match eqTs deepD h m.args args with
      | true => some m.ans.toV
      | false => lookMemo r g h args
    | false => lookMemo r g h args

theorem lookMemo_spec : ∀ {ms : List Memo} {g : Nat} {h : Heap} {args : List V} {v : V}, lookMemo ms g h args = some v → ∃ m ∈ ms, m.f = g ∧ eqTs deepD h m.args args = true ∧ m.ans.toV = v
  | [], g, h, args, v, hq => by cases hq
  | m :: r, g, h, args, v, hq => by
    unfold lookMemo at hq
    split at hq
    · rename_i h1
      split at hq
      · rename_i h2
        injection hq with hq
        exact ⟨m, by simp, Nat.eq_of_beq_eq_true h1, h2, hq⟩
      · obtain ⟨m', h3, h4⟩ := lookMemo_spec hq; exact ⟨m', by simp [h3], h4⟩
    · obtain ⟨m', h3, h4⟩ := lookMemo_spec hq; exact ⟨m', by simp [h3], h4⟩

/-- What is known of functions: texts are searched (k1, k2), and calls that were told. -/
def prims (k1 k2 : Nat) (ms : List Memo) : Prims := fun g h args => match Nat.beq k1 g with
  | true => strI args
  | false => match Nat.beq k2 g with
    | true => strC args
    | false => lookMemo ms g h args

theorem prims_ok {k1 k2 g0 : Nat} {n : Int} {ms : List Memo} (S : StrFns P k1 k2 g0) (hg : G g0 0 (.int .i64 n)) (hm : ∀ m ∈ ms, MemoOk P G m) : PrimOk P G (prims k1 k2 ms) := by
  intro g h args v hv
  unfold prims at hv
  split at hv
  · rename_i h1
    have h1 := Nat.eq_of_beq_eq_true h1
    subst h1
    refine ⟨S.e1, fun B fr φ w vals H hlen hargs => ?_⟩
    unfold strI at hv
    split at hv
    · rename_i s b
      split at hv
      · rename_i hb
        have hb : b < 256 := Nat.le_of_ble_eq_true hb
        injection hv with hv
        subst hv
        match vals, hlen with
        | [x, y], _ =>
          obtain ⟨t, rfl, ht⟩ := rep_str (hargs 0 _ _ rfl rfl)
          obtain rfl := rep_i (hargs 1 _ _ rfl rfl)
          refine (S.ib t _ w).mono ?_
          rintro e w' ⟨rfl, rfl⟩
          refine ⟨_, rfl, Below.refl _ _, ?_⟩
          have e2 : (Int.ofNat b).toNat.toUInt8.toNat = b := by
            show (UInt8.ofNat b).toNat = b
            rw [UInt8.toNat_ofNat']
            omega
          have := findB_eq (Int.ofNat b).toNat.toUInt8 t.data.toList 0
          rw [e2, ht] at this
          rw [this]
          have e3 : offI 0 (Lib.indexByte t.data.toList (Int.ofNat b).toNat.toUInt8) = Lib.indexByte t.data.toList (Int.ofNat b).toNat.toUInt8 := by
            unfold offI
            split
            · rename_i h; exact h.symm
            · simp
          rw [e3]
          exact mk_i
      · cases hv
    · cases hv
  · split at hv
    · rename_i h1
      have h1 := Nat.eq_of_beq_eq_true h1
      subst h1
      refine ⟨S.e2, fun B fr φ w vals H hlen hargs => ?_⟩
      unfold strC at hv
      split at hv
      · rename_i s t
        split at hv
        · rename_i hb
          have hb : s.length < 4294967281 := Nat.le_of_ble_eq_true hb
          injection hv with hv
          subst hv
          match vals, hlen with
          | [x, y], _ =>
            obtain ⟨s', rfl, hs⟩ := rep_str (hargs 0 _ _ rfl rfl)
            obtain ⟨t', rfl, ht⟩ := rep_str (hargs 1 _ _ rfl rfl)
            refine (S.ct s' t' n w ?_ (H.gl g0 0 _ hg).2).mono ?_
            · rw [← hs] at hb
              simpa using hb
            rintro e w' ⟨rfl, rfl⟩
            refine ⟨_, rfl, Below.refl _ _, ?_⟩
            rw [← hs, ← ht, hasSub_eq]
            exact mk_b
        · cases hv
      · cases hv
    · obtain ⟨m, hmem, rfl, hq, rfl⟩ := lookMemo_spec hv
      obtain ⟨h1, h2⟩ := hm m hmem
      obtain ⟨h3, h4⟩ := eqTs_get hq
      refine ⟨h1, fun B fr φ w vals H hlen hargs => (h2 w vals (fun b o v hb => ⟨(H.gl b o v hb).1.1, (H.gl b o v hb).2⟩) (h3.trans hlen) fun i c v g1 g2 => ?_).mono fun e w' ⟨u, a, b, c⟩ => ⟨u, a, b, c _ _ fun b hb => ?_⟩⟩
      have hlt : i < args.length := by rw [← h3]; exact (List.getElem?_eq_some_iff.1 g1).1
      have e2 : args[i]? = some args[i] := List.getElem?_eq_getElem hlt
      exact eqT_rep H (h4 i _ _ g1 e2) (hargs i _ _ e2 g2)
      rcases hb with hb | ⟨x, hb⟩
      · exact H.ltB b hb
      · exact (H.lt x b hb).1

theorem memos_nil : ∀ m ∈ ([] : List Memo), MemoOk P G m := fun m h => by cases h
theorem memos_cons {m : Memo} {ms : List Memo} (h : MemoOk P G m) (hs : ∀ m ∈ ms, MemoOk P G m) : ∀ x ∈ m :: ms, MemoOk P G x := fun x hx => by
  rcases List.mem_cons.1 hx with rfl | hx
  · exact h
  · exact hs x hx

/-- A call is told, by what it comes to. -/
theorem memo_of {prim : Prims} (hp : PrimOk P G prim) {m : Memo} (n : Nat) (hq : startH P prim n m.f (m.args.map (D.val deepD)) 0 (fun v h => eqAns h m.ans v) = true) : MemoOk P G m := by
  refine ⟨(enter_ok (code_ok hp n).1 hq).1, fun w vals hG hlen hargs => (start_okH hp hq w hG vals (by simpa using hlen) fun i c v g1 g2 => ?_).mono ?_⟩
  · rw [List.getElem?_map] at g1
    obtain ⟨c', hc, rfl⟩ := Option.map_eq_some_iff.1 g1
    exact hargs i c' v hc g2
  · rintro e w' ⟨v, c, φ, h, fr, rfl, hc, hB, H, hnew, hr⟩
    exact ⟨v, rfl, hB, fun X φ hX => eqAns_rep H hnew hX hc hr⟩

end
end Go.VM
