/- Texts of a proof, joined. -/
import Derived.Calls
import Derived.Orders
import Derived.OrdersHeld
import Derived.Below
import Derived.Laws.Cells
import Derived.Laws.Append
import Derived.KernelRfl
import Derived.Laws.StructEq
import Derived.Laws.Tables
import Derived.Laws.MakeOwn
import Derived.Laws.IdiomCopy
import Derived.Deep.Upon
import Derived.Laws.AppendOwn
set_option linter.unusedVariables false
set_option linter.unusedSectionVars false
set_option linter.unusedSimpArgs false
set_option linter.constructorNameAsVariable false
section
/- The machine VM, part 1: values, stores, and what they stand for. Plain definitions and theorems over any program. -/
set_option linter.unusedVariables false
set_option linter.unusedSectionVars false
set_option linter.unusedSimpArgs false
namespace Go.VM
open Go.RowKit

/-! ### tables by numbers -/

inductive T (α : Type) where
  | e
  | n (l : T α) (v : Option α) (r : T α)

def T.get {α : Type} : T α → Nat → Option α
  | .e, _ => none
  | .n l v r, k => match k with
    | 0 => v
    | k + 1 => match Nat.mod k 2 with
      | 0 => l.get (Nat.div k 2)
      | _ + 1 => r.get (Nat.div k 2)

/-- a place is written; told by what is done with the table -/
def T.putK {α : Type} (v : Option α) : Nat → T α → Nat → (T α → Bool) → Bool
  | 0, _, _, _ => false
  | d + 1, t, k, q => match t with
    | .e => match k with
      | 0 => q (.n .e v .e)
      | k + 1 => match Nat.mod k 2 with
        | 0 => putK v d .e (Nat.div k 2) fun l => q (.n l none .e)
        | _ + 1 => putK v d .e (Nat.div k 2) fun r => q (.n .e none r)
    | .n l u r => match k with
      | 0 => q (.n l v r)
      | k + 1 => match Nat.mod k 2 with
        | 0 => putK v d l (Nat.div k 2) fun l => q (.n l u r)
        | _ + 1 => putK v d r (Nat.div k 2) fun r => q (.n l u r)

/-- t' is t, but for the place k -/
def Put {α : Type} (t : T α) (k : Nat) (v : Option α) (t' : T α) : Prop := ∀ i, t'.get i = if i = k then v else t.get i

theorem T.get_e {α : Type} (k : Nat) : (T.e : T α).get k = none := rfl

theorem half {i k : Nat} (h1 : i % 2 = k % 2) : (i / 2 = k / 2) ↔ i = k := by omega

theorem get_n {α : Type} (l : T α) (v : Option α) (r : T α) (k : Nat) : (T.n l v r).get k = if k = 0 then v else if (k - 1) % 2 = 0 then l.get ((k - 1) / 2) else r.get ((k - 1) / 2) := by
  cases k with
  | zero => rfl
  | succ k =>
    simp only [T.get, Nat.add_sub_cancel, Nat.succ_ne_zero, if_false, Nat.add_one_ne_zero]
    show (match k % 2 with | 0 => l.get (k / 2) | _ + 1 => r.get (k / 2)) = _
    rcases Nat.mod_two_eq_zero_or_one k with h | h <;> rw [h] <;> rfl

theorem T.putK_spec {α : Type} {v : Option α} : ∀ {d : Nat} {t : T α} {k : Nat} {q : T α → Bool}, T.putK v d t k q = true → ∃ t', Put t k v t' ∧ q t' = true := by
  have left : ∀ {l l' r : T α} {u : Option α} {k : Nat}, Nat.mod k 2 = 0 → Put l (Nat.div k 2) v l' → Put (.n l u r) (k + 1) v (.n l' u r) := by
    intro l l' r u k hk h i
    have hk' : k % 2 = 0 := hk
    rw [get_n, get_n]
    rcases Nat.eq_zero_or_pos i with rfl | hi
    · rw [if_pos rfl, if_neg (by omega), if_pos rfl]
    · rw [if_neg (by omega), if_neg (by omega : ¬ i = 0)]
      by_cases hp : (i - 1) % 2 = 0
      · rw [if_pos hp, if_pos hp, h]
        have := half (i := i - 1) (k := k) (by omega)
        by_cases he : i = k + 1
        · subst he; rw [if_pos rfl, if_pos]; exact this.2 (by omega)
        · rw [if_neg he, if_neg]; intro hh; exact he (by have := this.1 hh; omega)
      · rw [if_neg hp, if_neg hp, if_neg (by omega)]
  have right : ∀ {l r' r : T α} {u : Option α} {k m : Nat}, Nat.mod k 2 = m + 1 → Put r (Nat.div k 2) v r' → Put (.n l u r) (k + 1) v (.n l u r') := by
    intro l r' r u k m hk h i
    have hk' : k % 2 = m + 1 := hk
    rw [get_n, get_n]
    rcases Nat.eq_zero_or_pos i with rfl | hi
    · rw [if_pos rfl, if_neg (by omega), if_pos rfl]
    · rw [if_neg (by omega), if_neg (by omega : ¬ i = 0)]
      by_cases hp : (i - 1) % 2 = 0
      · rw [if_pos hp, if_pos hp, if_neg (by omega)]
      · rw [if_neg hp, if_neg hp, h]
        have := half (i := i - 1) (k := k) (by omega)
        by_cases he : i = k + 1
        · subst he; rw [if_pos rfl, if_pos]; exact this.2 (by omega)
        · rw [if_neg he, if_neg]; intro hh; exact he (by have := this.1 hh; omega)
  have empty : ∀ {k : Nat} {t : T α}, Put (.n .e none .e) k v t → Put .e k v t := fun {k t} h i => by
    rw [h i]
    by_cases hi : i = k
    · rw [if_pos hi, if_pos hi]
    · rw [if_neg hi, if_neg hi]
      rw [get_n]
      simp [T.get_e]
  have zero : ∀ {l r : T α} {u : Option α}, Put (.n l u r) 0 v (.n l v r) := fun i => by
    rw [get_n, get_n]
    by_cases hi : i = 0
    · simp [hi]
    · simp [hi]
  intro d
  induction d with
  | zero => intro t k q h; cases h
  | succ d ih =>
    intro t k q h
    cases t with
    | e =>
      cases k with
      | zero => exact ⟨_, empty zero, h⟩
      | succ k =>
        simp only [T.putK] at h
        split at h
        · rename_i hk
          obtain ⟨l, h1, h2⟩ := ih h
          exact ⟨_, empty (left hk h1), h2⟩
        · rename_i hk
          obtain ⟨r, h1, h2⟩ := ih h
          exact ⟨_, empty (right hk h1), h2⟩
    | n l u r =>
      cases k with
      | zero => exact ⟨_, zero, h⟩
      | succ k =>
        simp only [T.putK] at h
        split at h
        · rename_i hk
          obtain ⟨l, h1, h2⟩ := ih h
          exact ⟨_, left hk h1, h2⟩
        · rename_i hk
          obtain ⟨r, h1, h2⟩ := ih h
          exact ⟨_, right hk h1, h2⟩

/-! ### values -/

inductive V where
  /-- whatever it is -/
  | any
  /-- one cell, whatever it holds -/
  | opq
  /-- the value number i, of one cell -/
  | con (i : Nat)
  /-- one cell's value that names no memory -/
  | raw (v : Value)
  | str (bs : List Nat)
  | agg (cs : List V)
  | tup (vs : List V)
  /-- a slice of the block named x: sz cells an element, from cell off on; its room (none: to the block's end) -/
  | sl (x sz off len : Nat) (cap : Option Nat)
  /-- a slice that is not nil, without elements and without room -/
  | emp
  /-- the address of a cell of the block named x -/
  | ptr (x off : Nat)
  | mp (x : Nat)
  | fn (f : Fn) (first cap : List V)
  /-- a slice in memory that nobody writes any more; the address of k cells there -/
  | fro (sz n : Nat) (g : Nat → Nat → V)
  | fpt (k : Nat) (g : Nat → V)
  deriving Inhabited

/-- names nothing -/
def V.nl : Nat → V → Bool
  | 0, _ => false
  | d + 1, c => match c with
    | .agg cs => cs.all (V.nl d)
    | .tup cs => cs.all (V.nl d)
    | .fn _ a b => a.all (V.nl d) && b.all (V.nl d)
    | .sl _ _ _ _ _ => false
    | .ptr _ _ => false
    | .mp _ => false
    | _ => true

/-- What a name stands for: nothing as yet; nothing any more; a block. -/
abbrev Loc := Nat → Option (Option Nat)

/-- a slice's room -/
def Room (w : World) (b sz off len : Nat) (cap : Option Nat) (c : Nat) : Prop :=
  len ≤ c ∧ ∃ vs e z, w.heap[b]? = some (.cells vs e z) ∧ off + c * sz ≤ vs.size ∧ match cap with | some k => c = k | none => off + c * sz = vs.size

/-- values that are not looked into, by numbers -/
class Val where
  ρ : Nat → Value
variable [Val]

/-- What a value stands for. X: blocks that memory that nobody writes lies outside of. -/
inductive Rep (w : World) (X : Nat → Prop) (φ : Loc) : V → Value → Prop
  | any (v : Value) : Rep w X φ .any v
  | opq (v : Value) (h : v.oneCell' = true) : Rep w X φ .opq v
  | con (i : Nat) (v : Value) (he : v = Val.ρ i) (h : v.oneCell' = true) : Rep w X φ (.con i) v
  | raw (v : Value) (h : v.oneCell' = true) : Rep w X φ (.raw v) v
  | str (bs : List Nat) (t : ByteArray) (h : t.data.toList.map UInt8.toNat = bs) : Rep w X φ (.str bs) (.string t)
  | agg (cs : List V) (vs : List Value) (hl : cs.length = vs.length) (h : ∀ (i : Nat) (c : V) (v : Value), cs[i]? = some c → vs[i]? = some v → Rep w X φ c v) : Rep w X φ (.agg cs) (.agg vs.toArray)
  | tup (cs : List V) (vs : List Value) (hl : cs.length = vs.length) (h : ∀ (i : Nat) (c : V) (v : Value), cs[i]? = some c → vs[i]? = some v → Rep w X φ c v) : Rep w X φ (.tup cs) (.tuple vs.toArray)
  | sl (x sz off len : Nat) (cap : Option Nat) (ad : Addr) (c : Nat) (hs : ad.spot = none) (hd : φ x ≠ none) (h : ∀ b, φ x = some (some b) → (0 < c → ad = ⟨b, off, none⟩) ∧ Room w b sz off len cap c) : Rep w X φ (.sl x sz off len cap) (.slice (some ad) len c)
  | emp (ad : Addr) : Rep w X φ .emp (.slice (some ad) 0 0)
  | ptr (x off : Nat) (ad : Addr) (hs : ad.spot = none) (hd : φ x ≠ none) (h : ∀ b, φ x = some (some b) → ad = ⟨b, off, none⟩) : Rep w X φ (.ptr x off) (.pointer (some ad))
  | mp (x r : Nat) (hd : φ x ≠ none) (h : ∀ b, φ x = some (some b) → r = b) : Rep w X φ (.mp x) (.map (some r))
  | fn (f : Fn) (first cap : List V) (vs us : List Value) (hl : first.length = vs.length) (hl' : cap.length = us.length) (h : ∀ (i : Nat) (c : V) (v : Value), first[i]? = some c → vs[i]? = some v → Rep w X φ c v)
      (h' : ∀ (i : Nat) (c : V) (v : Value), cap[i]? = some c → us[i]? = some v → Rep w X φ c v) : Rep w X φ (.fn f first cap) (.func f vs.toArray us.toArray)
  | fro (sz n : Nat) (g : Nat → Nat → V) (ad : Addr) (cap : Nat) (val : Nat → Nat → Value) (hs : ad.spot = none) (hx : ¬ X ad.block) (hlt : ad.block < w.heap.size) (hc : n ≤ cap)
      (hr : ∀ j c, j < n → c < sz → w.cell? ⟨ad.block, ad.off + (j * sz + c), none⟩ = some (val j c)) (h1 : ∀ j c, j < n → c < sz → (val j c).oneCell' = true) (h : ∀ j c, j < n → c < sz → Rep w X φ (g j c) (val j c))
      (hn : ∀ j c, j < n → c < sz → (g j c).nl 4 = true) : Rep w X φ (.fro sz n g) (.slice (some ad) n cap)
  | froNil (sz : Nat) (g : Nat → Nat → V) : Rep w X φ (.fro sz 0 g) (.slice none 0 0)
  | froZero (sz : Nat) (g : Nat → Nat → V) (ad : Addr) (cap : Nat) : Rep w X φ (.fro sz 0 g) (.slice (some ad) 0 cap)
  | fpt (k : Nat) (g : Nat → V) (ad : Addr) (val : Nat → Value) (hs : ad.spot = none) (hx : ¬ X ad.block) (hlt : ad.block < w.heap.size)
      (hr : ∀ c, c < k → w.cell? ⟨ad.block, ad.off + c, none⟩ = some (val c)) (h : ∀ c, c < k → Rep w X φ (g c) (val c)) (hn : ∀ c, c < k → (g c).nl 4 = true) : Rep w X φ (.fpt k g) (.pointer (some ad))

/-- Blocks of the call's own. A map: keys, what they hold, when they came; its clock. An iterator: of which map, since when, what it has seen, its last step. -/
inductive Blk where
  | cells (cs : List V)
  | map (es : List (V × V × Nat)) (clock : Nat)
  | it (m : Option Nat) (since : Nat) (seen : List Nat) (last : Nat)
  deriving Inhabited

structure MapAt (w : World) (X : Nat → Prop) (φ : Loc) (es : List (V × V × Nat)) (mes : Array MapEntry) : Prop where
  len : es.length = mes.size
  rep : ∀ (i : Nat) (k v : V) (n : Nat) (e : MapEntry), es[i]? = some (k, v, n) → mes[i]? = some e → Rep w X φ k e.key ∧ Rep w X φ v e.val ∧ e.born = n

def BlkAt (w : World) (X : Nat → Prop) (φ : Loc) (b : Nat) : Blk → Prop
  | .cells cs => ∃ vs e z, w.heap[b]? = some (.cells vs e z) ∧ (∀ i, i < vs.size → ¬ (z.1 ≤ i ∧ i < z.2)) ∧ cs.length ≤ vs.size ∧ ∀ (i : Nat) (c : V) (v : Value), cs[i]? = some c → vs[i]? = some v → Rep w X φ c v ∧ v.oneCell' = true
  | .map es clock => ∃ mes, w.heap[b]? = some (.map mes clock) ∧ MapAt w X φ es mes
  | .it m since seen last => ∃ r, w.heap[b]? = some (.mapIter r since seen.toArray last) ∧ match m with | none => r = none | some x => φ x ≠ none ∧ ∃ d, r = some d ∧ ∀ b, φ x = some (some b) → d = b

abbrev Heap := T Blk

/-- States: slots, blocks, the least name that is free, and blocks that must not be written. -/
structure S where
  env : T V
  h : Heap
  nx : Nat
  pr : List Nat

/-- The blocks that frozen memory keeps clear of. -/
def Excl (B : Nat → Prop) (φ : Loc) : Nat → Prop := fun b => B b ∨ ∃ x, φ x = some (some b)

/-- What a state says of blocks. B: blocks that belong to others; G: what some of them hold; fr: names that are free. -/
structure HeapAt (B : Nat → Prop) (G : Nat → Nat → Value → Prop) (fr : Nat → Prop) (φ : Loc) (h : Heap) (w : World) : Prop where
  st : ∀ x k, h.get x = some k → ∃ b, φ x = some (some b) ∧ BlkAt w (Excl B φ) φ b k
  inj : ∀ x y b, φ x = some (some b) → φ y = some (some b) → x = y
  lt : ∀ x b, φ x = some (some b) → b < w.heap.size ∧ ¬ B b
  ltB : ∀ b, B b → b < w.heap.size
  free : ∀ x, fr x → φ x = none
  gl : ∀ b o v, G b o v → (b < w.heap.size ∧ ∀ x, φ x ≠ some (some b)) ∧ w.cell? ⟨b, o, none⟩ = some v

/-- ... and of a frame's slots. N: how many slots. -/
structure RelAt (N : Nat) (B : Nat → Prop) (G : Nat → Nat → Value → Prop) (fr : Nat → Prop) (φ : Loc) (s : S) (a : Act) (w : World) : Prop extends HeapAt B G fr φ s.h w where
  size : a.tmps.size = N
  defers : a.defers = []
  env : ∀ t c, s.env.get t = some c → t < N ∧ Rep w (Excl B φ) φ c (a.tmps.getD t undef)

/-- From one world to a later one: what is named, and not kept (pr), may be written; all else stays. -/
structure Fwd (pr : List Nat) (φ : Loc) (w : World) (φ' : Loc) (w' : World) : Prop where
  os : w'.os = w.os
  tape : w'.tape = w.tape
  output : w'.output = w.output
  size : w.heap.size ≤ w'.heap.size
  block : ∀ b, b < w.heap.size → (∀ x, φ x = some (some b) → x ∈ pr) → w'.heap[b]? = w.heap[b]?
  new : ∀ x b, φ' x = some (some b) → (∃ y, φ y = some (some b) ∧ (y = x ∨ y ∉ pr)) ∨ w.heap.size ≤ b
  old : ∀ x v, φ x = some v → φ' x = some v ∨ (φ' x = some none ∧ x ∉ pr)
  keep : ∀ (b : Nat) (cs : Array Value) (e : TypeId) (z : Nat × Nat), w.heap[b]? = some (.cells cs e z) → ∃ cs' e' z', w'.heap[b]? = some (.cells cs' e' z') ∧ cs'.size = cs.size

theorem keep_of {w w' : World} (hb : ∀ b, b < w.heap.size → w'.heap[b]? = w.heap[b]?) (b : Nat) (cs : Array Value) (e : TypeId) (z : Nat × Nat) (h : w.heap[b]? = some (.cells cs e z)) : ∃ cs' e' z', w'.heap[b]? = some (.cells cs' e' z') ∧ cs'.size = cs.size := by
  refine ⟨cs, e, z, (hb b ?_).trans h, rfl⟩
  rcases Nat.lt_or_ge b w.heap.size with h1 | h1
  · exact h1
  · rw [Array.getElem?_eq_none h1] at h; cases h

theorem heap_lt {w : World} {b : Nat} {o : Obj} (h : w.heap[b]? = some o) : b < w.heap.size := by
  rcases Nat.lt_or_ge b w.heap.size with h1 | h1
  · exact h1
  · rw [Array.getElem?_eq_none h1] at h; cases h

theorem Fwd.refl (pr : List Nat) (φ : Loc) (w : World) : Fwd pr φ w φ w :=
  ⟨rfl, rfl, rfl, Nat.le_refl _, fun _ _ _ => rfl, fun x b h => .inl ⟨x, h, .inl rfl⟩, fun _ _ h => .inl h, keep_of fun _ _ => rfl⟩

theorem Fwd.mono {pr pr' : List Nat} {φ φ' : Loc} {w w' : World} (h : Fwd pr φ w φ' w') (hp : ∀ x ∈ pr', x ∈ pr) : Fwd pr' φ w φ' w' :=
  ⟨h.os, h.tape, h.output, h.size, fun b hb hn => h.block b hb fun x hx => hp x (hn x hx), fun x b hx => (h.new x b hx).imp_left fun ⟨y, h1, h2⟩ => ⟨y, h1, h2.imp_right fun h h' => h (hp y h')⟩,
    fun x v hx => (h.old x v hx).imp_right fun h => ⟨h.1, fun h' => h.2 (hp x h')⟩, h.keep⟩

theorem Fwd.trans {pr : List Nat} {φ φ₁ φ₂ : Loc} {w w₁ w₂ : World} (h : Fwd pr φ w φ₁ w₁) (k : Fwd pr φ₁ w₁ φ₂ w₂) : Fwd pr φ w φ₂ w₂ where
  os := k.os.trans h.os
  tape := k.tape.trans h.tape
  output := k.output.trans h.output
  size := Nat.le_trans h.size k.size
  block := fun b hb hn => (k.block b (Nat.lt_of_lt_of_le hb h.size) fun x hx => by
    rcases h.new x b hx with ⟨y, hy, rfl | hy'⟩ | hge
    · exact hn _ hy
    · exact absurd (hn y hy) hy'
    · omega).trans (h.block b hb hn)
  new := fun x b hx => by
    rcases k.new x b hx with ⟨y, hy, hyx⟩ | hge
    · rcases h.new y b hy with ⟨z, hz, hzy⟩ | hge
      · refine .inl ⟨z, hz, ?_⟩
        rcases hzy with rfl | hzy
        · exact hyx
        · exact .inr hzy
      · exact .inr hge
    · exact .inr (Nat.le_trans h.size hge)
  old := fun x v hx => by
    rcases h.old x v hx with h1 | ⟨h1, h2⟩
    · exact k.old x v h1
    · rcases k.old x none h1 with h3 | ⟨h3, _⟩
      · exact .inr ⟨h3, h2⟩
      · exact .inr ⟨h3, h2⟩
  keep := fun b cs e z hb => by
    obtain ⟨cs1, e1, z1, h1, h2⟩ := h.keep b cs e z hb
    obtain ⟨cs2, e2, z2, h3, h4⟩ := k.keep b cs1 e1 z1 h1
    exact ⟨cs2, e2, z2, h3, h4.trans h2⟩

/-- What a step keeps, for all that is said to stand. -/
structure Keeps (w : World) (X : Nat → Prop) (φ : Loc) (w' : World) (X' : Nat → Prop) (φ' : Loc) : Prop where
  block : ∀ b, b < w.heap.size → ¬ X b → w'.heap[b]? = w.heap[b]?
  size : w.heap.size ≤ w'.heap.size
  excl : ∀ b, X' b → X b ∨ w.heap.size ≤ b
  old : ∀ x v, φ x = some v → φ' x = some v ∨ φ' x = some none
  keep : ∀ (b : Nat) (cs : Array Value) (e : TypeId) (z : Nat × Nat), w.heap[b]? = some (.cells cs e z) → ∃ cs' e' z', w'.heap[b]? = some (.cells cs' e' z') ∧ cs'.size = cs.size

theorem Room.mono {w w' : World} {b sz off len c : Nat} {cap : Option Nat} (hk : ∀ (b : Nat) (cs : Array Value) (e : TypeId) (z : Nat × Nat), w.heap[b]? = some (.cells cs e z) → ∃ cs' e' z', w'.heap[b]? = some (.cells cs' e' z') ∧ cs'.size = cs.size) (h : Room w b sz off len cap c) : Room w' b sz off len cap c := by
  obtain ⟨h1, vs, e, z, h2, h3, h4⟩ := h
  obtain ⟨vs', e', z', h5, h6⟩ := hk b vs e z h2
  refine ⟨h1, vs', e', z', h5, by omega, ?_⟩
  cases cap with
  | none => dsimp only at h4 ⊢; omega
  | some k => exact h4

theorem Keeps.rep {w w' : World} {X X' : Nat → Prop} {φ φ' : Loc} (k : Keeps w X φ w' X' φ') {c : V} {v : Value} (h : Rep w X φ c v) : Rep w' X' φ' c v := by
  have hX : ∀ b, b < w.heap.size → ¬ X b → ¬ X' b := fun b hlt hn hx' => by
    rcases k.excl b hx' with h | h
    · exact hn h
    · omega
  have hd : ∀ {x}, φ x ≠ none → φ' x ≠ none := fun {x} h => by
    cases hx : φ x with
    | none => exact absurd hx h
    | some v => rcases k.old x v hx with h1 | h1 <;> rw [h1] <;> simp
  have hb : ∀ {x b}, φ x ≠ none → φ' x = some (some b) → φ x = some (some b) := fun {x b} h h1 => by
    cases hx : φ x with
    | none => exact absurd hx h
    | some v => rcases k.old x v hx with h2 | h2 <;> rw [h2] at h1
                · exact h1
                · cases h1
  have hcell : ∀ {b o}, b < w.heap.size → ¬ X b → w'.cell? ⟨b, o, none⟩ = w.cell? ⟨b, o, none⟩ := fun {b o} h1 h2 => by simp only [World.cell?, k.block b h1 h2]
  induction h with
  | any v => exact .any v
  | opq v h => exact .opq v h
  | con i v he h => exact .con i v he h
  | raw v h => exact .raw v h
  | str bs t h => exact .str bs t h
  | agg cs vs hl h ih => exact .agg cs vs hl fun i c v h1 h2 => ih i c v h1 h2
  | tup cs vs hl h ih => exact .tup cs vs hl fun i c v h1 h2 => ih i c v h1 h2
  | sl x sz off len cap ad c hs h0 h => exact .sl x sz off len cap ad c hs (hd h0) fun b hb' => let ⟨h1, h2⟩ := h b (hb h0 hb'); ⟨h1, h2.mono k.keep⟩
  | emp ad => exact .emp ad
  | ptr x off ad hs h0 h => exact .ptr x off ad hs (hd h0) fun b hb' => h b (hb h0 hb')
  | mp x r h0 h => exact .mp x r (hd h0) fun b hb' => h b (hb h0 hb')
  | fn f first cap vs us hl hl' h h' ih ih' => exact .fn f first cap vs us hl hl' (fun i c v h1 h2 => ih i c v h1 h2) fun i c v h1 h2 => ih' i c v h1 h2
  | fro sz n g ad cap val hs hx hlt hc hr h1 h hn ih => exact .fro sz n g ad cap val hs (hX _ hlt hx) (Nat.lt_of_lt_of_le hlt k.size) hc (fun j c h1 h2 => (hcell hlt hx).trans (hr j c h1 h2)) h1 ih hn
  | froNil sz g => exact .froNil sz g
  | froZero sz g ad cap => exact .froZero sz g ad cap
  | fpt m g ad val hs hx hlt hr h hn ih => exact .fpt m g ad val hs (hX _ hlt hx) (Nat.lt_of_lt_of_le hlt k.size) (fun c h1 => (hcell hlt hx).trans (hr c h1)) ih hn

/-- A value that names nothing: whatever names stand for. -/
theorem Rep.free {w : World} {X X' : Nat → Prop} {φ φ' : Loc} (hX : ∀ b, b < w.heap.size → ¬ X b → ¬ X' b) {c : V} {v : Value} (h : Rep w X φ c v) : ∀ {d : Nat}, c.nl d = true → Rep w X' φ' c v := by
  induction h with
  | any v => intro d _; exact .any v
  | opq v h => intro d _; exact .opq v h
  | con i v he h => intro d _; exact .con i v he h
  | raw v h => intro d _; exact .raw v h
  | str bs t h => intro d _; exact .str bs t h
  | agg cs vs hl h ih =>
    intro d hd
    cases d with
    | zero => cases hd
    | succ d =>
      simp only [V.nl, List.all_eq_true] at hd
      exact .agg cs vs hl fun i c v h1 h2 => ih i c v h1 h2 (hd c (List.mem_of_getElem? h1))
  | tup cs vs hl h ih =>
    intro d hd
    cases d with
    | zero => cases hd
    | succ d =>
      simp only [V.nl, List.all_eq_true] at hd
      exact .tup cs vs hl fun i c v h1 h2 => ih i c v h1 h2 (hd c (List.mem_of_getElem? h1))
  | sl => intro d hd; cases d <;> cases hd
  | emp ad => intro d _; exact .emp ad
  | ptr => intro d hd; cases d <;> cases hd
  | mp => intro d hd; cases d <;> cases hd
  | fn f first cap vs us hl hl' h h' ih ih' =>
    intro d hd
    cases d with
    | zero => cases hd
    | succ d =>
      simp only [V.nl, Bool.and_eq_true, List.all_eq_true] at hd
      exact .fn f first cap vs us hl hl' (fun i c v h1 h2 => ih i c v h1 h2 (hd.1 c (List.mem_of_getElem? h1))) fun i c v h1 h2 => ih' i c v h1 h2 (hd.2 c (List.mem_of_getElem? h1))
  | fro sz n g ad cap val hs hx hlt hc hr h1 h hn ih => intro d _; exact .fro sz n g ad cap val hs (hX _ hlt hx) hlt hc hr h1 (fun j c h1 h2 => ih j c h1 h2 (hn j c h1 h2)) hn
  | froNil sz g => intro d _; exact .froNil sz g
  | froZero sz g ad cap => intro d _; exact .froZero sz g ad cap
  | fpt m g ad val hs hx hlt hr h hn ih => intro d _; exact .fpt m g ad val hs (hX _ hlt hx) hlt hr (fun c h1 => ih c h1 (hn c h1)) hn

theorem Fwd.keeps {B : Nat → Prop} {pr : List Nat} {φ φ' : Loc} {w w' : World} (F : Fwd pr φ w φ' w') : Keeps w (Excl B φ) φ w' (Excl B φ') φ' where
  block := fun b hb hn => F.block b hb fun x hx => absurd (.inr ⟨x, hx⟩) hn
  size := F.size
  excl := fun b hb => by
    rcases hb with hb | ⟨x, hb⟩
    · exact .inl (.inl hb)
    · rcases F.new x b hb with ⟨y, hy, _⟩ | h
      · exact .inl (.inr ⟨y, hy⟩)
      · exact .inr h
  old := fun x v h => (F.old x v h).imp_right And.left
  keep := F.keep

theorem Fwd.rep {B : Nat → Prop} {pr : List Nat} {φ φ' : Loc} {w w' : World} (F : Fwd pr φ w φ' w') {c : V} {v : Value} (h : Rep w (Excl B φ) φ c v) : Rep w' (Excl B φ') φ' c v := F.keeps.rep h

theorem Keeps.alive {w w' : World} {X X' : Nat → Prop} {φ φ' : Loc} (k : Keeps w X φ w' X' φ') {x : Nat} (h : φ x ≠ none) : φ' x ≠ none ∧ ∀ b, φ' x = some (some b) → φ x = some (some b) := by
  cases hx : φ x with
  | none => exact absurd hx h
  | some v =>
    rcases k.old x v hx with h2 | h2 <;> rw [h2]
    · exact ⟨by simp, fun b h => h⟩
    · exact ⟨by simp, fun b h => by cases h⟩

theorem Keeps.blk {w w' : World} {X X' : Nat → Prop} {φ φ' : Loc} (k : Keeps w X φ w' X' φ') {b : Nat} {bl : Blk} (hb : w'.heap[b]? = w.heap[b]?) (h : BlkAt w X φ b bl) : BlkAt w' X' φ' b bl := by
  cases bl with
  | cells cs =>
    obtain ⟨vs, e, z, h1, hz, h2, h3⟩ := h
    exact ⟨vs, e, z, hb.trans h1, hz, h2, fun i c v g1 g2 => ⟨k.rep (h3 i c v g1 g2).1, (h3 i c v g1 g2).2⟩⟩
  | map es clock =>
    obtain ⟨mes, h1, h2⟩ := h
    exact ⟨mes, hb.trans h1, h2.len, fun i a c n e g1 g2 => ⟨k.rep (h2.rep i a c n e g1 g2).1, k.rep (h2.rep i a c n e g1 g2).2.1, (h2.rep i a c n e g1 g2).2.2⟩⟩
  | it m since seen last =>
    obtain ⟨r, h1, h2⟩ := h
    refine ⟨r, hb.trans h1, ?_⟩
    cases m with
    | none => exact h2
    | some x =>
      obtain ⟨h3, d, h4, h5⟩ := h2
      exact ⟨(k.alive h3).1, d, h4, fun b hb => h5 b ((k.alive h3).2 b hb)⟩

end Go.VM
end

section
/- The machine VM, part 2: clean operations, how they are made of the program's, and what they come to. -/
set_option linter.unusedVariables false
set_option linter.unusedSectionVars false
set_option linter.unusedSimpArgs false
set_option linter.constructorNameAsVariable false
namespace Go.VM
open Go.RowKit

/-! ### clean code -/

inductive Opd where
  | tmp (t : Nat)
  | con (v : V)
  | bad
  deriving Inhabited

/-- What keys are: numbers (0), texts (1), bools (2), or structs of them. -/
inductive KT where
  | one (k : Nat)
  | flat (ks : List Nat)
  deriving Inhabited

inductive COp where
  | bad
  | mv (x : Opd)
  | pick (c a b : Opd)
  | alloc (zs : List V)
  | box (k : Nat) (x : Opd)
  | build (zs : List V) (ps : List (Nat × Nat × Opd))
  | lit (sz len : Nat) (ps : List (Nat × Opd))
  | load (agg : Bool) (k : Nat) (a : Opd)
  | store (k : Nat) (a x : Opd)
  | nilck (x : Opd)
  /-- kd: 0 numbers, texts; 1 bools; against nil: 2 pointers, 3 slices, 4 maps -/
  | bin (kd : Nat) (op : BinOp) (x y : Opd)
  | beq (ks : List Nat) (op : BinOp) (x y : Opd)
  | un (op : UnOp) (x : Opd)
  | conv (k : IntKind) (x : Opd)
  | bytes (x : Opd)
  | text (x : Opd)
  | mkfn (f : Fn) (first cap : List Opd)
  | mkmap
  | mksl (sz bytes : Nat) (zs : List V) (len : Opd)
  | slc (sz : Nat) (x : Opd) (lo hi mx : Option Opd)
  | tslc (x : Opd) (lo hi : Option Opd)
  | fad (off : Nat) (x : Opd)
  | fld (agg : Bool) (off k : Nat) (x : Opd)
  | idx (sz : Nat) (x i : Opd)
  | pidx (n sz : Nat) (x i : Opd)
  | six (x i : Opd)
  | aix (agg : Bool) (n k : Nat) (x i : Opd)
  | ext (x : Opd) (i : Nat)
  | look (kt : KT) (z : V) (m k : Opd) (ok : Bool)
  | mup (kt : KT) (m k v : Opd)
  | del (kt : KT) (m k : Opd)
  | len (kd : Nat) (x : Opd)
  | cap (x : Opd)
  | app (sz bytes : Nat) (s x : Opd)
  | copy (sz : Nat) (d x : Opd)
  | most (max : Bool) (xs : List Opd)
  | rng (x : Opd)
  | nxt (x : Opd)
  | ent (x : Opd)
  | call (f : Opd) (xs : List Opd)
  deriving Inhabited

structure COper where
  dst : Option Nat
  op : COp
  guard : Option (Nat × Bool)
  deriving Inhabited

/-- An operation of a region whose order is drawn: what must have come up ahead of it, which operations it is apart from (as bits), and may it be taken first? -/
structure ROp where
  c : COper
  pre : Nat
  far : Nat
  tk : Bool
  /-- what must have come up ahead of it, by way of others, too -/
  pt : Nat

inductive CCode where
  | bad
  | skip
  | region (l : List COper)
  | drawn (l : List ROp)
  | seq (a b : CCode)
  | cond (c : Opd) (a b : CCode)
  | block (id : Nat) (c : CCode)
  | loop (c : CCode)
  | exit (id : Nat)
  | ret
  deriving Inhabited

/-! ### from the program's operations -/

def toV : Value → Option V
  | .string s => some (.str (s.data.toList.map UInt8.toNat))
  | .int k n => some (.raw (.int k n))
  | .bool b => some (.raw (.bool b))
  | .pointer none => some (.raw (.pointer none))
  | .slice none 0 0 => some (.raw (.slice none 0 0))
  | .map none => some (.raw (.map none))
  | .nilFunc => some (.raw .nilFunc)
  | _ => none

def toVs : List Value → Option (List V)
  | [] => some []
  | v :: r => match toV v, toVs r with
    | some v, some r => some (v :: r)
    | _, _ => none

def tOpd : Operand → Opd
  | .tmp t => .tmp t
  | .const v => match toV v with | some v => .con v | none => .bad
  | .func f => .con (.fn (.func f) [] [])
  | .global _ => .bad

def tOpds : List Operand → List Opd
  | [] => []
  | x :: r => tOpd x :: tOpds r
def tOpt : Option Operand → Option Opd
  | none => none
  | some x => some (tOpd x)

def tZero (P : Program) (t : TypeId) : Option (List V) := match (P.info? t).bind (·.zero) with
  | some z => toVs z.cells.toList
  | none => none
def tZero1 (P : Program) (t : TypeId) : Option V := match (P.info? t).bind (·.zero) with
  | some z => toV z
  | none => none
def tSize (P : Program) (t : TypeId) : Option Nat := (P.info? t).map (·.size)
def tAgg (P : Program) (t : TypeId) : Option Bool := match P.underlying t with
  | some (.struct _) => some true
  | some (.array _ _) => some true
  | some _ => some false
  | none => none
def tElem (P : Program) (t : TypeId) : Option TypeId := match P.underlying t with | some (.slice e) => some e | _ => none

def tPlaces (P : Program) (fs : Array Field) : Option (List (Nat × Nat)) := fs.toList.mapM fun f => (P.info? f.type).map fun i => (f.offset, i.size)

def tParts (place : Nat → Option (Nat × Nat)) : List (Nat × Operand) → Option (List (Nat × Nat × Opd))
  | [] => some []
  | (i, x) :: r => match place i, tParts place r with
    | some (o, k), some r => some ((o, k, tOpd x) :: r)
    | _, _ => none

def tLits : List (Nat × Operand) → List (Nat × Opd)
  | [] => []
  | (i, x) :: r => (i, tOpd x) :: tLits r

/-- types of one plain cell: numbers, texts, bools -/
def tKind (P : Program) (t : TypeId) : Option Nat := match P.underlying t with
  | some (.int _) => some 0
  | some .string => some 1
  | some .bool => some 2
  | _ => none

/-- a struct's fields are plain, one behind the other -/
def tFlat (P : Program) : Nat → List Field → Option (List Nat)
  | _, [] => some []
  | n, f :: r => match Nat.beq f.offset n, tKind P f.type, f.name == "_" with
    | true, some k, false => match tFlat P (n + 1) r with
      | some l => some (k :: l)
      | none => none
    | _, _, _ => none
def tFlatS (P : Program) (t : TypeId) (fs : Array Field) : Option (List Nat) := match P.stoodInHeld t with
  | false => tFlat P 0 fs.toList
  | true => none

/-- types of keys -/
def tKey (P : Program) (t : TypeId) : Option KT := match P.underlying t with
  | some (.struct fs) => match tFlatS P t fs with
    | some l => some (.flat l)
    | none => none
  | _ => match tKind P t with
    | some k => some (.one k)
    | none => none

def tBin (P : Program) (op : BinOp) (t : TypeId) (x y : Opd) : COp := match P.underlying t with
  | some (.int _) => .bin 0 op x y
  | some .string => .bin 0 op x y
  | some .bool => .bin 1 op x y
  | some (.pointer _) => .bin 2 op x y
  | some (.slice _) => .bin 3 op x y
  | some (.map _ _) => .bin 4 op x y
  | some (.struct fs) => match P.eqGuardType P.depth t, tFlatS P t fs with
    | false, some l => .beq l op x y
    | _, _ => .bad
  | _ => .bad

def tCall (P : Program) (c : Call) : COp :=
  match c.callee with
  | .value f => .call (tOpd f) (tOpds c.args.toList)
  | .invoke _ _ => .bad
  | .builtin b => match b, c.args.toList, c.argTypes.toList with
    | .len, [x], [t] => match P.underlying t with
      | some .string => .len 0 (tOpd x)
      | some (.slice _) => .len 1 (tOpd x)
      | some (.map _ _) => .len 2 (tOpd x)
      | _ => .bad
    | .append, [s, x], [t, t'] => match tElem P t with
      | some e => match P.info? e, Nat.beq t t' with
        | some i, true => match Nat.blt 0 i.size && Nat.blt 0 i.bytes && ((i.zero.map (·.cells.size)) == some i.size) with
          | true => .app i.size i.bytes (tOpd s) (tOpd x)
          | false => .bad
        | _, _ => .bad
      | none => .bad
    | .delete, [m, k], [t, _] => match P.underlying t with
      | some (.map kt _) => match tKey P kt with | some t => .del t (tOpd m) (tOpd k) | none => .bad
      | _ => .bad
    | .max, x :: xs, t :: _ => match P.underlying t with
      | some (.int .i64) => .most true (tOpds (x :: xs))
      | _ => .bad
    | .min, x :: xs, t :: _ => match P.underlying t with
      | some (.int .i64) => .most false (tOpds (x :: xs))
      | _ => .bad
    | _, _, _ => .bad

def sameOpd : Operand → Operand → Bool
  | .tmp a, .tmp b => Nat.beq a b
  | .const (.int .i64 a), .const (.int .i64 b) => a == b
  | _, _ => false

def tOp (P : Program) (op : Op) : COp :=
  match op with
  | .move x => .mv (tOpd x)
  | .assign x => .mv (tOpd x)
  | .pick c a b => .pick (tOpd c) (tOpd a) (tOpd b)
  | .alloc e => match tZero P e with | some zs => .alloc zs | none => .bad
  | .box e x => match tSize P e with | some k => .box k (tOpd x) | none => .bad
  | .build t ps => match tZero P t, P.underlying t with
    | some zs, some (.struct fs) => match tPlaces P fs with
      | some pl => match tParts (fun i => pl[i]?) ps.toList with | some q => .build zs q | none => .bad
      | none => .bad
    | some zs, some (.array _ e) => match tSize P e with
      | some k => match tParts (fun i => some (i * k, k)) ps.toList with | some q => .build zs q | none => .bad
      | none => .bad
    | _, _ => .bad
  | .buildSlice t len ps => match tElem P t with
    | some e => match tSize P e, tZero P e with
      | some k, some zs => match Nat.beq zs.length k && Nat.ble (len * k) 16777216 && Nat.blt 0 k with
        | true => .lit k len (tLits ps.toList)
        | false => .bad
      | _, _ => .bad
    | none => .bad
  | .load t a => match tAgg P t, tSize P t with
    | some g, some k => .load g k (tOpd a)
    | _, _ => .bad
  | .store t a x => match tSize P t with | some k => .store k (tOpd a) (tOpd x) | none => .bad
  | .nilCheck x => .nilck (tOpd x)
  | .binOp op t x y _ => tBin P op t (tOpd x) (tOpd y)
  | .unOp op _ x => .un op (tOpd x)
  | .convert t d x => match P.underlying t, P.underlying d with
    | some _, some (.int k) => .conv k (tOpd x)
    | some .string, some (.slice e) => match P.underlying e with
      | some (.int .u8) => .bytes (tOpd x)
      | _ => .bad
    | some (.slice e), some .string => match P.underlying e with
      | some (.int .u8) => .text (tOpd x)
      | _ => .bad
    | _, _ => .bad
  | .makeFunc f first cap => .mkfn f (tOpds first.toList) (tOpds cap.toList)
  | .makeMap t r => match r, P.underlying t with
    | none, some (.map _ _) => .mkmap
    | _, _ => .bad
  | .makeSlice t l c => match tElem P t with
    | some e => match P.info? e, tZero P e with
      | some i, some zs => match Nat.blt 0 i.size && Nat.blt 0 i.bytes && Nat.beq zs.length i.size && sameOpd l c with
        | true => .mksl i.size i.bytes zs (tOpd l)
        | false => .bad
      | _, _ => .bad
    | none => .bad
  | .slice t x lo hi mx => match P.underlying t with
    | some (.slice e) => match tSize P e with
      | some k => .slc k (tOpd x) (tOpt lo) (tOpt hi) (tOpt mx)
      | none => .bad
    | _ => .bad
  | .fieldAddr t x i => match P.underlying t with
    | some (.struct fs) => match fs[i]? with
      | some f => match tSize P f.type with
        | some (_ + 1) => .fad f.offset (tOpd x)
        | _ => .bad
      | none => .bad
    | _ => .bad
  | .field t x i => match P.underlying t with
    | some (.struct fs) => match fs[i]? with
      | some f => match tAgg P f.type, tSize P f.type with
        | some g, some k => .fld g f.offset k (tOpd x)
        | _, _ => .bad
      | none => .bad
    | _ => .bad
  | .indexAddr t x i => match P.underlying t with
    | some (.slice e) => match tSize P e with | some k => .idx k (tOpd x) (tOpd i) | none => .bad
    | some (.array n e) => match tSize P e with | some k => .pidx n k (tOpd x) (tOpd i) | none => .bad
    | _ => .bad
  | .index t x i => match P.underlying t with
    | some .string => .six (tOpd x) (tOpd i)
    | some (.array n e) => match tAgg P e, tSize P e with
      | some g, some k => .aix g n k (tOpd x) (tOpd i)
      | _, _ => .bad
    | _ => .bad
  | .extract x i => .ext (tOpd x) i
  | .lookup t m k ok => match P.underlying t with
    | some (.map kt e) => match tKey P kt, tZero1 P e with
      | some t, some z => .look t z (tOpd m) (tOpd k) ok
      | _, _ => .bad
    | _ => .bad
  | .mapUpdate t m k v => match P.underlying t with
    | some (.map kt e) => match tKey P kt with | some t => .mup t (tOpd m) (tOpd k) (tOpd v) | none => .bad
    | _ => .bad
  | .range t x => match P.underlying t with
    | some (.map _ _) => .rng (tOpd x)
    | _ => .bad
  | .next x false => .nxt (tOpd x)
  | .entry x => .ent (tOpd x)
  | .call c => tCall P c
  | _ => .bad

def okDst (N : Nat) : Option Nat → Bool
  | some d => Nat.blt d N
  | none => true

def tOper (P : Program) (N : Nat) (ops : Array Oper) (o : Oper) : COper :=
  match okDst N o.dst with
  | true => match o.guard with
    | none => ⟨o.dst, tOp P o.op, none⟩
    | some (j, b) => match (ops[j]?).bind (·.dst) with
      | some t => ⟨o.dst, tOp P o.op, some (t, b)⟩
      | none => ⟨none, .bad, none⟩
  | false => ⟨none, .bad, none⟩

def tOpers (P : Program) (N : Nat) (ops : Array Oper) : List Oper → List COper
  | [] => []
  | o :: r => tOper P N ops o :: tOpers P N ops r

/-- may it be taken first? -/
def mayTake (op : Op) : Bool :=
  match op with
  | .move _ | .assign _ | .pick _ _ _ | .build _ _ | .nilCheck _ | .binOp _ _ _ _ _ | .unOp _ _ _ | .convert _ _ _ | .makeFunc _ _ _ | .slice _ _ _ _ _ | .fieldAddr _ _ _ | .field _ _ _ | .indexAddr _ _ _ | .index _ _ _ | .extract _ _ => true
  | .load _ _ => true
  | .lookup _ _ _ _ => true
  | .call c => match c.callee with
    | .builtin .len => true
    | .builtin .max => true
    | .builtin .min => true
    | _ => false
  | _ => false

def bitsOf : List Nat → Nat
  | [] => 0
  | i :: r => Nat.lor (Nat.pow 2 i) (bitsOf r)

def tPre : List Edge → List Nat
  | [] => []
  | e :: r => match Region.binds .any e with
    | true => e.on :: tPre r
    | false => tPre r

def memN (x : Nat) : List Nat → Bool
  | [] => false
  | y :: r => match Nat.beq x y with | true => true | false => memN x r

/-- what of an operation counts for its order: where its value goes, and what it looks at -/
def apartB (dx : Option Nat) (lx : List Nat) (dy : Option Nat) (ly : List Nat) : Bool :=
  (match dx with
    | some d => !memN d ly && (match dy with | some d' => !Nat.beq d' d | none => true)
    | none => true) &&
  (match dy with
    | some d => !memN d lx
    | none => true)

/-- the operations that one is apart from, or that wait for it -/
def farOf (i : Nat) (dx : Option Nat) (lx : List Nat) : Nat → List (Option Nat × List Nat × Nat) → List Nat
  | _, [] => []
  | j, (dy, ly, pre) :: r => match Nat.beq i j || Nat.testBit pre i || apartB dx lx dy ly with
    | true => j :: farOf i dx lx (Nat.succ j) r
    | false => farOf i dx lx (Nat.succ j) r

def tLooks (ops : Array Oper) : List Oper → List (Option Nat × List Nat × Nat)
  | [] => []
  | o :: r => (o.dst, o.looksAt ops, bitsOf (tPre o.after.toList)) :: tLooks ops r

/-- the bits of those among the first m whose numbers are bits -/
def orRev (bits : Nat) : Nat → List Nat → Nat → Nat
  | _, [], acc => acc
  | m, t :: r, acc => match Nat.testBit bits (Nat.pred m) with
    | true => orRev bits (Nat.pred m) r (Nat.lor acc t)
    | false => orRev bits (Nat.pred m) r acc
/-- of each operation what it waits for, by way of others, too; the last one first -/
def closeR : Nat → List (Option Nat × List Nat × Nat) → List Nat → List Nat
  | _, [], acc => acc
  | m, (_, _, pre) :: r, acc => closeR (Nat.succ m) r (orRev pre m acc pre :: acc)
def nthD (d : Nat) : List Nat → Nat → Nat
  | [], _ => d
  | t :: r, k => match k with
    | 0 => t
    | k + 1 => nthD d r k

def tROps (P : Program) (N : Nat) (ops : Array Oper) (ks : List (Option Nat × List Nat × Nat)) (ts : List Nat) : Nat → List Oper → List ROp
  | _, [] => []
  | i, o :: r => ⟨tOper P N ops o, bitsOf (tPre o.after.toList), bitsOf (farOf i o.dst (o.looksAt ops) 0 ks), mayTake o.op, nthD 0 ts (Nat.sub (Nat.pred ks.length) i)⟩ :: tROps P N ops ks ts (Nat.succ i) r

def tCode (P : Program) (N : Nat) : Code → CCode
  | .skip => .skip
  | .region _ ops false => .region (tOpers P N ops ops.toList)
  | .region _ ops true => match P.follows .mixedOrders && Region.noSelect ops with
    | true => .drawn (tROps P N ops (tLooks ops ops.toList) (closeR 0 (tLooks ops ops.toList) []) 0 ops.toList)
    | false => .bad
  | .seq a b => .seq (tCode P N a) (tCode P N b)
  | .cond c a b => .cond (tOpd c) (tCode P N a) (tCode P N b)
  | .block id c => .block id (tCode P N c)
  | .loop c => .loop (tCode P N c)
  | .exit id => .exit id
  | .ret => .ret
  | _ => .bad

/-- what a result is read off -/
inductive Res where
  | tmp (t : Nat)
  | cell (t : Nat) (agg : Bool) (k : Nat)
  | bad

def tRes (P : Program) : ResultVar → Res
  | .tmp t => .tmp t
  | .cell a t => match tAgg P t, tSize P t with
    | some g, some k => .cell a g k
    | _, _ => .bad
def tRess (P : Program) : List ResultVar → List Res
  | [] => []
  | r :: l => tRes P r :: tRess P l

structure CFn where
  code : CCode
  res : List Res
  n : Nat

def tFn (P : Program) (fn : Func) : Option CFn :=
  match fn.body, fn.name == "runtime.NumGoroutine" with
  | some c, false => some ⟨tCode P fn.ntmps c, tRess P fn.results.toList, fn.ntmps⟩
  | _, _ => none

/-! ### what they come to -/

def V.cells : V → List V
  | .agg cs => cs
  | c => [c]

/-- one cell -/
def V.one : V → Bool
  | .any => false
  | .agg _ => false
  | .tup _ => false
  | _ => true

def allOne : List V → Bool
  | [] => true
  | c :: r => match c.one with | true => allOne r | false => false

def opd (e : T V) : Opd → Option V
  | .tmp t => e.get t
  | .con v => some v
  | .bad => none

def opds (e : T V) : List Opd → Option (List V)
  | [] => some []
  | x :: r => match opd e x, opds e r with
    | some c, some r => some (c :: r)
    | _, _ => none

def wr (k : IntKind) (n : Int) : Int :=
  match k with
  | .i64 => match n with
    | .ofNat m => match Nat.blt m 9223372036854775808 with | true => .ofNat m | false => k.wrap n
    | .negSucc m => match Nat.blt m 9223372036854775808 with | true => .negSucc m | false => k.wrap n
  | .u64 => match n with
    | .ofNat m => match Nat.blt m 18446744073709551616 with | true => .ofNat m | false => k.wrap n
    | .negSucc _ => k.wrap n
  | _ => k.wrap n

def eqI : Int → Int → Bool
  | .ofNat a, .ofNat b => Nat.beq a b
  | .negSucc a, .negSucc b => Nat.beq a b
  | _, _ => false
def ltI : Int → Int → Bool
  | .ofNat a, .ofNat b => Nat.blt a b
  | .negSucc _, .ofNat _ => true
  | .negSucc a, .negSucc b => Nat.blt b a
  | _, _ => false
def eqB : Bool → Bool → Bool
  | true, b => b
  | false, true => false
  | false, false => true
def eqL : List Nat → List Nat → Bool
  | [], [] => true
  | a :: r, b :: s => match Nat.beq a b with | true => eqL r s | false => false
  | _, _ => false

def yes (b : Bool) : Option V := some (.raw (.bool b))

def isShift : BinOp → Bool
  | .shl => true
  | .shr => true
  | _ => false

def bits (op : BinOp) (k : IntKind) (a b : Int) : Int :=
  match k, a, b with
  | .i64, .ofNat m, .ofNat n => match Nat.blt m 9223372036854775808 && Nat.blt n 9223372036854775808 with
    | true => match op with
      | .and => .ofNat (Nat.land m n)
      | .or => .ofNat (Nat.lor m n)
      | _ => .ofNat (Nat.xor m n)
    | false => match op with
      | .and => k.wrap (BitVec.ofInt k.bits a &&& BitVec.ofInt k.bits b).toNat
      | .or => k.wrap (BitVec.ofInt k.bits a ||| BitVec.ofInt k.bits b).toNat
      | _ => k.wrap (BitVec.ofInt k.bits a ^^^ BitVec.ofInt k.bits b).toNat
  | k, a, b => match op with
      | .and => k.wrap (BitVec.ofInt k.bits a &&& BitVec.ofInt k.bits b).toNat
      | .or => k.wrap (BitVec.ofInt k.bits a ||| BitVec.ofInt k.bits b).toNat
      | _ => k.wrap (BitVec.ofInt k.bits a ^^^ BitVec.ofInt k.bits b).toNat

def binI (op : BinOp) (k : IntKind) (a b : Int) : Option V :=
  match op with
  | .add => some (.raw (.int k (wr k (Int.add a b))))
  | .sub => some (.raw (.int k (wr k (Int.sub a b))))
  | .mul => some (.raw (.int k (wr k (Int.mul a b))))
  | .quo => match eqI b 0 with | true => none | false => some (.raw (.int k (wr k (a.tdiv b))))
  | .rem => match eqI b 0 with | true => none | false => some (.raw (.int k (a.tmod b)))
  | .and => some (.raw (.int k (bits .and k a b)))
  | .or => some (.raw (.int k (bits .or k a b)))
  | .xor => some (.raw (.int k (bits .xor k a b)))
  | .andNot => some (.raw (.int k (k.wrap (BitVec.ofInt k.bits a &&& ~~~(BitVec.ofInt k.bits b)).toNat)))
  | .eql => yes (eqI a b)
  | .neq => yes (!eqI a b)
  | .lss => yes (ltI a b)
  | .leq => yes (!ltI b a)
  | .gtr => yes (ltI b a)
  | .geq => yes (!ltI a b)
  | _ => none

def shI (op : BinOp) (k : IntKind) (a b : Int) : Option V :=
  match ltI b 0, op with
  | false, .shl => some (.raw (.int k (wr k (a * 2 ^ (min b.toNat k.bits)))))
  | false, .shr => some (.raw (.int k (a.fdiv (2 ^ (min b.toNat k.bits)))))
  | _, _ => none

def kindOk : Nat → V → Bool
  | 0, .raw (.int _ _) => true
  | 1, .str _ => true
  | 2, .raw (.bool _) => true
  | _, _ => false
def kindsOk : List Nat → List V → Bool
  | [], [] => true
  | k :: r, c :: s => match kindOk k c with | true => kindsOk r s | false => false
  | _, _ => false
def cellEq : V → V → Option Bool
  | .raw (.int j a), .raw (.int k b) => match decide (j = k) with | true => some (eqI a b) | false => none
  | .raw (.bool a), .raw (.bool b) => some (eqB a b)
  | .str a, .str b => some (eqL a b)
  | _, _ => none
def eqCells : List V → List V → Option Bool
  | [], [] => some true
  | a :: r, b :: s => match cellEq a b, eqCells r s with
    | some x, some y => some (x && y)
    | _, _ => none
  | _, _ => none

def keyOk : KT → V → Bool
  | .one k, c => kindOk k c
  | .flat ks, .agg cs => kindsOk ks cs
  | _, _ => false
def keyEq : V → V → Option Bool
  | .agg a, .agg b => eqCells a b
  | a, b => cellEq a b

/-- is it nil? -/
def nilP : V → Option Bool
  | .raw (.pointer none) => some true
  | .ptr _ _ => some false
  | .fpt _ _ => some false
  | _ => none
def nilS : V → Option Bool
  | .raw (.slice none 0 0) => some true
  | .sl _ _ _ _ _ => some false
  | .emp => some false
  | .fro _ (_ + 1) _ => some false
  | _ => none
def nilM : V → Option Bool
  | .raw (.map none) => some true
  | .mp _ => some false
  | _ => none

def asks (op : BinOp) (b : Bool) : Option V :=
  match op with
  | .eql => yes b
  | .neq => yes (!b)
  | _ => none

def nilv (op : BinOp) : Option Bool → Option Bool → Option V
  | some true, some b => asks op b
  | some false, some true => asks op false
  | _, _ => none
def binv (kd : Nat) (op : BinOp) (x y : V) : Option V :=
  match kd with
  | 0 => match x, y with
    | .raw (.int k a), .raw (.int k' b) => match isShift op with
      | true => shI op k a b
      | false => match decide (k = k') with | true => binI op k a b | false => none
    | .str a, .str b => match op with
      | .add => match Nat.ble (a.length + b.length) 9223372036854775807 with | true => some (.str (a ++ b)) | false => none
      | _ => asks op (eqL a b)
    | _, _ => none
  | 1 => match x, y with
    | .raw (.bool a), .raw (.bool b) => asks op (eqB a b)
    | _, _ => none
  | 2 => nilv op (nilP x) (nilP y)
  | 3 => nilv op (nilS x) (nilS y)
  | 4 => nilv op (nilM x) (nilM y)
  | _ => none
def beqv (ks : List Nat) (op : BinOp) (x y : V) : Option V :=
  match x, y with
  | .agg a, .agg b => match kindsOk ks a, eqCells a b with
    | true, some t => asks op t
    | _, _ => none
  | _, _ => none

def unv (op : UnOp) : V → Option V
  | .raw (.bool b) => match op with | .not => yes (!b) | _ => none
  | .raw (.int k n) => match op with
    | .neg => some (.raw (.int k (wr k (Int.sub 0 n))))
    | .xor => some (.raw (.int k (k.wrap (BitVec.ofInt k.bits (if k.signed then -1 else k.max) ^^^ BitVec.ofInt k.bits n).toNat)))
    | _ => none
  | _ => none

/-- cells written into cells -/
def putCells (cs : List V) (off : Nat) : List V → List V
  | [] => cs
  | v :: r => putCells (cs.set off v) (off + 1) r

def buildv (e : T V) (cs : List V) : List (Nat × Nat × Opd) → Option (List V)
  | [] => some cs
  | (off, k, x) :: r => match opd e x with
    | none => none
    | some v => match Nat.beq v.cells.length k && Nat.ble (off + k) cs.length && allOne v.cells with
      | true => buildv e (putCells cs off v.cells) r
      | false => none

/-- a literal's cells -/
def litv (e : T V) (sz : Nat) : Nat → List (Nat × Opd) → Option (List V)
  | _, [] => some []
  | n, (i, x) :: r => match Nat.beq i n, opd e x, litv e sz (n + 1) r with
    | true, some c, some l => match Nat.beq c.cells.length sz && allOne c.cells with
      | true => some (c.cells ++ l)
      | false => none
    | _, _, _ => none

/-- k cells of a list, from a place on -/
def cut (cs : List V) (o k : Nat) : List V := (cs.drop o).take k
def cellsAt (g : Nat → V) : Nat → Nat → List V
  | _, 0 => []
  | o, k + 1 => g o :: cellsAt g (o + 1) k

/-- a value of cells -/
def ofCells (agg : Bool) (cs : List V) : Option V :=
  match agg, cs with
  | true, cs => some (.agg cs)
  | false, [c] => some c
  | _, _ => none

def i64? : V → Option Int
  | .raw (.int .i64 n) => some n
  | _ => none

/-- a number as a place: 0 to n -/
def place (v : Option V) (n : Nat) : Option Nat :=
  match v with
  | some (.raw (.int .i64 (.ofNat m))) => match Nat.ble m n with | true => some m | false => none
  | _ => none
def placeO (e : T V) (x : Option Opd) (d n : Nat) : Option Nat :=
  match x with
  | none => some d
  | some x => place (opd e x) n

def reps (zs : List V) : Nat → List V
  | 0 => []
  | n + 1 => zs ++ reps zs n

def ints : List V → Option (List Int)
  | [] => some []
  | c :: r => match i64? c, ints r with
    | some n, some l => some (n :: l)
    | _, _ => none
def mostI (mx : Bool) : Int → List Int → Int
  | a, [] => a
  | a, b :: r => mostI mx (match mx with | true => (match ltI a b with | true => b | false => a) | false => (match ltI b a with | true => b | false => a)) r

/-- a key's place, and what it holds; outer none: it can't be told -/
def findKey (k : V) : List (V × V × Nat) → Nat → Option (Option (Nat × V))
  | [], _ => some none
  | (k', v, _) :: r, i => match keyEq k k' with
    | some true => some (some (i, v))
    | some false => findKey k r (i + 1)
    | none => none

/-- what may come next of a map -/
def nextOf (es : List (V × V × Nat)) (since : Nat) (seen : List Nat) (last : Nat) : Option (Option (V × V × Nat)) :=
  match (!seen.isEmpty) && (!es.isEmpty) && es.all (fun e => Nat.ble last e.2.2) with
  | true => none
  | false =>
    let left := es.filter fun e => !seen.contains e.2.2
    match left.filter (fun e => Nat.blt e.2.2 since), left.filter (fun e => Nat.ble since e.2.2) with
    | [], [] => some none
    | [e], [] => some (some e)
    | _, _ => none

/-! what quiet operations come to: the value, and the block that is made (named nm); one by one -/

abbrev YV := Option (V × Option Blk)
def ret (v : Option V) : YV := match v with | some v => some (v, none) | none => none
def yPick (e : T V) (a b : Opd) : Option V → YV
  | some (.raw (.bool true)) => ret (opd e a)
  | some (.raw (.bool false)) => ret (opd e b)
  | _ => none
def yBox (nm k : Nat) : Option V → YV
  | some c => match Nat.beq c.cells.length k && allOne c.cells with | true => some (.ptr nm 0, some (.cells c.cells)) | false => none
  | none => none
def yBuild : Option (List V) → YV
  | some cs => some (.agg cs, none)
  | none => none
def yLit (nm sz len n : Nat) : Option (List V) → YV
  | some l => match Nat.beq n len with | true => some (.sl nm sz 0 len (some len), some (.cells l)) | false => none
  | none => none
def yLoadB (agg : Bool) (k o : Nat) : Option Blk → YV
  | some (.cells cs) => match Nat.ble (o + k) cs.length with
    | true => ret (ofCells agg (cut cs o k))
    | false => none
  | _ => none
def yLoad (h : Heap) (agg : Bool) (k : Nat) : Option V → YV
  | some (.fpt m g) => match Nat.ble k m with
    | true => ret (ofCells agg (cellsAt g 0 k))
    | false => none
  | some (.ptr x o) => yLoadB agg k o (h.get x)
  | _ => none
def yNil : Option V → YV
  | some (.fpt m g) => some (.fpt m g, none)
  | some (.ptr x o) => some (.ptr x o, none)
  | _ => none
def yBin (kd : Nat) (op : BinOp) : Option V → Option V → YV
  | some a, some b => ret (binv kd op a b)
  | _, _ => none
def yBeq (ks : List Nat) (op : BinOp) : Option V → Option V → YV
  | some a, some b => ret (beqv ks op a b)
  | _, _ => none
def yUn (op : UnOp) : Option V → YV
  | some a => ret (unv op a)
  | none => none
def yConv (k : IntKind) : Option V → YV
  | some (.raw (.int _ n)) => some (.raw (.int k (wr k n)), none)
  | _ => none
def yFn (f : Fn) : Option (List V) → Option (List V) → YV
  | some a, some b => some (.fn f a b, none)
  | _, _ => none
def yMake (nm sz bytes : Nat) (zs : List V) : Option V → YV
  | some (.raw (.int .i64 (.ofNat n))) => match Nat.ble (n * bytes) 140737488355328 with
    | true => some (.sl nm sz 0 n (some n), some (.cells (reps zs n)))
    | false => none
  | _ => none
def less (cap : Option Nat) (l : Nat) : Option Nat := match cap with | some c => some (c - l) | none => none
def ySlc2 (y sz off : Nat) (cap : Option Nat) : Option Nat → Option Nat → YV
  | some k, some l => some (.sl y sz (off + l * sz) (k - l) (less cap l), none)
  | _, _ => none
def yFro2 (sz : Nat) (g : Nat → Nat → V) : Option Nat → Option Nat → YV
  | some k, some l => some (.fro sz (k - l) (fun j c => g (j + l) c), none)
  | _, _ => none
def upTo (e : T V) (lo : Option Opd) : Option Nat → Option Nat
  | some k => placeO e lo 0 k
  | none => none
def ySlc (e : T V) (h : Heap) (sz : Nat) (lo hi mx : Option Opd) : Option V → YV
  | some (.sl y sz' off n cap) => match Nat.beq sz sz', mx with
    | true, none => match h.get y with
      | some (.cells _) => ySlc2 y sz off cap (placeO e hi n n) (upTo e lo (placeO e hi n n))
      | _ => none
    | _, _ => none
  | some (.fro sz' n g) => match Nat.beq sz sz', mx with
    | true, none => yFro2 sz g (placeO e hi n n) (upTo e lo (placeO e hi n n))
    | _, _ => none
  | _ => none
def yText2 (t : List Nat) : Option Nat → Option Nat → YV
  | some k, some l => some (.str ((t.drop l).take (k - l)), none)
  | _, _ => none
def yTslc (e : T V) (lo hi : Option Opd) : Option V → YV
  | some (.str t) => yText2 t (placeO e hi t.length t.length) (upTo e lo (placeO e hi t.length t.length))
  | _ => none
def yFad (off : Nat) : Option V → YV
  | some (.fpt m g) => match Nat.blt off m with | true => some (.fpt (m - off) (fun c => g (c + off)), none) | false => none
  | some (.ptr x o) => some (.ptr x (o + off), none)
  | _ => none
def yFld (agg : Bool) (off k : Nat) : Option V → YV
  | some (.agg cs) => match Nat.ble (off + k) cs.length with
    | true => ret (ofCells agg (cut cs off k))
    | false => none
  | _ => none
def yIdx (sz : Nat) : Option V → Option V → YV
  | some (.sl y sz' off n _), some (.raw (.int .i64 (.ofNat i))) => match Nat.beq sz sz' && Nat.blt i n with | true => some (.ptr y (off + i * sz), none) | false => none
  | some (.fro sz' n g), some (.raw (.int .i64 (.ofNat i))) => match Nat.beq sz sz' && Nat.blt i n with | true => some (.fpt sz (g i), none) | false => none
  | _, _ => none
def u8 : Option Nat → YV
  | some b => some (.raw (.int .u8 (.ofNat b)), none)
  | none => none
def ySix : Option V → Option V → YV
  | some (.str t), some (.raw (.int .i64 (.ofNat i))) => u8 t[i]?
  | _, _ => none
def yPidx (n sz : Nat) : Option V → Option V → YV
  | some (.fpt m g), some (.raw (.int .i64 (.ofNat i))) => match Nat.blt i n && Nat.blt (i * sz) m with | true => some (.fpt (m - i * sz) (fun c => g (c + i * sz)), none) | false => none
  | some (.ptr x o), some (.raw (.int .i64 (.ofNat i))) => match Nat.blt i n with | true => some (.ptr x (o + i * sz), none) | false => none
  | _, _ => none
def yAix (agg : Bool) (n k : Nat) : Option V → Option V → YV
  | some (.agg cs), some (.raw (.int .i64 (.ofNat j))) => match Nat.blt j n && Nat.ble (j * k + k) cs.length with
    | true => ret (ofCells agg (cut cs (j * k) k))
    | false => none
  | _, _ => none
def yExt (i : Nat) : Option V → YV
  | some (.tup cs) => ret cs[i]?
  | _ => none
def withOk (ok : Bool) (c : V) (b : Bool) : V := match ok with | true => .tup [c, .raw (.bool b)] | false => c
def yLook2 (z : V) (ok : Bool) : Option (Option (Nat × V)) → YV
  | some (some (_, v)) => some (withOk ok v true, none)
  | some none => some (withOk ok z false, none)
  | none => none
def yLook1 (kt : KT) (z : V) (ok : Bool) (k : V) : Option Blk → YV
  | some (.map es _) => match keyOk kt k with | true => yLook2 z ok (findKey k es 0) | false => none
  | _ => none
def yLook (h : Heap) (kt : KT) (z : V) (ok : Bool) : Option V → Option V → YV
  | some (.mp x), some k => yLook1 kt z ok k (h.get x)
  | _, _ => none
def num (n : Nat) : YV := some (.raw (.int .i64 (.ofNat n)), none)
def yLenM : Option Blk → YV
  | some (.map es _) => num es.length
  | _ => none
def yLen (h : Heap) : Nat → Option V → YV
  | 1, some (.fro _ n _) => num n
  | 1, some (.sl _ _ _ n _) => num n
  | 1, some .emp => num 0
  | 1, some (.raw (.slice none 0 0)) => num 0
  | 0, some (.str t) => num t.length
  | 2, some (.mp y) => yLenM (h.get y)
  | _, _ => none
def yMost (mx : Bool) : Option (List V) → YV
  | some cs => match ints cs with
    | some (a :: r) => some (.raw (.int .i64 (mostI mx a r)), none)
    | _ => none
  | none => none
def yRng2 (nm y : Nat) : Option Blk → YV
  | some (.map _ clock) => some (.ptr nm 0, some (.it (some y) clock [] clock))
  | _ => none
def yRng (h : Heap) (nm : Nat) : Option V → YV
  | some (.mp y) => yRng2 nm y (h.get y)
  | some (.raw (.map none)) => some (.ptr nm 0, some (.it none 0 [] 0))
  | _ => none
def yEnt3 : Option (V × V × Nat) → YV
  | some (k, v, _) => some (.tup [k, v], none)
  | none => none
def yEnt2 (last : Nat) : Option Nat → Option Blk → YV
  | some n, some (.map es clock) => match Nat.beq clock last with | true => yEnt3 (es.find? fun e => Nat.beq e.2.2 n) | false => none
  | _, _ => none
def yEnt1 (h : Heap) : Option Blk → YV
  | some (.it (some m) _ seen last) => yEnt2 last seen.getLast? (h.get m)
  | _ => none
def yEnt (h : Heap) : Option V → YV
  | some (.ptr y 0) => yEnt1 h (h.get y)
  | _ => none

/-- What a quiet operation comes to. -/
def yv (e : T V) (h : Heap) (nm : Nat) : COp → YV
  | .mv x => ret (opd e x)
  | .pick c a b => yPick e a b (opd e c)
  | .alloc zs => some (.ptr nm 0, some (.cells zs))
  | .box k x => yBox nm k (opd e x)
  | .build zs ps => yBuild (buildv e zs ps)
  | .lit sz len ps => yLit nm sz len ps.length (litv e sz 0 ps)
  | .load agg k a => yLoad h agg k (opd e a)
  | .nilck x => yNil (opd e x)
  | .bin kd op x y => yBin kd op (opd e x) (opd e y)
  | .beq ks op x y => yBeq ks op (opd e x) (opd e y)
  | .un op x => yUn op (opd e x)
  | .conv k x => yConv k (opd e x)
  | .mkfn f first cap => yFn f (opds e first) (opds e cap)
  | .mkmap => some (.mp nm, some (.map [] 0))
  | .mksl sz bytes zs l => yMake nm sz bytes zs (opd e l)
  | .slc sz x lo hi mx => ySlc e h sz lo hi mx (opd e x)
  | .tslc x lo hi => yTslc e lo hi (opd e x)
  | .fad off x => yFad off (opd e x)
  | .fld agg off k x => yFld agg off k (opd e x)
  | .idx sz x i => yIdx sz (opd e x) (opd e i)
  | .pidx n sz x i => yPidx n sz (opd e x) (opd e i)
  | .six x i => ySix (opd e x) (opd e i)
  | .aix g n k x i => yAix g n k (opd e x) (opd e i)
  | .ext x i => yExt i (opd e x)
  | .look kt z m k ok => yLook h kt z ok (opd e m) (opd e k)
  | .len kd x => yLen h kd (opd e x)
  | .most mx xs => yMost mx (opds e xs)
  | .rng x => yRng h nm (opd e x)
  | .ent x => yEnt h (opd e x)
  | _ => none

/-! forcing: a value is told in its own form -/
def forceN (n : Nat) (q : Nat → Bool) : Bool := match n with
  | 0 => q 0
  | m + 1 => q (Nat.succ m)
def forceI (n : Int) (q : Int → Bool) : Bool := match n with
  | .ofNat m => forceN m fun m => q (.ofNat m)
  | .negSucc m => forceN m fun m => q (.negSucc m)
def forceB (b : Bool) (q : Bool → Bool) : Bool := match b with
  | true => q true
  | false => q false
def forceL (l : List Nat) (q : List Nat → Bool) : Bool := match l with
  | [] => q []
  | a :: r => forceN a fun a => forceL r fun r => q (a :: r)
def force1 (v : V) (q : V → Bool) : Bool := match v with
  | .raw (.int k n) => forceI n fun n => q (.raw (.int k n))
  | .raw (.bool b) => forceB b fun b => q (.raw (.bool b))
  | .str l => forceL l fun l => q (.str l)
  | .sl x sz off len cap => forceN x fun x => forceN off fun off => forceN len fun len => match cap with
    | some c => forceN c fun c => q (.sl x sz off len (some c))
    | none => q (.sl x sz off len none)
  | .ptr x off => forceN x fun x => forceN off fun off => q (.ptr x off)
  | .mp x => forceN x fun x => q (.mp x)
  | v => q v
def forceC (l : List V) (q : List V → Bool) : Bool := match l with
  | [] => q []
  | a :: r => force1 a fun a => forceC r fun r => q (a :: r)
def force (v : V) (q : V → Bool) : Bool := match v with
  | .agg cs => forceC cs fun cs => q (.agg cs)
  | .tup cs => forceC cs fun cs => q (.tup cs)
  | v => force1 v q
def forceE (l : List (V × V × Nat)) (q : List (V × V × Nat) → Bool) : Bool := match l with
  | [] => q []
  | (k, v, n) :: r => force k fun k => force v fun v => forceE r fun r => q ((k, v, n) :: r)
def forceBlk (b : Blk) (q : Blk → Bool) : Bool := match b with
  | .cells cs => forceC cs fun cs => q (.cells cs)
  | .map es c => forceE es fun es => forceN c fun c => q (.map es c)
  | b => q b

theorem forceN_eq (n : Nat) (q : Nat → Bool) : forceN n q = q n := by cases n <;> rfl
theorem forceI_eq (n : Int) (q : Int → Bool) : forceI n q = q n := by cases n <;> simp [forceI, forceN_eq]
theorem forceB_eq (b : Bool) (q : Bool → Bool) : forceB b q = q b := by cases b <;> rfl
theorem forceL_eq : ∀ (l : List Nat) (q : List Nat → Bool), forceL l q = q l
  | [], q => rfl
  | a :: r, q => by simp only [forceL, forceN_eq, forceL_eq r]
theorem force1_eq (v : V) (q : V → Bool) : force1 v q = q v := by
  unfold force1
  split <;> simp only [forceI_eq, forceB_eq, forceL_eq, forceN_eq]
  split <;> simp only [forceN_eq]
theorem forceC_eq : ∀ (l : List V) (q : List V → Bool), forceC l q = q l
  | [], q => rfl
  | a :: r, q => by simp only [forceC, force1_eq, forceC_eq r]
theorem force_eq (v : V) (q : V → Bool) : force v q = q v := by
  unfold force
  split <;> simp only [forceC_eq, force1_eq]
theorem forceE_eq : ∀ (l : List (V × V × Nat)) (q : List (V × V × Nat) → Bool), forceE l q = q l
  | [], q => rfl
  | (k, v, n) :: r, q => by simp only [forceE, force_eq, forceE_eq r]
theorem forceBlk_eq (b : Blk) (q : Blk → Bool) : forceBlk b q = q b := by
  unfold forceBlk
  split <;> simp only [forceC_eq, forceE_eq, forceN_eq]

/-! ### effects, regions, code -/

def deep : Nat := 40

/-- a value into a slot -/
def setO (e : T V) (dst : Option Nat) (v : V) (q : T V → Bool) : Bool :=
  match dst with
  | some d => force v fun v => T.putK (some v) deep e d q
  | none => q e

/-- a block is written, if it may be -/
def setB (s : S) (x : Nat) (b : Option Blk) (q : S → Bool) : Bool :=
  match s with
  | ⟨e, h, nx, pr⟩ => match memN x pr with
    | true => false
    | false => match b with
      | some b => forceBlk b fun b => T.putK (some b) deep h x fun h => q ⟨e, h, nx, pr⟩
      | none => T.putK none deep h x fun h => q ⟨e, h, nx, pr⟩

/-- the value, and the block that is made -/
def out (s : S) (dst : Option Nat) (nm : Nat) (v : V) (new : Option Blk) (q : S → Bool) : Bool :=
  match s with
  | ⟨e, h, nx, pr⟩ => match new with
    | some b => forceBlk b fun b => T.putK (some b) deep h nm fun h => setO e dst v fun e => q ⟨e, h, nx, pr⟩
    | none => setO e dst v fun e => q ⟨e, h, nx, pr⟩

/-- the elements of a slice, as cells: how many, and the cells -/
def elems (h : Heap) (sz : Nat) : V → Option (Nat × List V)
  | .sl y sz' off n _ => match h.get y, Nat.beq sz sz' with
    | some (.cells cs), true => match Nat.ble (off + n * sz) cs.length with
      | true => some (n, cut cs off (n * sz))
      | false => none
    | _, _ => none
  | .fro sz' n g => match Nat.beq sz sz' with
    | true => some (n, ((List.range n).map fun j => cellsAt (g j) 0 sz).flatten)
    | false => none
  | .emp => some (0, [])
  | .raw (.slice none 0 0) => some (0, [])
  | _ => none

/-- bytes of cells -/
def bytesOf : List V → Option (List Nat)
  | [] => some []
  | .raw (.int .u8 (.ofNat n)) :: r => match Nat.blt n 256, bytesOf r with | true, some l => some (n :: l) | _, _ => none
  | _ => none
def cellsOf : List Nat → List V
  | [] => []
  | b :: r => .raw (.int .u8 (.ofNat b)) :: cellsOf r

/-! effects, one by one -/

/-- elements into a new block -/
def appNew (s : S) (nm : Nat) (dst : Option Nat) (sz bytes : Nat) (old new : List V) (n : Nat) (q : S → Bool) : Bool :=
  match Nat.ble (n * bytes) 140737488355328 with
  | true => out s dst nm (.sl nm sz 0 n none) (some (.cells (old ++ new))) q
  | false => false
def appIn (s : S) (nm : Nat) (dst : Option Nat) (y sz off n m : Nat) (cap : Option Nat) (cs new : List V) (q : S → Bool) : Bool :=
  setB s y (some (.cells (putCells cs (off + n * sz) new))) fun s => out s dst nm (.sl y sz off (n + m) cap) none q
def appSl (s : S) (nm : Nat) (dst : Option Nat) (y sz bytes off n m : Nat) (new cs : List V) (q : S → Bool) : Option Nat → Bool
  | none => match Nat.ble (off + (n + m) * sz) cs.length with
    | true => appIn s nm dst y sz off n m none cs new q
    | false => match Nat.beq off 0 && Nat.beq (n * sz) cs.length with
      | true => setB s y none fun s => appNew s nm dst sz bytes cs new (n + m) q
      | false => false
  | some c => match Nat.ble (n + m) c with
    | true => match Nat.ble (off + (n + m) * sz) cs.length with
      | true => appIn s nm dst y sz off n m (some c) cs new q
      | false => false
    | false => match Nat.ble (off + n * sz) cs.length with
      | true => appNew s nm dst sz bytes (cut cs off (n * sz)) new (n + m) q
      | false => false
/-- append -/
def evApp (s : S) (nm : Nat) (dst : Option Nat) (sz bytes m : Nat) (new : List V) (q : S → Bool) : V → Bool
  | .raw (.slice none 0 0) => match m with
    | 0 => out s dst nm (.raw (.slice none 0 0)) none q
    | m + 1 => appNew s nm dst sz bytes [] new (Nat.succ m) q
  | .emp => match m with
    | 0 => out s dst nm .emp none q
    | m + 1 => appNew s nm dst sz bytes [] new (Nat.succ m) q
  | .fro sz' n g => match m with
    | 0 => match Nat.beq sz sz' with | true => out s dst nm (.fro sz n g) none q | false => false
    | _ + 1 => false
  | .sl y sz' off n cap => match Nat.beq sz sz' with
    | true => match s.h.get y with
      | some (.cells cs) => appSl s nm dst y sz bytes off n m new cs q cap
      | _ => false
    | false => false
  | _ => false
def evApp1 (s : S) (nm : Nat) (dst : Option Nat) (sz bytes : Nat) (q : S → Bool) : Option V → Option (Nat × List V) → Bool
  | some a, some (m, new) => evApp s nm dst sz bytes m new q a
  | _, _ => false
def elemsO (h : Heap) (sz : Nat) : Option V → Option (Nat × List V)
  | some v => elems h sz v
  | none => none

/-- nothing is told -/
def void (dst : Option Nat) (q : S → Bool) (s : S) : Bool :=
  match s with
  | ⟨e, h, nx, pr⟩ => setO e dst .any fun e => q ⟨e, h, nx, pr⟩

def evStore2 (s : S) (dst : Option Nat) (k y o : Nat) (c : List V) (q : S → Bool) : Option Blk → Bool
  | some (.cells cs) => match Nat.ble (o + k) cs.length && Nat.beq c.length k && allOne c with
    | true => setB s y (some (.cells (putCells cs o c))) (void dst q)
    | false => false
  | _ => false
def evStore (s : S) (dst : Option Nat) (k : Nat) (q : S → Bool) : Option V → Option V → Bool
  | some (.ptr y o), some c => evStore2 s dst k y o c.cells q (s.h.get y)
  | _, _ => false
def evMup3 (s : S) (dst : Option Nat) (y : Nat) (k c : V) (es : List (V × V × Nat)) (clock : Nat) (q : S → Bool) : Option (Option (Nat × V)) → Bool
  | some (some (i, _)) => setB s y (some (.map (es.modify i fun p => (k, c, p.2.2)) clock)) (void dst q)
  | some none => setB s y (some (.map (es ++ [(k, c, clock)]) (clock + 1))) (void dst q)
  | none => false
def evMup2 (s : S) (dst : Option Nat) (kt : KT) (y : Nat) (k c : V) (q : S → Bool) : Option Blk → Bool
  | some (.map es clock) => match keyOk kt k && c.one with
    | true => evMup3 s dst y k c es clock q (findKey k es 0)
    | false => false
  | _ => false
def evMup (s : S) (dst : Option Nat) (kt : KT) (q : S → Bool) : Option V → Option V → Option V → Bool
  | some (.mp y), some k, some c => evMup2 s dst kt y k c q (s.h.get y)
  | _, _, _ => false
def evDel3 (s : S) (dst : Option Nat) (y : Nat) (es : List (V × V × Nat)) (clock : Nat) (q : S → Bool) : Option (Option (Nat × V)) → Bool
  | some (some (i, _)) => setB s y (some (.map (es.eraseIdx i) clock)) (void dst q)
  | some none => setB s y (some (.map es clock)) (void dst q)
  | none => false
def evDel2 (s : S) (dst : Option Nat) (kt : KT) (y : Nat) (k : V) (q : S → Bool) : Option Blk → Bool
  | some (.map es clock) => match keyOk kt k with
    | true => evDel3 s dst y es clock q (findKey k es 0)
    | false => false
  | _ => false
def evDel (s : S) (dst : Option Nat) (kt : KT) (q : S → Bool) : Option V → Option V → Bool
  | some (.mp y), some k => evDel2 s dst kt y k q (s.h.get y)
  | _, _ => false
def evNxt3 (s : S) (nm : Nat) (dst : Option Nat) (y m since clock : Nat) (seen : List Nat) (q : S → Bool) : Option (Option (V × V × Nat)) → Bool
  | some none => out s dst nm (.tup [.raw (.bool false)]) none q
  | some (some (k, v, n)) => setB s y (some (.it (some m) since (seen ++ [n]) clock)) fun s => out s dst nm (.tup [.raw (.bool true), k, v]) none q
  | none => false
def evNxt2 (s : S) (nm : Nat) (dst : Option Nat) (y m since : Nat) (seen : List Nat) (last : Nat) (q : S → Bool) : Option Blk → Bool
  | some (.map es clock) => evNxt3 s nm dst y m since clock seen q (nextOf es since seen last)
  | _ => false
def evNxt1 (s : S) (nm : Nat) (dst : Option Nat) (y : Nat) (q : S → Bool) : Option Blk → Bool
  | some (.it none _ _ _) => out s dst nm (.tup [.raw (.bool false)]) none q
  | some (.it (some m) since seen last) => evNxt2 s nm dst y m since seen last q (s.h.get m)
  | _ => false
def evNxt (s : S) (nm : Nat) (dst : Option Nat) (q : S → Bool) : Option V → Bool
  | some (.ptr y 0) => evNxt1 s nm dst y q (s.h.get y)
  | _ => false
def evBytes (s : S) (nm : Nat) (dst : Option Nat) (q : S → Bool) : Option V → Bool
  | some (.str t) => out s dst nm (.sl nm 1 0 t.length none) (some (.cells (cellsOf t))) q
  | _ => false
def evText2 (s : S) (nm : Nat) (dst : Option Nat) (q : S → Bool) : Option (List Nat) → Bool
  | some t => out s dst nm (.str t) none q
  | none => false
def evText (s : S) (nm : Nat) (dst : Option Nat) (q : S → Bool) : Option (Nat × List V) → Bool
  | some (_, cs) => evText2 s nm dst q (bytesOf cs)
  | none => false
def evCopy3 (s : S) (nm : Nat) (dst : Option Nat) (sz y off n m : Nat) (new : List V) (q : S → Bool) : Option Blk → Bool
  | some (.cells cs) => match Nat.ble (off + n * sz) cs.length with
    | true => setB s y (some (.cells (putCells cs off (new.take (Nat.min m n * sz))))) fun s => out s dst nm (.raw (.int .i64 (.ofNat (Nat.min m n)))) none q
    | false => false
  | _ => false
def evCopy (s : S) (nm : Nat) (dst : Option Nat) (sz : Nat) (q : S → Bool) : Option V → Option (Nat × List V) → Bool
  | some (.sl y sz' off n _), some (m, new) => match Nat.beq sz sz' with
    | true => evCopy3 s nm dst sz y off n m new q (s.h.get y)
    | false => false
  | _, _ => false
def evQuiet (s : S) (nm : Nat) (dst : Option Nat) (q : S → Bool) : YV → Bool
  | some (v, new) => out s dst nm v new q
  | none => false

abbrev Calling := Nat → List V → Heap → Nat → List Nat → (V → Heap → Nat → Bool) → Bool

def evCall (call : Calling) (s : S) (nm : Nat) (dst : Option Nat) (q : S → Bool) : Option V → Option (List V) → Bool
  | some (.fn (.func g) first cap), some cs => match s with
    | ⟨e, h, nx, pr⟩ => call g (first ++ cs ++ cap) h nx pr fun v h nx => out ⟨e, h, nx, pr⟩ dst nm v none q
  | _, _ => false

/-- not quiet -/
def COp.eff : COp → Bool
  | .store _ _ _ | .mup _ _ _ _ | .del _ _ _ | .nxt _ | .bytes _ | .text _ | .app _ _ _ _ | .copy _ _ _ | .call _ _ => true
  | _ => false

/-- One operation. 'call': a function, by its number. -/
def evOp (call : Calling) (s : S) (nm : Nat) (dst : Option Nat) (q : S → Bool) : COp → Bool
  | .store k a x => evStore s dst k q (opd s.env a) (opd s.env x)
  | .mup kt m k v => evMup s dst kt q (opd s.env m) (opd s.env k) (opd s.env v)
  | .del kt m k => evDel s dst kt q (opd s.env m) (opd s.env k)
  | .nxt x => evNxt s nm dst q (opd s.env x)
  | .bytes x => evBytes s nm dst q (opd s.env x)
  | .text x => evText s nm dst q (elemsO s.h 1 (opd s.env x))
  | .app sz bytes a b => evApp1 s nm dst sz bytes q (opd s.env a) (elemsO s.h sz (opd s.env b))
  | .copy sz d x => evCopy s nm dst sz q (opd s.env d) (elemsO s.h sz (opd s.env x))
  | .call f xs => evCall call s nm dst q (opd s.env f) (opds s.env xs)
  | o => evQuiet s nm dst q (yv s.env s.h nm o)

/-- an operation whose guard says no -/
def skipped (s : S) (dst : Option Nat) (q : S → Bool) : Bool :=
  match s with
  | ⟨e, h, nx, pr⟩ => setO e dst (.tup []) fun e => q ⟨e, h, nx, pr⟩
def evGd (want : Bool) (go skip : Bool) : Option V → Bool
  | some (.raw (.bool b)) => match eqB b want with | true => go | false => skip
  | some (.tup []) => skip
  | _ => false

/-- ... with its guard -/
def evG (call : Calling) (s : S) (nm : Nat) (c : COper) (q : S → Bool) : Bool :=
  match c with
  | ⟨dst, op, none⟩ => evOp call s nm dst q op
  | ⟨dst, op, some (t, want)⟩ => evGd want (evOp call s nm dst q op) (skipped s dst q) (s.env.get t)

/-- A region in the text's order. -/
def evR (call : Calling) : Nat → List COper → S → (S → Bool) → Bool
  | _, [], s, q => q s
  | nm, c :: r, s, q => evG call s nm c fun s => evR call (Nat.succ nm) r s q

/-- operations that hang on their operands alone -/
def COp.pure : COp → Bool
  | .mv _ | .pick _ _ _ | .build _ _ | .nilck _ | .bin _ _ _ _ | .beq _ _ _ _ | .un _ _ | .conv _ _ | .mkfn _ _ _ | .slc _ _ _ _ _ | .fad _ _ | .fld _ _ _ _ | .idx _ _ _ | .pidx _ _ _ _ | .six _ _ | .aix _ _ _ _ _ | .ext _ _ | .len 0 _ | .len 1 _ | .most _ _ | .tslc _ _ _ => true
  | _ => false

/-- the block that an operation reads; none: it may not be taken first -/
def reads : COp → Option V → Option (Option Nat)
  | .load _ _ _, some (.ptr y _) => some (some y)
  | .load _ _ _, some (.fpt _ _) => some none
  | .look _ _ _ _ _, some (.mp y) => some (some y)
  | .len 2 _, some (.mp y) => some (some y)
  | .load _ _ _, _ => none
  | .look _ _ _ _ _, _ => none
  | o, _ => match o.pure with | true => some none | false => none
def COp.addr : COp → Opd
  | .load _ _ a => a
  | .look _ _ m _ _ => m
  | .len 2 x => x
  | _ => .bad

/-- loads that were taken first: which operations, and which blocks they read -/
abbrev Held := List (Nat × Nat)

def evTake3 (s : S) (dst : Option Nat) (i : Nat) (D : Held) (v : V) (q : Held → S → Bool) : Option (Option Nat) → Bool
  | some (some y) => match s with
    | ⟨e, h, nx, pr⟩ => setO e dst v fun e => q ((i, y) :: D) ⟨e, h, nx, pr⟩
  | some none => match s with
    | ⟨e, h, nx, pr⟩ => setO e dst v fun e => q D ⟨e, h, nx, pr⟩
  | none => false
def evTake2 (s : S) (dst : Option Nat) (i : Nat) (D : Held) (q : Held → S → Bool) (r : Option (Option Nat)) : YV → Bool
  | some (v, none) => evTake3 s dst i D v q r
  | _ => false
/-- an operation that is taken first: the block that is read must not be written by what does not wait for it -/
def evTake (s : S) (i nm : Nat) (D : Held) (q : Held → S → Bool) : COper → Bool
  | ⟨dst, op, none⟩ => evTake2 s dst i D q (reads op (opd s.env op.addr)) (yv s.env s.h nm op)
  | ⟨dst, op, some (t, want)⟩ => evGd want (evTake2 s dst i D q (reads op (opd s.env op.addr)) (yv s.env s.h nm op)) (skipped s dst (q D)) (s.env.get t)

inductive Plan where
  | take (i : Nat) (c : COper)
  | alts (l : List (Nat × ROp))
  | done

def isReady (r : ROp) (i L : Nat) : Bool := !Nat.testBit L i && Nat.beq (Nat.land r.pre L) r.pre

def firstTake (full L : Nat) : Nat → List ROp → Option (Nat × COper)
  | _, [] => none
  | i, r :: l => match isReady r i L && r.tk && Nat.beq (Nat.land (Nat.lor r.far L) full) full with
    | true => some (i, r.c)
    | false => firstTake full L (Nat.succ i) l
def readyOf (L : Nat) : Nat → List ROp → List (Nat × ROp)
  | _, [] => []
  | i, r :: l => match isReady r i L with
    | true => (i, r) :: readyOf L (Nat.succ i) l
    | false => readyOf L (Nat.succ i) l
def plan (rs : List ROp) (full L : Nat) : Plan :=
  match firstTake full L 0 rs with
  | some (i, c) => .take i c
  | none => match readyOf L 0 rs with
    | [] => .done
    | l => .alts l

def allB {α : Type} (p : α → Bool) : List α → Bool
  | [] => true
  | a :: r => match p a with | true => allB p r | false => false

/-- what is still held when an operation comes up -/
def still (pre : Nat) : Held → Held
  | [] => []
  | (i, y) :: r => match Nat.testBit pre i with
    | true => still pre r
    | false => (i, y) :: still pre r
def addPr (pr : List Nat) : Held → List Nat
  | [] => pr
  | (_, y) :: r => y :: addPr pr r
def stillK (pre : Nat) : Held → (Held → Bool) → Bool
  | [], q => q []
  | (i, y) :: r, q => match Nat.testBit pre i with
    | true => stillK pre r q
    | false => forceN i fun i => forceN y fun y => stillK pre r fun r => q ((i, y) :: r)
def addPrK (pr : List Nat) : Held → (List Nat → Bool) → Bool
  | [], q => q pr
  | (_, y) :: r, q => forceN y fun y => addPrK pr r fun r => q (y :: r)
theorem stillK_eq (pre : Nat) : ∀ (D : Held) (q : Held → Bool), stillK pre D q = q (still pre D)
  | [], q => rfl
  | (i, y) :: r, q => by
    simp only [stillK, still, forceN_eq]
    cases Nat.testBit pre i <;> simp only [stillK_eq pre r]
theorem addPrK_eq (pr : List Nat) : ∀ (D : Held) (q : List Nat → Bool), addPrK pr D q = q (addPr pr D)
  | [], q => rfl
  | (i, y) :: r, q => by simp only [addPrK, addPr, forceN_eq, addPrK_eq pr r]
def setPr (pr : List Nat) (q : S → Bool) : S → Bool
  | ⟨e, h, nx, _⟩ => q ⟨e, h, nx, pr⟩

/-- one that may come up next -/
def evAlt (call : Calling) (nm : Nat) (D : Held) (r : ROp) (k : Held → S → Bool) : S → Bool
  | ⟨e, h, nx, pr⟩ => stillK r.pt D fun D => addPrK pr D fun pr' => evG call ⟨e, h, nx, pr'⟩ nm r.c (setPr pr (k D))

/-- A region whose order is drawn. L: which have come up, as bits. -/
def evD (call : Calling) (base : Nat) (rs : List ROp) (full : Nat) : Nat → Nat → Held → S → (S → Bool) → Bool
  | 0, L, D, s, q => match plan rs full L with
    | .done => q s
    | _ => false
  | f + 1, L, D, s, q => match plan rs full L with
    | .done => q s
    | .take i c => forceN (Nat.lor L (Nat.pow 2 i)) fun L' => evTake s i (Nat.add base i) D (fun D s => evD call base rs full f L' D s q) c
    | .alts l => allB (fun p => forceN (Nat.lor L (Nat.pow 2 p.1)) fun L' => evAlt call (Nat.add base p.1) D p.2 (fun D s => match evD call base rs full f L' D s q with | true => true | false => false) s) l

inductive Out where
  | normal (s : S)
  | exit (id : Nat) (s : S)
  | ret (s : S)

/-- a function's result -/
def resv (e : T V) (h : Heap) : Res → Option V
  | .tmp t => e.get t
  | .cell t agg k => match e.get t with
    | some (.ptr x o) => match h.get x with
      | some (.cells cs) => match Nat.ble (o + k) cs.length with
        | true => ofCells agg (cut cs o k)
        | false => none
      | _ => none
    | _ => none
  | .bad => none
def ress (e : T V) (h : Heap) : List Res → Option (List V)
  | [] => some []
  | r :: l => match resv e h r, ress e h l with
    | some v, some l => some (v :: l)
    | _, _ => none
def result (e : T V) (h : Heap) (l : List Res) : Option V :=
  match ress e h l with
  | some [v] => some v
  | some vs => some (.tup vs)
  | none => none

def params : Nat → List V → T V → (T V → Bool) → Bool
  | _, [], e, q => q e
  | k, c :: r, e, q => force c fun c => T.putK (some c) deep e k fun e => params (Nat.succ k) r e q

/-- what a call goes on with -/
def onRet (res : List Res) (q : V → Heap → Nat → Bool) : Out → Bool
  | .exit _ _ => false
  | .normal s => match result s.env s.h res with
    | some v => force v fun v => q v s.h s.nx
    | none => false
  | .ret s => match result s.env s.h res with
    | some v => force v fun v => q v s.h s.nx
    | none => false
def enter (go : CCode → S → (Out → Bool) → Bool) (args : List V) (h : Heap) (nx : Nat) (pr : List Nat) (q : V → Heap → Nat → Bool) : Option CFn → Bool
  | some cf => match Nat.ble args.length cf.n with
    | true => params 0 args .e fun e => go cf.code ⟨e, h, nx, pr⟩ (onRet cf.res q)
    | false => false
  | none => false
def fnOf (P : Program) : Option Func → Option CFn
  | some fn => tFn P fn
  | none => none
/-- What is known of functions: where it is told, they are not looked into. -/
abbrev Prims := Nat → Heap → List V → Option V
def callF (P : Program) (prim : Prims) (go : CCode → S → (Out → Bool) → Bool) : Calling := fun f args h nx pr q =>
  match prim f h args with
  | some v => force v fun v => q v h nx
  | none => enter go args h nx pr q (fnOf P P.funcs[f]?)

def runRegion (call : Calling) (l : List COper) (q : Out → Bool) : S → Bool
  | ⟨e, h, nx, pr⟩ => forceN (Nat.add nx l.length) fun nx' => evR call nx l ⟨e, h, nx', pr⟩ fun s => q (.normal s)
def runDrawn (call : Calling) (l : List ROp) (q : Out → Bool) : S → Bool
  | ⟨e, h, nx, pr⟩ => forceN (Nat.add nx l.length) fun nx' => evD call nx l (Nat.sub (Nat.pow 2 l.length) 1) l.length 0 [] ⟨e, h, nx', pr⟩ fun s => q (.normal s)
def thenK (k : S → (Out → Bool) → Bool) (q : Out → Bool) : Out → Bool
  | .normal s => k s q
  | o => q o
def blockK (id : Nat) (q : Out → Bool) : Out → Bool
  | .exit id' s => match Nat.beq id' id with
    | true => q (.normal s)
    | false => q (.exit id' s)
  | o => q o
def condK (a b : Bool) : Option V → Bool
  | some (.raw (.bool true)) => a
  | some (.raw (.bool false)) => b
  | _ => false

/-- Code, to a depth. -/
def run (P : Program) (prim : Prims) : Nat → CCode → S → (Out → Bool) → Bool
  | 0, _, _, _ => false
  | n + 1, c, s, q => match c with
    | .bad => false
    | .skip => q (.normal s)
    | .region l => runRegion (callF P prim (run P prim n)) l q s
    | .drawn l => runDrawn (callF P prim (run P prim n)) l q s
    | .seq a b => run P prim n a s (thenK (run P prim n b) q)
    | .cond x a b => condK (run P prim n a s q) (run P prim n b s q) (opd s.env x)
    | .block id c => run P prim n c s (blockK id q)
    | .loop c => run P prim n c s (thenK (run P prim n (.loop c)) q)
    | .exit id => q (.exit id s)
    | .ret => q (.ret s)

/-- A call from nothing. -/
def start (P : Program) (prim : Prims) (n : Nat) (f : Nat) (args : List V) (q : V → Bool) : Bool :=
  enter (run P prim n) args .e 0 [] (fun v _ _ => q v) (fnOf P P.funcs[f]?)

def isTrue : V → Bool
  | .raw (.bool b) => b
  | _ => false

end Go.VM
end

section
/- The machine VM, part 3: small laws. -/
set_option linter.unusedVariables false
set_option linter.unusedSectionVars false
set_option linter.unusedSimpArgs false
set_option linter.constructorNameAsVariable false
namespace Go.VM
open Go.RowKit
variable [Val]

section inv
variable {w : World} {X : Nat → Prop} {φ : Loc}

theorem rep_raw {v u : Value} (h : Rep w X φ (.raw v) u) : u = v ∧ v.oneCell' = true := by
  cases h with
  | raw _ h => exact ⟨rfl, h⟩
theorem rep_str {bs : List Nat} {u : Value} (h : Rep w X φ (.str bs) u) : ∃ t : ByteArray, u = .string t ∧ t.data.toList.map UInt8.toNat = bs := by
  cases h with
  | str _ t h => exact ⟨t, rfl, h⟩
theorem rep_agg {cs : List V} {u : Value} (h : Rep w X φ (.agg cs) u) : ∃ vs : List Value, u = .agg vs.toArray ∧ cs.length = vs.length ∧ ∀ (i : Nat) (c : V) (v : Value), cs[i]? = some c → vs[i]? = some v → Rep w X φ c v := by
  cases h with
  | agg _ vs hl h => exact ⟨vs, rfl, hl, h⟩
theorem rep_tup {cs : List V} {u : Value} (h : Rep w X φ (.tup cs) u) : ∃ vs : List Value, u = .tuple vs.toArray ∧ cs.length = vs.length ∧ ∀ (i : Nat) (c : V) (v : Value), cs[i]? = some c → vs[i]? = some v → Rep w X φ c v := by
  cases h with
  | tup _ vs hl h => exact ⟨vs, rfl, hl, h⟩
theorem rep_sl {x sz off len : Nat} {cap : Option Nat} {u : Value} (h : Rep w X φ (.sl x sz off len cap) u) : ∃ ad c, u = .slice (some ad) len c ∧ ad.spot = none ∧ φ x ≠ none ∧ ∀ b, φ x = some (some b) → (0 < c → ad = ⟨b, off, none⟩) ∧ Room w b sz off len cap c := by
  cases h with
  | sl _ _ _ _ _ ad c hs hd h => exact ⟨ad, c, rfl, hs, hd, h⟩
theorem rep_emp {u : Value} (h : Rep w X φ .emp u) : ∃ ad, u = .slice (some ad) 0 0 := by
  cases h with
  | emp ad => exact ⟨ad, rfl⟩
theorem rep_ptr {x o : Nat} {u : Value} (h : Rep w X φ (.ptr x o) u) : ∃ ad, u = .pointer (some ad) ∧ ad.spot = none ∧ φ x ≠ none ∧ ∀ b, φ x = some (some b) → ad = ⟨b, o, none⟩ := by
  cases h with
  | ptr _ _ ad hs hd h => exact ⟨ad, rfl, hs, hd, h⟩
theorem rep_mp {x : Nat} {u : Value} (h : Rep w X φ (.mp x) u) : ∃ r, u = .map (some r) ∧ φ x ≠ none ∧ ∀ b, φ x = some (some b) → r = b := by
  cases h with
  | mp _ r hd h => exact ⟨r, rfl, hd, h⟩
theorem rep_fpt {k : Nat} {g : Nat → V} {u : Value} (h : Rep w X φ (.fpt k g) u) : ∃ (ad : Addr) (val : Nat → Value), u = .pointer (some ad) ∧ ad.spot = none ∧ ¬ X ad.block ∧ ad.block < w.heap.size ∧
    (∀ c, c < k → w.cell? ⟨ad.block, ad.off + c, none⟩ = some (val c)) ∧ (∀ c, c < k → Rep w X φ (g c) (val c)) ∧ ∀ c, c < k → (g c).nl 4 = true := by
  cases h with
  | fpt _ _ ad val hs hx hlt hr h hn => exact ⟨ad, val, rfl, hs, hx, hlt, hr, h, hn⟩
theorem rep_fn {f : Fn} {p q : List V} {u : Value} (h : Rep w X φ (.fn f p q) u) : ∃ vs us : List Value, u = .func f vs.toArray us.toArray ∧ p.length = vs.length ∧ q.length = us.length ∧
    (∀ (i : Nat) (c : V) (v : Value), p[i]? = some c → vs[i]? = some v → Rep w X φ c v) ∧ ∀ (i : Nat) (c : V) (v : Value), q[i]? = some c → us[i]? = some v → Rep w X φ c v := by
  cases h with
  | fn _ _ _ vs us hl hl' h h' => exact ⟨vs, us, rfl, hl, hl', h, h'⟩

theorem rep_i {k : IntKind} {n : Int} {u : Value} (h : Rep w X φ (.raw (.int k n)) u) : u = .int k n := (rep_raw h).1
theorem rep_b {b : Bool} {u : Value} (h : Rep w X φ (.raw (.bool b)) u) : u = .bool b := (rep_raw h).1
theorem mk_i {k : IntKind} {n : Int} : Rep w X φ (.raw (.int k n)) (.int k n) := .raw _ rfl
theorem mk_b {b : Bool} : Rep w X φ (.raw (.bool b)) (.bool b) := .raw _ rfl

/-- one cell: one cell's value -/
theorem rep_one {c : V} {v : Value} (h : Rep w X φ c v) (ho : c.one = true) : v.oneCell' = true := by
  cases h <;> first | assumption | rfl | cases ho

theorem allOne_mem : ∀ {l : List V}, allOne l = true → ∀ c ∈ l, c.one = true
  | [], _, c, hc => by cases hc
  | d :: r, h, c, hc => by
    simp only [allOne] at h
    split at h
    · rename_i hd
      rcases List.mem_cons.1 hc with rfl | hc
      · exact hd
      · exact allOne_mem h c hc
    · cases h

/-- a value's cells -/
theorem rep_cells {c : V} {v : Value} (h : Rep w X φ c v) (ho : allOne c.cells = true) : c.cells.length = v.cells.size ∧ ∀ (i : Nat) (d : V) (u : Value), c.cells[i]? = some d → v.cells[i]? = some u → Rep w X φ d u ∧ u.oneCell' = true := by
  have ho' := allOne_mem ho
  have single : c.cells = [c] → c.cells.length = v.cells.size ∧ ∀ (i : Nat) (d : V) (u : Value), c.cells[i]? = some d → v.cells[i]? = some u → Rep w X φ d u ∧ u.oneCell' = true := fun hc => by
    have h1 := rep_one h (ho' c (by rw [hc]; simp))
    have hv : v.cells = #[v] := by cases v <;> first | rfl | cases h1
    rw [hc, hv]
    refine ⟨rfl, fun i d u h2 h3 => ?_⟩
    cases i with
    | zero => simp at h2 h3; subst h2; subst h3; exact ⟨h, h1⟩
    | succ i => simp at h2
  cases c with
  | agg cs =>
    obtain ⟨vs, rfl, hl, h⟩ := rep_agg h
    refine ⟨by simpa [Value.cells, V.cells] using hl, fun i d u h1 h2 => ?_⟩
    have hd : Rep w X φ d u := h i d u h1 (by simpa [Value.cells] using h2)
    exact ⟨hd, rep_one hd (ho' d (List.mem_of_getElem? h1))⟩
  | _ => exact single rfl

end inv

/-- A number of a place of a list. -/
theorem getD_lt {α : Type} {l : List α} {i : Nat} {d : α} (h : i < l.length) : l[i]? = some (l.getD i d) := by
  simp [List.getD_eq_getElem?_getD, h]

section
variable {P : Program} {N : Nat} {B : Nat → Prop} {G : Nat → Nat → Value → Prop} {fr : Nat → Prop} {φ : Loc} {a : Act} {w : World} {e : T V} {h : Heap} {nx : Nat} {pr : List Nat}

theorem oneCell_toV {v : Value} {c : V} (hc : toV v = some c) : Rep w (Excl B φ) φ c v := by
  unfold toV at hc
  split at hc <;> first | (cases hc; done) | (injection hc with hc; subst hc)
  · exact .str _ _ rfl
  all_goals exact .raw _ rfl

theorem RelAt.opd (R : RelAt N B G fr φ ⟨e, h, nx, pr⟩ a w) {x : Operand} {c : V} (hc : VM.opd e (tOpd x) = some c) : Rep w (Excl B φ) φ c (a.eval x) := by
  cases x with
  | tmp t => exact (R.env t c hc).2
  | const v =>
    simp only [tOpd] at hc
    split at hc
    · rename_i d hd
      simp only [VM.opd] at hc
      injection hc with hc
      subst hc
      exact oneCell_toV hd
    · cases hc
  | func f =>
    simp only [tOpd, VM.opd] at hc
    injection hc with hc
    subst hc
    exact .fn _ [] [] [] [] rfl rfl (fun i c v h1 => by cases h1) fun i c v h1 => by cases h1
  | global g => cases hc

theorem RelAt.opds (R : RelAt N B G fr φ ⟨e, h, nx, pr⟩ a w) : ∀ {xs : List Operand} {cs : List V}, VM.opds e (tOpds xs) = some cs → cs.length = xs.length ∧ ∀ (i : Nat) (c : V) (v : Value), cs[i]? = some c → (xs.map a.eval)[i]? = some v → Rep w (Excl B φ) φ c v
  | [], cs, h => by simp only [tOpds, VM.opds] at h; injection h with h; subst h; exact ⟨rfl, fun i c v h1 => by cases h1⟩
  | x :: r, cs, h => by
    simp only [tOpds, VM.opds] at h
    split at h
    · rename_i c d hc hd
      injection h with he
      subst he
      obtain ⟨h1, h2⟩ := RelAt.opds R hd
      refine ⟨by simp [h1], fun i c' v h3 h4 => ?_⟩
      cases i with
      | zero => simp at h3 h4; subst h3; subst h4; exact R.opd hc
      | succ i => exact h2 i c' v (by simpa using h3) (by simpa using h4)
    · cases h

theorem HeapAt.less (R : HeapAt B G fr φ h w) {fr' : Nat → Prop} (hf : ∀ x, fr' x → fr x) : HeapAt B G fr' φ h w := { R with free := fun x hx => R.free x (hf x hx) }
theorem RelAt.less (R : RelAt N B G fr φ ⟨e, h, nx, pr⟩ a w) {fr' : Nat → Prop} (hf : ∀ x, fr' x → fr x) {nx' : Nat} {pr' : List Nat} : RelAt N B G fr' φ ⟨e, h, nx', pr'⟩ a w := { R.toHeapAt.less hf, R with free := fun x hx => R.free x (hf x hx) }

/-- the slots, but that one is written -/
def PutO (e : T V) (dst : Option Nat) (c : V) (e' : T V) : Prop := match dst with | some d => Put e d (some c) e' | none => e' = e

/-- Into a slot. -/
theorem setO_spec {dst : Option Nat} {c : V} {q : T V → Bool} (hq : setO e dst c q = true) : ∃ e', PutO e dst c e' ∧ q e' = true := by
  unfold setO at hq
  cases dst with
  | none => exact ⟨e, rfl, hq⟩
  | some d =>
    simp only [force_eq] at hq
    exact T.putK_spec hq

theorem RelAt.put (R : RelAt N B G fr φ ⟨e, h, nx, pr⟩ a w) {dst : Option Nat} (hd : ∀ d, dst = some d → d < N) {c : V} {v : Value} (hr : Rep w (Excl B φ) φ c v) {e' : T V} (he : PutO e dst c e') :
    RelAt N B G fr φ ⟨e', h, nx, pr⟩ (a.put dst v) w := by
  cases dst with
  | none => simp only [PutO] at he; subst he; exact R
  | some d =>
    simp only [PutO] at he
    have hdN := hd d rfl
    exact
    { R with
      size := by simp [Act.put, R.size]
      defers := by simp [Act.put, R.defers]
      env := fun t c' hc => by
        dsimp only at hc
        rw [he t] at hc
        split at hc
        · rename_i htd
          subst htd
          injection hc with hc
          subst hc
          refine ⟨hdN, ?_⟩
          have hs : t < a.tmps.size := by rw [R.size]; exact hdN
          have : (a.put (some t) v).tmps.getD t undef = v := by simp [Act.put, Array.getD, hs]
          rw [this]; exact hr
        · rename_i hne
          obtain ⟨h1, h2⟩ := R.env t c' hc
          refine ⟨h1, ?_⟩
          have : (a.put (some d) v).tmps.getD t undef = a.tmps.getD t undef := by
            simp [Act.put, Array.getD_eq_getD_getElem?, Array.getElem?_setIfInBounds_ne (fun h => hne h.symm)]
          rw [this]; exact h2 }

/-- A step of the world. -/
theorem HeapAt.step (R : HeapAt B G fr φ h w) {φ' : Loc} {w' : World} {h' : Heap} {fr' : Nat → Prop} (F : Fwd pr φ w φ' w')
    (hst : ∀ x k, h'.get x = some k → (h.get x = some k ∧ φ' x = φ x ∧ ∀ b, φ x = some (some b) → w'.heap[b]? = w.heap[b]?) ∨ ∃ b, φ' x = some (some b) ∧ BlkAt w' (Excl B φ') φ' b k)
    (hinj : ∀ x y b, φ' x = some (some b) → φ' y = some (some b) → x = y) (hlt : ∀ x b, φ' x = some (some b) → b < w'.heap.size ∧ ¬ B b) (hfree : ∀ x, fr' x → φ' x = none) : HeapAt B G fr' φ' h' w' where
  st := fun x k hk => by
    rcases hst x k hk with ⟨h1, h2, h3⟩ | h1
    · obtain ⟨b, hb, hB⟩ := R.st x k h1
      exact ⟨b, h2.trans hb, F.keeps.blk (h3 b hb) hB⟩
    · exact h1
  inj := hinj
  lt := hlt
  ltB := fun b hb => Nat.lt_of_lt_of_le (R.ltB b hb) F.size
  free := hfree
  gl := fun b o v hg => by
    obtain ⟨⟨h1, h0⟩, h2⟩ := R.gl b o v hg
    refine ⟨⟨Nat.lt_of_lt_of_le h1 F.size, fun x hx => ?_⟩, ?_⟩
    · rcases F.new x b hx with ⟨y, hy, _⟩ | hge
      · exact h0 y hy
      · omega
    · rw [← h2]
      simp only [World.cell?]
      rw [F.block b h1 fun x hx => absurd hx (h0 x)]

theorem RelAt.step (R : RelAt N B G fr φ ⟨e, h, nx, pr⟩ a w) {φ' : Loc} {w' : World} {h' : Heap} {fr' : Nat → Prop} {pr' pr'' : List Nat} {nx' : Nat} (F : Fwd pr' φ w φ' w') (H : HeapAt B G fr' φ' h' w') : RelAt N B G fr' φ' ⟨e, h', nx', pr''⟩ a w' :=
  { H with size := R.size, defers := R.defers, env := fun t c hc => ⟨(R.env t c hc).1, F.rep (R.env t c hc).2⟩ }

/-- a name more -/
def Loc.ext (φ : Loc) (x : Nat) (v : Option Nat) : Loc := fun y => if y = x then some v else φ y
theorem Loc.ext_same (φ : Loc) (x : Nat) (v : Option Nat) : φ.ext x v x = some v := by simp [Loc.ext]
theorem Loc.ext_ne (φ : Loc) (x : Nat) (v : Option Nat) {y : Nat} (h : y ≠ x) : φ.ext x v y = φ y := by simp [Loc.ext, h]

/-- A world in which nothing of what is there has changed, but there may be more; and a name for a block that is new. -/
theorem HeapAt.more (R : HeapAt B G fr φ h w) {w' : World} (hs : w.heap.size ≤ w'.heap.size) (hb : ∀ b, b < w.heap.size → w'.heap[b]? = w.heap[b]?) (ho : w'.os = w.os) (ht : w'.tape = w.tape) (hu : w'.output = w.output)
    {nm : Nat} (hf : fr nm) {n : Nat} (hn : w.heap.size ≤ n ∧ n < w'.heap.size) : Fwd pr φ w (φ.ext nm (some n)) w' ∧ HeapAt B G (fun x => fr x ∧ x ≠ nm) (φ.ext nm (some n)) h w' := by
  have hnone := R.free nm hf
  have hin : ∀ x b, φ.ext nm (some n) x = some (some b) → (x ≠ nm ∧ φ x = some (some b)) ∨ (x = nm ∧ b = n) := by
    intro x b h
    unfold Loc.ext at h
    split at h
    · rename_i hx; injection h with h; injection h with h; exact .inr ⟨hx, h.symm⟩
    · rename_i hx; exact .inl ⟨hx, h⟩
  have F : Fwd pr φ w (φ.ext nm (some n)) w' := ⟨ho, ht, hu, hs, fun b h _ => hb b h, fun x b h => by
      rcases hin x b h with ⟨_, h⟩ | ⟨_, rfl⟩
      · exact .inl ⟨x, h, .inl rfl⟩
      · exact .inr hn.1, fun x v hx => .inl (by rw [φ.ext_ne nm (some n) (fun h => by subst h; rw [hnone] at hx; cases hx)]; exact hx), keep_of hb⟩
  refine ⟨F, R.step F (fun x k hk => .inl ⟨hk, φ.ext_ne nm (some n) (fun h => ?_), fun b h => hb b (R.lt x b h).1⟩) (fun x y b h1 h2 => ?_) (fun x b h => ?_) fun x hx => by rw [φ.ext_ne nm (some n) hx.2]; exact R.free x hx.1⟩
  · subst h
    obtain ⟨b, h1, _⟩ := R.st x k hk
    rw [hnone] at h1; cases h1
  · rcases hin x b h1 with ⟨_, h3⟩ | ⟨e1, h3⟩ <;> rcases hin y b h2 with ⟨_, h4⟩ | ⟨e3, h4⟩
    · exact R.inj x y b h3 h4
    · have := (R.lt x b h3).1; omega
    · have := (R.lt y b h4).1; omega
    · exact e1.trans e3.symm
  · rcases hin x b h with ⟨_, h⟩ | ⟨_, rfl⟩
    · have := R.lt x b h; exact ⟨by omega, this.2⟩
    · exact ⟨hn.2, fun hB => by have := R.ltB b hB; omega⟩

/-- ... and what is in it -/
theorem HeapAt.add (R : HeapAt B G fr φ h w) {x b : Nat} (hx : φ x = some (some b)) {k : Blk} (hk : BlkAt w (Excl B φ) φ b k) {h' : Heap} (hp : Put h x (some k) h') : HeapAt B G fr φ h' w :=
  { R with
    st := fun y k' hk' => by
      rw [hp y] at hk'
      split at hk'
      · rename_i hy
        subst hy
        injection hk' with hk'
        subst hk'
        exact ⟨b, hx, hk⟩
      · exact R.st y k' hk' }

theorem alloc_at (w : World) (o : Obj) : (w.alloc o).heap[w.heap.size]? = some o := by
  show (w.heap.push o)[w.heap.size]? = some o
  simp

theorem drew_alloc_at (w : World) (o : Obj) : (w.drew.alloc o).heap[w.heap.size]? = some o := alloc_at w.drew o

/-- names that are free: those kept for later (U), and all from nx on -/
def FR (U : Nat → Prop) (nx : Nat) : Nat → Prop := fun x => U x ∨ nx ≤ x

/-- what is said behind a piece of work: it went on from what was -/
def After (N : Nat) (B : Nat → Prop) (G : Nat → Nat → Value → Prop) (U : Nat → Prop) (pr : List Nat) (nx : Nat) (φ : Loc) (w : World) (q : S → Bool) (a' : Act) (w' : World) : Prop :=
  ∃ s' φ', q s' = true ∧ RelAt N B G (FR U s'.nx) φ' s' a' w' ∧ s'.pr = pr ∧ nx ≤ s'.nx ∧ Fwd pr φ w φ' w'

variable {U : Nat → Prop}

theorem fr_less {nm : Nat} (hU : nm < nx) {x : Nat} (h : FR (fun x => U x ∧ x ≠ nm) nx x) : FR U nx x ∧ x ≠ nm := by
  rcases h with ⟨h1, h2⟩ | h
  · exact ⟨.inl h1, h2⟩
  · exact ⟨.inr h, by omega⟩

/-- A new block, and a value. -/
theorem out_new (R : RelAt N B G (FR U nx) φ ⟨e, h, nx, pr⟩ a w) {nm : Nat} (hf : U nm) (hU : nm < nx) {w' : World} {n : Nat} (hs : w.heap.size ≤ w'.heap.size) (hb : ∀ b, b < w.heap.size → w'.heap[b]? = w.heap[b]?) (ho : w'.os = w.os) (ht : w'.tape = w.tape) (hu : w'.output = w.output) (hn : w.heap.size ≤ n ∧ n < w'.heap.size)
    {k : Blk} (hk : ∀ φ', (∀ c v, Rep w (Excl B φ) φ c v → Rep w' (Excl B φ') φ' c v) → φ' nm = some (some n) → BlkAt w' (Excl B φ') φ' n k) {c : V} {v : Value} (hc : ∀ φ', (∀ c v, Rep w (Excl B φ) φ c v → Rep w' (Excl B φ') φ' c v) → φ' nm = some (some n) → Rep w' (Excl B φ') φ' c v)
    {dst : Option Nat} (hd : ∀ d, dst = some d → d < N) {q : S → Bool} (hq : VM.out ⟨e, h, nx, pr⟩ dst nm c (some k) q = true) : After N B G (fun x => U x ∧ x ≠ nm) pr nx φ w q (a.put dst v) w' := by
  simp only [VM.out, forceBlk_eq] at hq
  obtain ⟨h', hp, hq⟩ := T.putK_spec hq
  obtain ⟨e', he, hq⟩ := setO_spec hq
  obtain ⟨F, H⟩ := R.toHeapAt.more (pr := pr) hs hb ho ht hu (.inl hf) hn
  have hrep : ∀ c v, Rep w (Excl B φ) φ c v → Rep w' (Excl B (φ.ext nm (some n))) (φ.ext nm (some n)) c v := fun c v h => F.rep h
  have H' := H.add (Loc.ext_same _ _ _) (hk _ hrep (Loc.ext_same _ _ _)) hp
  exact ⟨_, _, hq, ((R.step (pr'' := pr) (nx' := nx) F H').put hd (hc _ hrep (Loc.ext_same _ _ _)) he).less fun x hx => fr_less hU hx, rfl, Nat.le_refl _, F⟩

/-- A value, in the world as it is. -/
theorem out_same (R : RelAt N B G (FR U nx) φ ⟨e, h, nx, pr⟩ a w) {nm : Nat} {c : V} {v : Value} (hc : Rep w (Excl B φ) φ c v) {dst : Option Nat} (hd : ∀ d, dst = some d → d < N) {q : S → Bool} (hq : VM.out ⟨e, h, nx, pr⟩ dst nm c none q = true) : After N B G U pr nx φ w q (a.put dst v) w := by
  simp only [VM.out] at hq
  obtain ⟨e', he, hq⟩ := setO_spec hq
  exact ⟨_, _, hq, R.put hd hc he, rfl, Nat.le_refl _, Fwd.refl _ _ _⟩

theorem After.less {U' : Nat → Prop} {q : S → Bool} {a' : Act} {w' : World} (h : After N B G U pr nx φ w q a' w') (hf : ∀ x, U' x → U x) : After N B G U' pr nx φ w q a' w' := by
  obtain ⟨⟨e', h', nx', pr'⟩, φ', h1, h2, h3, h4, h5⟩ := h
  exact ⟨_, φ', h1, h2.less fun x hx => hx.imp (hf x) id, h3, h4, h5⟩

/-- work behind a step of the world -/
theorem After.from {φ₁ : Loc} {w₁ : World} {q : S → Bool} {a' : Act} {w' : World} (F : Fwd pr φ w φ₁ w₁) (h : After N B G U pr nx φ₁ w₁ q a' w') : After N B G U pr nx φ w q a' w' := by
  obtain ⟨s', φ', h1, h2, h3, h4, h5⟩ := h
  exact ⟨s', φ', h1, h2, h3, h4, F.trans h5⟩

theorem memN_not : ∀ {l : List Nat} {x : Nat}, memN x l = false → x ∉ l
  | [], x, _, h => by cases h
  | y :: r, x, h, hm => by
    simp only [memN] at h
    split at h
    · cases h
    · rename_i hb
      rcases List.mem_cons.1 hm with rfl | hm
      · exact Nat.ne_of_beq_eq_false hb rfl
      · exact memN_not h hm

theorem setB_spec {x : Nat} {b : Option Blk} {q : S → Bool} (hq : setB ⟨e, h, nx, pr⟩ x b q = true) : x ∉ pr ∧ ∃ h', Put h x b h' ∧ q ⟨e, h', nx, pr⟩ = true := by
  simp only [setB] at hq
  split at hq
  · cases hq
  · rename_i hm
    refine ⟨memN_not hm, ?_⟩
    split at hq
    · rw [forceBlk_eq] at hq; exact T.putK_spec hq
    · exact T.putK_spec hq

/-- A block is written. -/
theorem HeapAt.write (R : HeapAt B G fr φ h w) {x b : Nat} (hx : φ x = some (some b)) (hpr : x ∉ pr) {w' : World} (hs : w'.heap.size = w.heap.size) (ho : ∀ c, c ≠ b → w'.heap[c]? = w.heap[c]?) (ho' : w'.os = w.os) (ht : w'.tape = w.tape) (hu : w'.output = w.output)
    (hk : ∀ (cs : Array Value) (e : TypeId) (z : Nat × Nat), w.heap[b]? = some (.cells cs e z) → ∃ cs' e' z', w'.heap[b]? = some (.cells cs' e' z') ∧ cs'.size = cs.size)
    {k : Blk} (hbl : (∀ c v, Rep w (Excl B φ) φ c v → Rep w' (Excl B φ) φ c v) → BlkAt w' (Excl B φ) φ b k) {h' : Heap} (hp : Put h x (some k) h') : Fwd pr φ w φ w' ∧ HeapAt B G fr φ h' w' := by
  have F : Fwd pr φ w φ w' := ⟨ho', ht, hu, Nat.le_of_eq hs.symm, fun c hc hn => ho c fun e => hpr (hn x (e ▸ hx)), fun y c hy => .inl ⟨y, hy, .inl rfl⟩, fun y v hy => .inl hy, fun c cs e z hc => by
    by_cases hcb : c = b
    · subst hcb; exact hk cs e z hc
    · exact ⟨cs, e, z, (ho c hcb).trans hc, rfl⟩⟩
  refine ⟨F, R.step F (fun y k' hk' => ?_) R.inj (fun y c hc => ?_) R.free⟩
  · rw [hp y] at hk'
    split at hk'
    · rename_i hy
      subst hy
      injection hk' with hk'
      subst hk'
      exact .inr ⟨b, hx, hbl fun c v hr => F.rep hr⟩
    · rename_i hy
      exact .inl ⟨hk', rfl, fun c hc => ho c fun e => hy (R.inj y x b (e ▸ hc) hx)⟩
  · have := R.lt y c hc; rw [hs]; exact this

/-- nothing is told of the value -/
theorem void_spec (R : RelAt N B G (FR U nx) φ ⟨e, h, nx, pr⟩ a w) {dst : Option Nat} (hd : ∀ d, dst = some d → d < N) {q : S → Bool} (hq : void dst q ⟨e, h, nx, pr⟩ = true) (v : Value) : After N B G U pr nx φ w q (a.put dst v) w := by
  simp only [void] at hq
  obtain ⟨e', he, hq⟩ := setO_spec hq
  exact ⟨_, _, hq, R.put hd (.any _) he, rfl, Nat.le_refl _, Fwd.refl _ _ _⟩

end
end Go.VM
end

section
/- The machine VM, part 4: operations on values. -/
set_option linter.unusedVariables false
set_option linter.unusedSectionVars false
set_option linter.unusedSimpArgs false
set_option linter.constructorNameAsVariable false
namespace Go.VM
open Go.RowKit
variable [Val]

theorem eqI_eq (a b : Int) : eqI a b = (a == b) := by
  have hb : ∀ m n : Nat, Nat.beq m n = decide (m = n) := fun m n => by
    by_cases h : m = n
    · subst h; simp
    · rw [decide_eq_false h]
      cases hh : Nat.beq m n with
      | true => exact absurd (Nat.eq_of_beq_eq_true hh) h
      | false => rfl
  rw [Bool.eq_iff_iff, beq_iff_eq]
  cases a <;> cases b <;> simp only [eqI, hb, decide_eq_true_eq]
  · constructor
    · intro h; subst h; rfl
    · intro h; injection h
  · constructor
    · intro h; cases h
    · intro h; cases h
  · constructor
    · intro h; cases h
    · intro h; cases h
  · constructor
    · intro h; subst h; rfl
    · intro h; injection h
theorem eqI_iff {a b : Int} : eqI a b = true ↔ a = b := by rw [eqI_eq]; simp
theorem ltI_eq (a b : Int) : ltI a b = decide (a < b) := by
  have hb : ∀ m n : Nat, Nat.blt m n = decide (m < n) := fun m n => by
    by_cases h : m < n
    · rw [decide_eq_true h]; exact Nat.ble_eq_true_of_le h
    · rw [decide_eq_false h]
      cases hh : Nat.blt m n with
      | true => exact absurd (Nat.le_of_ble_eq_true hh) h
      | false => rfl
  cases a <;> cases b <;> simp only [ltI, hb]
  · rename_i m n; simp
  · rename_i m n; symm; rw [decide_eq_false_iff_not]; simp only [Int.ofNat_eq_natCast]; omega
  · rename_i m n; symm; rw [decide_eq_true_iff]; simp only [Int.ofNat_eq_natCast]; omega
  · rename_i m n; by_cases h : n < m
    · rw [decide_eq_true h, decide_eq_true]; omega
    · rw [decide_eq_false h, decide_eq_false]; omega
theorem eqB_eq (a b : Bool) : eqB a b = (a == b) := by cases a <;> cases b <;> rfl
theorem eqL_iff : ∀ {a b : List Nat}, eqL a b = true ↔ a = b
  | [], [] => by simp [eqL]
  | [], _ :: _ => by simp [eqL]
  | _ :: _, [] => by simp [eqL]
  | a :: r, b :: s => by
    simp only [eqL]
    split
    · rename_i h; have := Nat.eq_of_beq_eq_true h; subst this; rw [eqL_iff]; simp
    · rename_i h; have := Nat.ne_of_beq_eq_false h; simp [this]

theorem wrap_i64 (n : Int) : IntKind.i64.wrap n = if n % 18446744073709551616 ≥ 9223372036854775808 then n % 18446744073709551616 - 18446744073709551616 else n % 18446744073709551616 := by
  have h1 : (2 : Int) ^ 64 = 18446744073709551616 := rfl
  have h2 : (2 : Int) ^ (64 - 1) = 9223372036854775808 := rfl
  simp only [IntKind.wrap, IntKind.bits, IntKind.signed, Bool.true_and, decide_eq_true_eq, h1, h2]
theorem wrap_u64 (n : Int) : IntKind.u64.wrap n = n % 18446744073709551616 := by
  have h1 : (2 : Int) ^ 64 = 18446744073709551616 := rfl
  simp only [IntKind.wrap, IntKind.bits, IntKind.signed, Bool.false_and, h1]
  rfl

theorem wr_eq (k : IntKind) (n : Int) : wr k n = k.wrap n := by
  have hlt : ∀ {m c : Nat}, Nat.blt m c = true → m < c := fun h => Nat.le_of_ble_eq_true h
  unfold wr
  cases k <;> try rfl
  · cases n with
    | ofNat m =>
      dsimp only
      split
      · rename_i h
        have := hlt h
        rw [wrap_i64]
        simp only [Int.ofNat_eq_natCast]
        split <;> omega
      · rfl
    | negSucc m =>
      dsimp only
      split
      · rename_i h
        have := hlt h
        rw [wrap_i64, Int.negSucc_eq]
        split <;> omega
      · rfl
  · cases n with
    | ofNat m =>
      dsimp only
      split
      · rename_i h
        have := hlt h
        rw [wrap_u64]
        simp only [Int.ofNat_eq_natCast]
        omega
      · rfl
    | negSucc m => rfl

theorem bits_eq (op : BinOp) (k : IntKind) (a b : Int) : bits op k a b = match op with
    | .and => k.wrap (BitVec.ofInt k.bits a &&& BitVec.ofInt k.bits b).toNat
    | .or => k.wrap (BitVec.ofInt k.bits a ||| BitVec.ofInt k.bits b).toNat
    | _ => k.wrap (BitVec.ofInt k.bits a ^^^ BitVec.ofInt k.bits b).toNat := by
  unfold bits
  split
  · rename_i m n
    split
    · rename_i h
      simp only [Bool.and_eq_true] at h
      have hm : m < 2 ^ 63 := Nat.le_of_ble_eq_true h.1
      have hn : n < 2 ^ 63 := Nat.le_of_ble_eq_true h.2
      have e : ∀ j : Nat, j < 2 ^ 63 → IntKind.i64.wrap (j : Int) = j := fun j hj => by
        rw [wrap_i64]; split <;> omega
      have eb : ∀ j : Nat, j < 2 ^ 63 → (BitVec.ofInt IntKind.i64.bits (Int.ofNat j)).toNat = j := fun j hj => by
        show (BitVec.ofInt 64 (j : Int)).toNat = j
        rw [BitVec.ofInt_natCast, BitVec.toNat_ofNat]
        exact Nat.mod_eq_of_lt (by omega)
      cases op <;> dsimp only <;> first
        | (rw [BitVec.toNat_and, eb m hm, eb n hn, e _ (Nat.lt_of_le_of_lt Nat.and_le_left hm)]; rfl)
        | (rw [BitVec.toNat_or, eb m hm, eb n hn, e _ (Nat.or_lt_two_pow hm hn)]; rfl)
        | (rw [BitVec.toNat_xor, eb m hm, eb n hn, e _ (Nat.xor_lt_two_pow hm hn)]; rfl)
    · cases op <;> rfl
  · cases op <;> rfl

section
variable {P : Program} {w : World} {X : Nat → Prop} {φ : Loc}

theorem yes_rep {b : Bool} {c : V} (h : yes b = some c) : Rep w X φ c (.bool b) := by
  simp only [yes, Option.some.injEq] at h
  subst h
  exact mk_b

theorem binI_run {op : BinOp} {k : IntKind} {x y : Int} {c : V} (h : binI op k x y = some c) (t : TypeId) : ∃ v, (∀ w', (binOp op t (.int k x) (.int k y)).run P w' = .ok v w') ∧ Rep w X φ c v := by
  cases op <;> simp only [binI] at h <;> first
    | (cases h; done)
    | (injection h with h
       subst h
       refine ⟨_, fun w' => ?_, mk_i⟩
       simp only [wr_eq, bits_eq]
       simp [binOp, Op.intArith, Op.intBits, Op.intCmp]
       done)
    | (injection h with h
       subst h
       refine ⟨_, fun w' => ?_, mk_i⟩
       simp only [wr_eq, bits_eq]
       simp [binOp, Op.intArith, Op.intBits, Op.intCmp]
       rfl)
    | (injection h with h
       subst h
       refine ⟨_, fun w' => ?_, mk_i⟩
       simp [binOp, Op.intArith, Op.intBits, Op.intCmp]
       done)
    | (refine ⟨_, fun w' => ?_, yes_rep h⟩
       simp only [eqI_eq, ltI_eq]
       simp [binOp, Op.intCmp]
       done)
    | (refine ⟨_, fun w' => ?_, yes_rep h⟩
       simp only [eqI_eq, ltI_eq]
       simp [binOp, Op.intCmp]
       rfl)
    | (refine ⟨_, fun w' => ?_, yes_rep h⟩
       simp only [eqI_eq, ltI_eq]
       simp only [binOp, Op.intCmp]
       simp
       omega)
    | (split at h
       · cases h
       · rename_i hb
         injection h with h
         subst h
         have h0 : ¬ y = 0 := fun e => by subst e; simp [eqI] at hb
         refine ⟨_, fun w' => ?_, mk_i⟩
         try simp only [wr_eq]
         simp [binOp, Op.intDiv, h0])
    | (refine ⟨_, fun w' => ?_, yes_rep h⟩
       simp only [ltI_eq, ← decide_not, Int.not_lt]
       simp [binOp, Op.intCmp])
    | (refine ⟨_, fun w' => ?_, yes_rep h⟩
       simp only [ltI_eq, ← decide_not, Int.not_lt]
       simp [binOp, Op.intCmp]
       rfl)

theorem shI_run {op : BinOp} {k k' : IntKind} {x y : Int} {c : V} (h : shI op k x y = some c) (t : TypeId) : ∃ v, (∀ w', (binOp op t (.int k x) (.int k' y)).run P w' = .ok v w') ∧ Rep w X φ c v := by
  unfold shI at h
  split at h
  · rename_i h0
    injection h with h; subst h
    rw [ltI_eq, decide_eq_false_iff_not] at h0
    exact ⟨_, fun w' => by simp only [wr_eq]; simp [binOp, Op.shift, h0], mk_i⟩
  · rename_i h0
    injection h with h; subst h
    rw [ltI_eq, decide_eq_false_iff_not] at h0
    exact ⟨_, fun w' => by simp [binOp, Op.shift, h0], mk_i⟩
  · cases h

theorem asks_run {op : BinOp} {b : Bool} {c : V} {t : TypeId} {u v : Value} (h : asks op b = some c) (he : ∀ w', (binOp .eql t u v).run P w' = .ok (.bool b) w') (hn : ∀ w', (binOp .neq t u v).run P w' = .ok (.bool (!b)) w') : ∃ r, (∀ w', (binOp op t u v).run P w' = .ok r w') ∧ Rep w X φ c r := by
  cases op <;> simp only [asks] at h <;> first
    | (cases h; done)
    | exact ⟨_, he, yes_rep h⟩
    | exact ⟨_, hn, yes_rep h⟩

theorem map_toNat_inj : ∀ {a b : List UInt8}, a.map UInt8.toNat = b.map UInt8.toNat → a = b
  | [], [], _ => rfl
  | [], _ :: _, h => by simp at h
  | _ :: _, [], h => by simp at h
  | x :: a, y :: b, h => by
    simp only [List.map_cons, List.cons.injEq] at h
    rw [map_toNat_inj h.2, UInt8.toNat_inj.1 h.1]

theorem toList_data (s : ByteArray) : s.toList = s.data.toList := ByteArray.toList_eq s

theorem eqL_bytes {s t : ByteArray} {a b : List Nat} (ha : s.data.toList.map UInt8.toNat = a) (hb : t.data.toList.map UInt8.toNat = b) : eqL a b = (s.toList == t.toList) := by
  subst ha; subst hb
  rw [toList_data, toList_data, Bool.eq_iff_iff, eqL_iff]
  constructor
  · intro h; rw [map_toNat_inj h]; simp
  · intro h; rw [beq_iff_eq] at h; rw [h]

/-! structs of plain cells -/

theorem nilP_spec {c : V} {b : Bool} {v : Value} (h : nilP c = some b) (hr : Rep w X φ c v) : ∃ ad, v = .pointer ad ∧ b = ad.isNone := by
  unfold nilP at h
  split at h <;> first | (cases h; done) | (injection h with h; subst h)
  · exact ⟨none, rep_raw hr |>.1, rfl⟩
  · obtain ⟨ad, rfl, _⟩ := rep_ptr hr; exact ⟨_, rfl, rfl⟩
  · obtain ⟨ad, _, rfl, _⟩ := rep_fpt hr; exact ⟨_, rfl, rfl⟩
theorem nilS_spec {c : V} {b : Bool} {v : Value} (h : nilS c = some b) (hr : Rep w X φ c v) : ∃ ad n c, v = .slice ad n c ∧ b = ad.isNone := by
  unfold nilS at h
  split at h <;> first | (cases h; done) | (injection h with h; subst h)
  · exact ⟨none, 0, 0, rep_raw hr |>.1, rfl⟩
  · obtain ⟨ad, c, rfl, _⟩ := rep_sl hr; exact ⟨_, _, _, rfl, rfl⟩
  · obtain ⟨ad, rfl⟩ := rep_emp hr; exact ⟨_, _, _, rfl, rfl⟩
  · cases hr; exact ⟨_, _, _, rfl, rfl⟩
theorem nilM_spec {c : V} {b : Bool} {v : Value} (h : nilM c = some b) (hr : Rep w X φ c v) : ∃ r, v = .map r ∧ b = r.isNone := by
  unfold nilM at h
  split at h <;> first | (cases h; done) | (injection h with h; subst h)
  · exact ⟨none, rep_raw hr |>.1, rfl⟩
  · obtain ⟨r, rfl, _⟩ := rep_mp hr; exact ⟨_, rfl, rfl⟩

theorem eqIn_ptr_nil {d : Nat} {t e : TypeId} (ht : P.underlying t = some (.pointer e)) (ad : Option Addr) (w : World) : (Op.equalIn (d + 1) t (.pointer ad) (.pointer none)).run P w = .ok ad.isNone w ∧ (Op.equalIn (d + 1) t (.pointer none) (.pointer ad)).run P w = .ok ad.isNone w := by
  cases ad <;> simp [Op.equalIn, run_underlying ht]
theorem eqIn_slice_nil {d : Nat} {t e : TypeId} (ht : P.underlying t = some (.slice e)) (ad : Option Addr) (n c n' c' : Nat) (w : World) : (Op.equalIn (d + 1) t (.slice ad n c) (.slice none n' c')).run P w = .ok ad.isNone w ∧ (Op.equalIn (d + 1) t (.slice none n' c') (.slice ad n c)).run P w = .ok ad.isNone w := by
  cases ad <;> simp [Op.equalIn, run_underlying ht]
theorem eqIn_map_nil {d : Nat} {t k e : TypeId} (ht : P.underlying t = some (.map k e)) (r : Option Nat) (w : World) : (Op.equalIn (d + 1) t (.map r) (.map none)).run P w = .ok r.isNone w ∧ (Op.equalIn (d + 1) t (.map none) (.map r)).run P w = .ok r.isNone w := by
  cases r <;> simp [Op.equalIn, run_underlying ht]

/-! cells of one kind -/

theorem tKind_spec {t : TypeId} {k : Nat} (h : tKind P t = some k) : (k = 0 ∧ ∃ j, P.underlying t = some (.int j)) ∨ (k = 1 ∧ P.underlying t = some .string) ∨ (k = 2 ∧ P.underlying t = some .bool) := by
  unfold tKind at h
  split at h <;> first | (cases h; done) | (injection h with h; subst h)
  · rename_i j hj; exact .inl ⟨rfl, j, hj⟩
  · rename_i hj; exact .inr (.inl ⟨rfl, hj⟩)
  · rename_i hj; exact .inr (.inr ⟨rfl, hj⟩)

theorem cell_eq {d : Nat} {t : TypeId} {k : Nat} (ht : tKind P t = some k) {a b : V} {u v : Value} (ho : kindOk k a = true) {r : Bool} (he : cellEq a b = some r) (ha : Rep w X φ a u) (hb : Rep w X φ b v) (w' : World) : (Op.equalIn (d + 1) t u v).run P w' = .ok r w' := by
  unfold cellEq at he
  split at he
  · rename_i j x k' y
    split at he
    · rename_i hk
      have hk := of_decide_eq_true hk
      subst hk
      injection he with he
      subst he
      obtain rfl := rep_i ha
      obtain rfl := rep_i hb
      rcases tKind_spec ht with ⟨rfl, j', hj⟩ | ⟨rfl, _⟩ | ⟨rfl, _⟩
      · rw [eqI_eq]; exact run_equalIn_int w' d t j j' x y hj
      · cases ho
      · cases ho
    · cases he
  · rename_i x y
    injection he with he
    subst he
    obtain rfl := rep_b ha
    obtain rfl := rep_b hb
    rcases tKind_spec ht with ⟨rfl, j', hj⟩ | ⟨rfl, _⟩ | ⟨rfl, hj⟩
    · cases ho
    · cases ho
    · rw [eqB_eq]; exact run_equalIn_bool' w' d t x y hj
  · rename_i x y
    injection he with he
    subst he
    obtain ⟨s, rfl, hs⟩ := rep_str ha
    obtain ⟨s', rfl, hs'⟩ := rep_str hb
    rcases tKind_spec ht with ⟨rfl, j', hj⟩ | ⟨rfl, hj⟩ | ⟨rfl, _⟩
    · cases ho
    · rw [eqL_bytes hs hs']; exact run_equalIn_string w' d t s s' hj
    · cases ho
  · cases he

theorem tKind_agg {t : TypeId} {k : Nat} (ht : tKind P t = some k) (w' : World) : (isAgg t).run P w' = .ok false w' := by
  unfold isAgg
  rcases tKind_spec ht with ⟨rfl, j', hj⟩ | ⟨rfl, hj⟩ | ⟨rfl, hj⟩ <;> simp [run_underlying hj]

theorem part_plain {t : TypeId} {k : Nat} (ht : tKind P t = some k) {vs : List Value} {o : Nat} {v : Value} (hv : vs[o]? = some v) (w' : World) : (part t vs.toArray o).run P w' = .ok v w' := by
  unfold part
  simp only [Sem.run_bind, tKind_agg ht, Result.andThen_ok]
  simp [hv]

theorem flat_eq {d : Nat} {xs ys : List Value} : ∀ {fs : List Field} {n : Nat} {ks : List Nat} {a b : List V} {r : Bool}, tFlat P n fs = some ks → kindsOk ks a = true → eqCells a b = some r →
    (∀ (i : Nat) (c : V), a[i]? = some c → ∃ v, xs[n + i]? = some v ∧ Rep w X φ c v) → (∀ (i : Nat) (c : V), b[i]? = some c → ∃ v, ys[n + i]? = some v ∧ Rep w X φ c v) → ∀ w', (Op.eqFields (d + 1) xs.toArray ys.toArray fs).run P w' = .ok r w'
  | [], n, ks, a, b, r, hf, ha, he, hx, hy, w' => by
    simp only [tFlat, Option.some.injEq] at hf
    subst hf
    cases a with
    | nil =>
      cases b with
      | nil => simp only [eqCells, Option.some.injEq] at he; subst he; rfl
      | cons => cases he
    | cons => cases ha
  | f :: fs, n, ks, a, b, r, hf, ha, he, hx, hy, w' => by
    simp only [tFlat] at hf
    split at hf
    · rename_i k h1 h2 h3
      split at hf
      · rename_i l hl
        injection hf with hf
        subst hf
        cases a with
        | nil => cases ha
        | cons c a =>
          cases b with
          | nil => cases he
          | cons e b =>
            simp only [kindsOk] at ha
            split at ha
            · rename_i hc
              simp only [eqCells] at he
              split at he
              · rename_i p q hp hq
                injection he with he
                subst he
                have hoff : f.offset = n := Nat.eq_of_beq_eq_true h1
                have hnm : f.name ≠ "_" := by simpa using h3
                obtain ⟨u, hu, hru⟩ := hx 0 c rfl
                obtain ⟨v, hv, hrv⟩ := hy 0 e rfl
                simp only [Nat.add_zero] at hu hv
                have ih := flat_eq (d := d) (xs := xs) (ys := ys) hl ha hq (fun i c h => by rw [show n + 1 + i = n + (i + 1) from by omega]; exact hx (i + 1) c h) (fun i c h => by rw [show n + 1 + i = n + (i + 1) from by omega]; exact hy (i + 1) c h) w'
                simp only [Op.eqFields]
                rw [if_pos hnm]
                simp only [Sem.run_bind, hoff, part_plain h2 hu, part_plain h2 hv, Result.andThen_ok, cell_eq h2 hc hp hru hrv]
                cases p
                · simp
                · simp [ih]
              · cases he
            · cases ha
      · cases hf
    · cases hf

theorem flat_equal {d : Nat} {t : TypeId} {fs : Array Field} (ht : P.underlying t = some (.struct fs)) {ks : List Nat} (hf : tFlatS P t fs = some ks) {a b : List V} {r : Bool} {u v : Value} (hk : kindsOk ks a = true) (he : eqCells a b = some r) (ha : Rep w X φ (.agg a) u) (hb : Rep w X φ (.agg b) v) (w' : World) :
    (Op.equalIn (d + 1 + 1) t u v).run P w' = .ok r w' ∧ ∃ xs ys, u = .agg xs ∧ v = .agg ys := by
  obtain ⟨xs, rfl, hlx, hx⟩ := rep_agg ha
  obtain ⟨ys, rfl, hly, hy⟩ := rep_agg hb
  have hfo : P.fieldsOf t = fs := by simp [Program.fieldsOf, ht]
  unfold tFlatS at hf
  split at hf
  · rename_i hst
    refine ⟨?_, _, _, rfl, rfl⟩
    rw [run_equalIn_struct w' (d + 1) t _ _ (by rw [hfo]; exact ht) hst, hfo]
    refine flat_eq (w := w) (X := X) (φ := φ) hf hk he (fun i c h => ?_) (fun i c h => ?_) w'
    · have hi : i < xs.length := by rw [← hlx]; exact (List.getElem?_eq_some_iff.1 h).1
      exact ⟨xs[i], by simp [hi], hx i c _ h (by simp [hi])⟩
    · have hi : i < ys.length := by rw [← hly]; exact (List.getElem?_eq_some_iff.1 h).1
      exact ⟨ys[i], by simp [hi], hy i c _ h (by simp [hi])⟩
  · cases hf

theorem asks_eq {op : BinOp} {b : Bool} {c : V} {t : TypeId} {u v : Value} (h : asks op b = some c) (he : ∀ w', (Op.equal t u v).run P w' = .ok b w') (hb : ∀ w', (binOp .eql t u v).run P w' = ((Op.equal t u v).run P w').andThen fun b w' => .ok (.bool b) w') (hn : ∀ w', (binOp .neq t u v).run P w' = ((Op.equal t u v).run P w').andThen fun b w' => .ok (.bool (!b)) w') :
    ∃ r, (∀ w', (binOp op t u v).run P w' = .ok r w') ∧ Rep w X φ c r :=
  asks_run h (fun w' => by rw [hb, he]; rfl) (fun w' => by rw [hn, he]; rfl)

/-- what the type says of a compare -/
structure BinT (P : Program) (kd : Nat) (t : TypeId) : Prop where
  bool : kd = 1 → P.underlying t = some .bool
  ptr : kd = 2 → ∃ e, P.underlying t = some (.pointer e)
  sl : kd = 3 → ∃ e, P.underlying t = some (.slice e)
  mp : kd = 4 → ∃ k e, P.underlying t = some (.map k e)

/-- not what a compare has to look into first -/
def Plain (u v : Value) : Prop := (∀ z, u ≠ .agg z) ∧ u ≠ .nilIface

theorem nilv_cases {op : BinOp} {p q : Option Bool} {c : V} (h : nilv op p q = some c) : ∃ a b, p = some a ∧ q = some b ∧ ((a = true ∧ asks op b = some c) ∨ (b = true ∧ asks op a = some c)) := by
  unfold nilv at h
  split at h
  · exact ⟨_, _, rfl, rfl, .inl ⟨rfl, h⟩⟩
  · exact ⟨_, _, rfl, rfl, .inr ⟨rfl, h⟩⟩
  · cases h

theorem sound_binv {kd : Nat} {op : BinOp} {x y : V} {u v : Value} {c : V} {t : TypeId} (h : binv kd op x y = some c) (hx : Rep w X φ x u) (hy : Rep w X φ y v) (ht : BinT P kd t) :
    Plain u v ∧ ∃ r, (∀ w', (binOp op t u v).run P w' = .ok r w') ∧ Rep w X φ c r := by
  unfold binv at h
  split at h
  · split at h
    · obtain rfl := rep_i hx
      obtain rfl := rep_i hy
      refine ⟨⟨fun z h => by (cases h), by intro h; cases h⟩, ?_⟩
      split at h
      · exact shI_run h t
      · split at h
        · rename_i hk
          have hk := of_decide_eq_true hk
          subst hk
          exact binI_run h t
        · cases h
    · rename_i p q
      obtain ⟨s, rfl, hs⟩ := rep_str hx
      obtain ⟨s', rfl, hs'⟩ := rep_str hy
      refine ⟨⟨fun z h => by (cases h), by intro h; cases h⟩, ?_⟩
      split at h
      · split at h
        · rename_i hle
          injection h with h
          subst h
          have hle := Nat.le_of_ble_eq_true hle
          have e1 : p.length = s.size := by rw [← hs]; simp
          have e2 : q.length = s'.size := by rw [← hs']; simp
          refine ⟨.string (s ++ s'), fun w' => ?_, .str _ _ (by rw [← hs, ← hs']; simp)⟩
          have h2 : ¬ (IntKind.i64.max : Int) < (s.size : Int) + (s'.size : Int) := by
            have : (IntKind.i64.max : Int) = 9223372036854775807 := by decide
            omega
          simp only [binOp, Op.stringOp]
          rw [if_neg (by simpa using h2)]
          rfl
        · cases h
      · exact asks_run h (fun w' => by rw [eqL_bytes hs hs']; simp [binOp, Op.stringOp]) (fun w' => by rw [eqL_bytes hs hs']; simp [binOp, Op.stringOp])
    · cases h
  · split at h
    · rename_i p q
      obtain rfl := rep_b hx
      obtain rfl := rep_b hy
      refine ⟨⟨fun z h => by (cases h), by intro h; cases h⟩, asks_eq h (fun w' => ?_) (fun w' => by simp [binOp]) (fun w' => by simp [binOp])⟩
      rw [eqB_eq]
      exact run_equalIn_bool' w' 9999 t p q (ht.bool rfl)
    · cases h
  · obtain ⟨a, b, h1, h2, h3⟩ := nilv_cases h
    obtain ⟨e, he⟩ := ht.ptr rfl
    obtain ⟨ad, rfl, rfl⟩ := nilP_spec h1 hx
    obtain ⟨bd, rfl, rfl⟩ := nilP_spec h2 hy
    refine ⟨⟨fun z h => by (cases h), by intro h; cases h⟩, ?_⟩
    rcases h3 with ⟨h3, h4⟩ | ⟨h3, h4⟩
    · cases ad <;> first | (cases h3; done) | exact asks_eq h4 (fun w' => (eqIn_ptr_nil (d := 9999) he bd w').2) (fun w' => by simp [binOp]) (fun w' => by simp [binOp])
    · cases bd <;> first | (cases h3; done) | exact asks_eq h4 (fun w' => (eqIn_ptr_nil (d := 9999) he ad w').1) (fun w' => by simp [binOp]) (fun w' => by simp [binOp])
  · obtain ⟨a, b, h1, h2, h3⟩ := nilv_cases h
    obtain ⟨e, he⟩ := ht.sl rfl
    obtain ⟨ad, n, c', rfl, rfl⟩ := nilS_spec h1 hx
    obtain ⟨bd, n', c'', rfl, rfl⟩ := nilS_spec h2 hy
    refine ⟨⟨fun z h => by (cases h), by intro h; cases h⟩, ?_⟩
    rcases h3 with ⟨h3, h4⟩ | ⟨h3, h4⟩
    · cases ad <;> first | (cases h3; done) | exact asks_eq h4 (fun w' => (eqIn_slice_nil (d := 9999) he bd n' c'' n c' w').2) (fun w' => by simp [binOp]) (fun w' => by simp [binOp])
    · cases bd <;> first | (cases h3; done) | exact asks_eq h4 (fun w' => (eqIn_slice_nil (d := 9999) he ad n c' n' c'' w').1) (fun w' => by simp [binOp]) (fun w' => by simp [binOp])
  · obtain ⟨a, b, h1, h2, h3⟩ := nilv_cases h
    obtain ⟨k, e, he⟩ := ht.mp rfl
    obtain ⟨ad, rfl, rfl⟩ := nilM_spec h1 hx
    obtain ⟨bd, rfl, rfl⟩ := nilM_spec h2 hy
    refine ⟨⟨fun z h => by (cases h), by intro h; cases h⟩, ?_⟩
    rcases h3 with ⟨h3, h4⟩ | ⟨h3, h4⟩
    · cases ad <;> first | (cases h3; done) | exact asks_eq h4 (fun w' => (eqIn_map_nil (d := 9999) he bd w').2) (fun w' => by simp [binOp]) (fun w' => by simp [binOp])
    · cases bd <;> first | (cases h3; done) | exact asks_eq h4 (fun w' => (eqIn_map_nil (d := 9999) he ad w').1) (fun w' => by simp [binOp]) (fun w' => by simp [binOp])
  · cases h

theorem sound_beqv {ks : List Nat} {op : BinOp} {x y : V} {u v : Value} {c : V} {t : TypeId} {fs : Array Field} (ht : P.underlying t = some (.struct fs)) (hf : tFlatS P t fs = some ks) (h : beqv ks op x y = some c) (hx : Rep w X φ x u) (hy : Rep w X φ y v) :
    (∃ xs ys, u = .agg xs ∧ v = .agg ys) ∧ ∃ r, (∀ w', (binOp op t u v).run P w' = .ok r w') ∧ Rep w X φ c r := by
  unfold beqv at h
  split at h
  · split at h
    · rename_i hk he
      have hq := fun w' => flat_equal (d := 9998) ht hf hk he hx hy w'
      obtain ⟨xs, ys, rfl, rfl⟩ := (hq default).2
      exact ⟨⟨xs, ys, rfl, rfl⟩, asks_eq h (fun w' => (hq w').1) (fun w' => by simp [binOp]) (fun w' => by simp [binOp])⟩
    · cases h
  · cases h

theorem sound_unv {op : UnOp} {x c : V} {u : Value} (h : unv op x = some c) (hx : Rep w X φ x u) : ∃ r, (∀ w', (Op.unary op u).run P w' = .ok r w') ∧ Rep w X φ c r := by
  unfold unv at h
  split at h
  · obtain rfl := rep_b hx
    split at h
    · exact ⟨_, fun w' => by simp [Op.unary], yes_rep h⟩
    · cases h
  · obtain rfl := rep_i hx
    split at h
    · injection h with h; subst h
      refine ⟨_, fun w' => ?_, mk_i⟩
      have e : ∀ n : Int, Int.sub 0 n = -n := fun n => by show (0 : Int) - n = -n; omega
      simp only [wr_eq, e]
      simp [Op.unary, Op.intArith]
    · injection h with h; subst h; exact ⟨_, fun w' => by simp [Op.unary, Op.intBits], mk_i⟩
    · cases h
  · cases h

end
end Go.VM
end

section
/- The machine VM, part 5: quiet operations. -/
set_option linter.unusedVariables false
set_option linter.unusedSectionVars false
set_option linter.unusedSimpArgs false
set_option linter.constructorNameAsVariable false
namespace Go.VM
open Go.RowKit
variable [Val]

theorem addr_add (a : Addr) (h : a.spot = none) (n : Nat) : a.add n = ⟨a.block, a.off + n, none⟩ := by
  unfold Addr.add
  split
  · rename_i h0; subst h0; cases a; simp_all
  · rfl

section
variable {P : Program} {N : Nat} {B : Nat → Prop} {G : Nat → Nat → Value → Prop} {fr : Nat → Prop} {φ : Loc} {a : Act} {w : World} {e : T V} {h : Heap} {nx : Nat} {pr : List Nat}

theorem tAgg_run {t : TypeId} {g : Bool} (h : tAgg P t = some g) (w : World) : (isAgg t).run P w = .ok g w := by
  unfold tAgg at h
  unfold isAgg
  cases hd : P.underlying t with
  | none => rw [hd] at h; cases h
  | some d =>
    rw [hd] at h
    simp only [Sem.run_bind, run_underlying hd, Result.andThen_ok]
    cases d <;> (injection h with h; subst h; rfl)

theorem tSize_run {t : TypeId} {k : Nat} (h : tSize P t = some k) (w : World) : (sizeOf t).run P w = .ok k w := by
  unfold tSize at h
  obtain ⟨i, hi, he⟩ := Option.map_eq_some_iff.1 h
  subst he
  simp [sizeOf, typeInfo, hi]

/-- cells of values, cells of what they are -/
def PW (w : World) (X : Nat → Prop) (φ : Loc) (cs : List V) (vs : Array Value) : Prop := cs.length = vs.size ∧ ∀ (i : Nat) (c : V) (v : Value), cs[i]? = some c → vs[i]? = some v → Rep w X φ c v ∧ v.oneCell' = true

theorem PW.set {X : Nat → Prop} {cs : List V} {vs : Array Value} (h : PW w X φ cs vs) {c : V} {v : Value} (hc : Rep w X φ c v) (ho : v.oneCell' = true) (o : Nat) : PW w X φ (cs.set o c) (vs.setIfInBounds o v) := by
  refine ⟨by simp [h.1], fun i d u h1 h2 => ?_⟩
  by_cases hi : o = i
  · subst hi
    have hlt : o < cs.length := by have := (List.getElem?_eq_some_iff.1 h1).1; simpa using this
    simp [hlt] at h1
    have hlt' : o < vs.size := by rw [← h.1]; exact hlt
    simp [hlt'] at h2
    subst h1; subst h2
    exact ⟨hc, ho⟩
  · rw [List.getElem?_set_ne hi] at h1
    rw [Array.getElem?_setIfInBounds_ne hi] at h2
    exact h.2 i d u h1 h2

theorem PW.put {X : Nat → Prop} : ∀ (ds : List V) (us : List Value) (cs : List V) (vs : Array Value) (off j : Nat), PW w X φ cs vs → ds.length = us.length → (∀ (i : Nat) (c : V) (v : Value), ds[i]? = some c → us[i]? = some v → Rep w X φ c v ∧ v.oneCell' = true) →
    PW w X φ (putCells cs (off + j) ds) ((us.zipIdx j).foldl (fun cs (p : Value × Nat) => cs.setIfInBounds (off + p.2) p.1) vs)
  | [], us, cs, vs, off, j, h, hl, _ => by
    cases us with
    | nil => exact h
    | cons => cases hl
  | d :: ds, us, cs, vs, off, j, h, hl, hh => by
    cases us with
    | nil => cases hl
    | cons u us =>
      obtain ⟨h1, h2⟩ := hh 0 d u rfl rfl
      have := PW.put ds us _ _ off (j + 1) (h.set h1 h2 (off + j)) (by simpa using hl) (fun i c v h3 h4 => hh (i + 1) c v (by simpa using h3) (by simpa using h4))
      simp only [putCells, List.zipIdx_cons, List.foldl_cons]
      exact this

theorem PW.fill (R : RelAt N B G fr φ ⟨e, h, nx, pr⟩ a w) (place : Nat → Option (Nat × Nat)) : ∀ (ps : List (Nat × Operand)) (qs : List (Nat × Nat × Opd)) (cs ds : List V) (vs : Array Value), tParts place ps = some qs → buildv e cs qs = some ds → PW w (Excl B φ) φ cs vs →
    ∃ us, Instr.fill place vs (ps.map fun p => (p.1, a.eval p.2)) = some us ∧ PW w (Excl B φ) φ ds us
  | [], qs, cs, ds, vs, hq, hb, h => by
    simp only [tParts, Option.some.injEq] at hq
    subst hq
    simp only [buildv, Option.some.injEq] at hb
    subst hb
    exact ⟨vs, rfl, h⟩
  | (i, x) :: ps, qs, cs, ds, vs, hq, hb, h => by
    simp only [tParts] at hq
    split at hq
    · rename_i o k r hpl hr
      injection hq with hq
      subst hq
      simp only [buildv] at hb
      cases hx : VM.opd e (tOpd x) with
      | none => rw [hx] at hb; cases hb
      | some c =>
        rw [hx] at hb
        simp only at hb
        split at hb
        · rename_i hc
          simp only [Bool.and_eq_true] at hc
          have hk : c.cells.length = k := Nat.eq_of_beq_eq_true hc.1.1
          have ho : o + k ≤ cs.length := Nat.le_of_ble_eq_true hc.1.2
          obtain ⟨h1, h2⟩ := rep_cells (R.opd hx) hc.2
          have hp := PW.put c.cells (a.eval x).cells.toList cs vs o 0 h (by simpa using h1) (fun i d u h3 h4 => h2 i d u h3 (by simpa using h4))
          simp only [Nat.add_zero] at hp
          obtain ⟨us, hu, hpu⟩ := PW.fill R place ps r _ ds _ hr hb hp
          refine ⟨us, ?_, hpu⟩
          simp only [List.map_cons, Instr.fill, hpl]
          rw [if_neg (by rw [← h1, hk, ← h.1]; simp; omega)]
          rw [← hu]
          congr 1
          rw [← Array.foldl_toList]
          simp
        · cases hb
    · cases hq

theorem toV_rep {X : Nat → Prop} {v : Value} {c : V} (h : toV v = some c) : Rep w X φ c v ∧ v.oneCell' = true := by
  unfold toV at h
  split at h <;> first | (cases h; done) | (injection h with h; subst h)
  · exact ⟨.str _ _ rfl, rfl⟩
  all_goals exact ⟨.raw _ rfl, rfl⟩

theorem toVs_pw {X : Nat → Prop} : ∀ {vs : List Value} {cs : List V}, toVs vs = some cs → PW w X φ cs vs.toArray
  | [], cs, h => by simp only [toVs, Option.some.injEq] at h; subst h; exact ⟨rfl, fun i c v h => by cases h⟩
  | v :: r, cs, h => by
    simp only [toVs] at h
    split at h
    · rename_i c d hc hd
      injection h with h
      subst h
      have ih := toVs_pw (X := X) hd
      refine ⟨by simpa using ih.1, fun i c' u h1 h2 => ?_⟩
      cases i with
      | zero => simp at h1 h2; subst h1; subst h2; exact toV_rep hc
      | succ i => exact ih.2 i c' u (by simpa using h1) (by simpa using h2)
    · cases h

theorem zero_run {t : TypeId} {zs : List V} (h : tZero P t = some zs) : ∃ z i, P.info? t = some i ∧ i.zero = some z ∧ toVs z.cells.toList = some zs ∧ ∀ w, (zeroValue t).run P w = .ok z w := by
  unfold tZero at h
  split at h
  · rename_i z hz
    obtain ⟨i, hi, hz⟩ := Option.bind_eq_some_iff.1 hz
    exact ⟨z, i, hi, hz, h, fun w => by simp [zeroValue, typeInfo, hi, hz]⟩
  · cases h

theorem zero_pw {X : Nat → Prop} {z : Value} {zs : List V} (h : toVs z.cells.toList = some zs) : PW w X φ zs z.cells := by
  have := toVs_pw (w := w) (X := X) (φ := φ) h
  simpa using this

/-- What is to be shown of a quiet operation. r: what it reads. -/
def Comes (P : Program) (B : Nat → Prop) (φ : Loc) (a : Act) (w : World) (o : Oper) (nm : Nat) (r : Option (Option Nat)) (v : V) : Option Blk → Prop
  | none => ∃ (u : Value) (D : Nat → Prop), Rep w (Excl B φ) φ v u ∧ (∀ w' : World, (∀ b, D b → w'.heap[b]? = w.heap[b]?) → (execOp a.eval o).run P w' = .ok (.value u) w') ∧
      ∀ o', r = some o' → ∀ b, D b → (b < w.heap.size ∧ ¬ Excl B φ b) ∨ ∃ y, o' = some y ∧ φ y = some (some b)
  | some k => ∃ (u : Value) (w' : World) (n : Nat), (execOp a.eval o).run P w = .ok (.value u) w' ∧ w.heap.size ≤ w'.heap.size ∧ (∀ b, b < w.heap.size → w'.heap[b]? = w.heap[b]?) ∧ w'.os = w.os ∧ w'.tape = w.tape ∧ w'.output = w.output ∧ (w.heap.size ≤ n ∧ n < w'.heap.size) ∧
      (∀ φ', (∀ c v, Rep w (Excl B φ) φ c v → Rep w' (Excl B φ') φ' c v) → φ' nm = some (some n) → BlkAt w' (Excl B φ') φ' n k) ∧
      ∀ φ', (∀ c v, Rep w (Excl B φ) φ c v → Rep w' (Excl B φ') φ' c v) → φ' nm = some (some n) → Rep w' (Excl B φ') φ' v u

theorem stay {o : Oper} {nm : Nat} {r : Option (Option Nat)} {v : V} {u : Value} (hx : ∀ w', (execOp a.eval o).run P w' = .ok (.value u) w') (hr : Rep w (Excl B φ) φ v u) : Comes P B φ a w o nm r v none :=
  ⟨u, fun _ => False, hr, fun w' _ => hx w', fun _ _ b h => h.elim⟩

theorem cell_of_heap {b : Nat} {vs : Array Value} {e : TypeId} {z : Nat × Nat} (h : w.heap[b]? = some (.cells vs e z)) (i : Nat) : w.cell? ⟨b, i, none⟩ = vs[i]? := by
  simp [World.cell?, h]

/-- A new block of cells. -/
theorem newCells {o : Oper} {nm : Nat} {r : Option (Option Nat)} {cs : List V} {vs : Array Value} (hp : PW w (Excl B φ) φ cs vs) {t : TypeId} {v : V} {u : Value} (hx : (execOp a.eval o).run P w = .ok (.value u) (w.alloc (.cells vs t)))
    (hv : ∀ φ', φ' nm = some (some w.heap.size) → Rep (w.alloc (.cells vs t)) (Excl B φ') φ' v u) : Comes P B φ a w o nm r v (some (.cells cs)) := by
  refine ⟨u, _, w.heap.size, hx, by simp, fun b h => Below.heap_alloc w _ b h, rfl, rfl, rfl, ⟨Nat.le_refl _, by simp⟩, fun φ' hr hn => ?_, fun φ' _ hn => hv φ' hn⟩
  exact ⟨vs, t, (0, 0), alloc_at _ _, fun i _ => by omega, by rw [hp.1]; exact Nat.le_refl _, fun i c v h1 h2 => ⟨hr _ _ (hp.2 i c v h1 h2).1, (hp.2 i c v h1 h2).2⟩⟩

theorem new_ptr {X : Nat → Prop} {φ' : Loc} {nm n : Nat} {w' : World} (h : φ' nm = some (some n)) : Rep w' X φ' (.ptr nm 0) (.pointer (some ⟨n, 0, none⟩)) :=
  .ptr _ _ _ rfl (by rw [h]; simp) fun b hb => by rw [h] at hb; injection hb with hb; injection hb with hb; subst hb; rfl

theorem ret_some {o : Option V} {v : V} {new : Option Blk} (h : ret o = some (v, new)) : o = some v ∧ new = none := by
  unfold ret at h
  split at h
  · injection h with h; injection h with h1 h2; subst h1; exact ⟨rfl, h2.symm⟩
  · cases h

section ops
variable {o : Oper} {nm : Nat} {r : Option (Option Nat)} {v : V} {new : Option Blk}

theorem q_mv {x : Operand} (ho : o.op = .move x ∨ o.op = .assign x) (hy : ret (VM.opd e (tOpd x)) = some (v, new)) (R : RelAt N B G fr φ ⟨e, h, nx, pr⟩ a w) : Comes P B φ a w o nm r v new := by
  obtain ⟨h1, rfl⟩ := ret_some hy
  exact stay (u := a.eval x) (fun w' => by rcases ho with ho | ho <;> simp [execOp, ho]) (R.opd h1)

theorem q_pick {x y z : Operand} (ho : o.op = .pick x y z) (hy : yPick e (tOpd y) (tOpd z) (VM.opd e (tOpd x)) = some (v, new)) (R : RelAt N B G fr φ ⟨e, h, nx, pr⟩ a w) : Comes P B φ a w o nm r v new := by
  have hrun : ∀ b, a.eval x = .bool b → ∀ w', (execOp a.eval o).run P w' = .ok (.value (if b then a.eval y else a.eval z)) w' := fun b hb w' => by
    simp [execOp, ho, hb, Go.asBool]
  unfold yPick at hy
  split at hy
  · rename_i hx
    obtain ⟨h1, rfl⟩ := ret_some hy
    exact stay (hrun _ (rep_b (R.opd hx))) (R.opd h1)
  · rename_i hx
    obtain ⟨h1, rfl⟩ := ret_some hy
    exact stay (hrun _ (rep_b (R.opd hx))) (R.opd h1)
  · cases hy

theorem q_alloc {t : TypeId} (ho : o.op = .alloc t) {zs : List V} (hz : tZero P t = some zs) (hy : some (V.ptr nm 0, some (Blk.cells zs)) = some (v, new)) : Comes P B φ a w o nm r v new := by
  injection hy with hy; injection hy with h1 h2
  subst h1; subst h2
  obtain ⟨z, i, hi, hiz, hzc, hzr⟩ := zero_run hz
  exact newCells (zero_pw hzc) (t := t) (u := .pointer (some ⟨w.heap.size, 0, none⟩)) (by simp [execOp, ho, Instr.alloc, hzr, newVar, newRow]) fun φ' => new_ptr

theorem q_box {t : TypeId} {x : Operand} (ho : o.op = .box t x) {k : Nat} (hy : yBox nm k (VM.opd e (tOpd x)) = some (v, new)) (R : RelAt N B G fr φ ⟨e, h, nx, pr⟩ a w) : Comes P B φ a w o nm r v new := by
  unfold yBox at hy
  split at hy
  · rename_i c hx
    split at hy
    · rename_i hc
      injection hy with hy; injection hy with h1 h2
      subst h1; subst h2
      simp only [Bool.and_eq_true] at hc
      obtain ⟨h1, h2⟩ := rep_cells (R.opd hx) hc.2
      exact newCells ⟨h1, h2⟩ (t := t) (u := .pointer (some ⟨w.heap.size, 0, none⟩)) (by simp [execOp, ho, Instr.box, newVar, newRow]) fun φ' => new_ptr
    · cases hy
  · cases hy

theorem q_build {t : TypeId} {ps : Array (Nat × Operand)} (ho : o.op = .build t ps) {zs : List V} {qs : List (Nat × Nat × Opd)} (hz : tZero P t = some zs) {place : Nat → Option (Nat × Nat)}
    (hpl : (∃ fs pl, P.underlying t = some (.struct fs) ∧ tPlaces P fs = some pl ∧ place = fun i => pl[i]?) ∨ ∃ n e k, P.underlying t = some (.array n e) ∧ tSize P e = some k ∧ place = fun i => some (i * k, k))
    (hq : tParts place ps.toList = some qs) (hy : yBuild (buildv e zs qs) = some (v, new)) (R : RelAt N B G fr φ ⟨e, h, nx, pr⟩ a w) : Comes P B φ a w o nm r v new := by
  unfold yBuild at hy
  split at hy
  · rename_i cs hb
    injection hy with hy; injection hy with h1 h2
    subst h1; subst h2
    obtain ⟨z, i, hi, hiz, hzc, _⟩ := zero_run hz
    obtain ⟨us, hu, hp⟩ := PW.fill R place ps.toList qs _ _ z.cells hq hb (zero_pw hzc)
    have hbuilt : P.built t (ps.map fun (i, x) => (i, a.eval x)).toList = some us := by
      unfold Program.built
      rcases hpl with ⟨fs, pl, hu', hpl, rfl⟩ | ⟨n, e, k, hu', hk, rfl⟩
      · unfold tPlaces at hpl
        simp only [hi, hu', hiz, hpl, Array.toList_map]
        simpa using hu
      · unfold tSize at hk
        obtain ⟨ie, hie, rfl⟩ := Option.map_eq_some_iff.1 hk
        simp only [hi, hu', hiz, hie, Array.toList_map]
        exact hu
    refine stay (u := .agg us) (fun w' => by simp [execOp, ho, run_build w' t _ us hbuilt]) ?_
    have := Rep.agg cs us.toList (w := w) (X := Excl B φ) (φ := φ) (by simpa using hp.1) (fun i c v h1 h2 => (hp.2 i c v h1 (by simpa using h2)).1)
    simpa using this
  · cases hy

theorem cellsAt_get (f : Nat → V) : ∀ (k o i : Nat) (c : V), (cellsAt f o k)[i]? = some c → i < k ∧ c = f (o + i)
  | 0, o, i, c, h => by cases h
  | k + 1, o, i, c, h => by
    cases i with
    | zero => simp [cellsAt] at h; exact ⟨by omega, h.symm⟩
    | succ i =>
      simp [cellsAt] at h
      obtain ⟨h1, h2⟩ := cellsAt_get f k (o + 1) i c h
      exact ⟨by omega, by rw [h2]; congr 1; omega⟩
theorem cellsAt_len (f : Nat → V) : ∀ (k o : Nat), (cellsAt f o k).length = k
  | 0, o => rfl
  | k + 1, o => by simp [cellsAt, cellsAt_len f k]

theorem cut_len {cs : List V} {o k : Nat} (h : o + k ≤ cs.length) : (cut cs o k).length = k := by
  simp [cut]; omega
theorem cut_get {cs : List V} {o k i : Nat} {c : V} (h : (cut cs o k)[i]? = some c) : i < k ∧ cs[o + i]? = some c := by
  unfold cut at h
  rw [List.getElem?_take] at h
  split at h
  · rename_i hi
    exact ⟨hi, by simpa using h⟩
  · cases h

theorem load_of_cells {X : Nat → Prop} {b of k : Nat} {ds : List V} {t : TypeId} {agg : Bool} {c : V} (hg : tAgg P t = some agg) (hk : tSize P t = some k) (hl : ds.length = k) (h : ∀ (i : Nat) (d : V), ds[i]? = some d → ∃ v, w.cell? ⟨b, of + i, none⟩ = some v ∧ Rep w X φ d v) (hc : ofCells agg ds = some c) :
    ∃ v, (∀ w' : World, w'.heap[b]? = w.heap[b]? → (loadVar t ⟨b, of, none⟩).run P w' = .ok v w') ∧ Rep w X φ c v := by
  have hcell : ∀ w' : World, w'.heap[b]? = w.heap[b]? → ∀ i, w'.cell? ⟨b, i, none⟩ = w.cell? ⟨b, i, none⟩ := fun w' h i => by simp only [World.cell?, h]
  unfold loadVar
  simp only [Sem.run_bind, tAgg_run hg, Result.andThen_ok]
  unfold ofCells at hc
  split at hc
  · injection hc with hc
    subst hc
    have hg' : ∀ i, i < k → w.cell? ⟨b, of + i, none⟩ = some ((w.cell? ⟨b, of + i, none⟩).getD undef) := fun i hi => by
      obtain ⟨v, hv, _⟩ := h i ds[i] (by simp [hl, hi])
      rw [hv]; rfl
    have hlc := fun (w' : World) (hw : w'.heap[b]? = w.heap[b]?) => run_loadCells (P := P) w' ⟨b, of, none⟩ k (fun i => (w.cell? ⟨b, of + i, none⟩).getD undef) (fun j hj => by rw [addr_add _ rfl]; exact (hcell w' hw _).trans (hg' j hj))
    refine ⟨.agg ((List.range k).map fun i => (w.cell? ⟨b, of + i, none⟩).getD undef).toArray, fun w' hw => ?_, .agg _ _ (by simp [hl]) fun i c v h1 h2 => ?_⟩
    · simp only [if_true, Sem.run_bind, tSize_run hk, Result.andThen_ok, hlc w' hw, Sem.run_pure]
    · have hi : i < k := by rw [← hl]; exact (List.getElem?_eq_some_iff.1 h1).1
      simp only [List.getElem?_map, List.getElem?_range hi, Option.map_some, Option.some.injEq] at h2
      obtain ⟨v', hv', hr⟩ := h i c h1
      rw [hv'] at h2
      simp at h2
      subst h2
      exact hr
  · injection hc with hc
    subst hc
    obtain ⟨v, hv, hr⟩ := h 0 _ rfl
    simp only [Nat.add_zero] at hv
    refine ⟨v, fun w' hw => ?_, hr⟩
    simp [(hcell w' hw _).trans hv]
  · cases hc

theorem sureAddr_run (ad : Addr) (w : World) : (Instr.sureAddr (.pointer (some ad))).run P w = .ok ad w := rfl

theorem ex_load {t : TypeId} {x : Operand} (ho : o.op = .load t x) {ad : Addr} {v : Value} (hx : a.eval x = .pointer (some ad)) (hl : (loadVar t ad).run P w = .ok v w) : (execOp a.eval o).run P w = .ok (.value v) w := by
  simp [execOp, ho, Instr.loadAt, hx, sureAddr_run, hl]

theorem q_load {t : TypeId} {x : Operand} (ho : o.op = .load t x) {agg : Bool} {k : Nat} (hg : tAgg P t = some agg) (hk : tSize P t = some k) (hy : yLoad h agg k (VM.opd e (tOpd x)) = some (v, new)) (R : RelAt N B G fr φ ⟨e, h, nx, pr⟩ a w) :
    Comes P B φ a w o nm (reads (.load agg k (tOpd x)) (VM.opd e (tOpd x))) v new := by
  unfold yLoad at hy
  split at hy
  · rename_i m g hx
    split at hy
    · rename_i hkm
      have hkm := Nat.le_of_ble_eq_true hkm
      obtain ⟨hl, rfl⟩ := ret_some hy
      obtain ⟨ad, val, hv, hs, hxx, hlt, hr, hf, hn⟩ := rep_fpt (R.opd hx)
      obtain ⟨u, h4, h5⟩ := load_of_cells (w := w) (X := Excl B φ) (φ := φ) (b := ad.block) (of := ad.off) hg hk (cellsAt_len g k 0) (fun i d hd => by
        obtain ⟨h1, rfl⟩ := cellsAt_get g k 0 i d hd
        exact ⟨val i, hr i (by omega), by rw [Nat.zero_add]; exact hf i (by omega)⟩) hl
      have he : ad = ⟨ad.block, ad.off, none⟩ := by cases ad; simp_all
      rw [hx]
      refine ⟨u, fun b => b = ad.block, h5, fun w' hw => ex_load ho hv (by rw [he]; exact h4 w' (hw _ rfl)), fun o' hr b hb => ?_⟩
      subst hb
      exact .inl ⟨hlt, hxx⟩
    · cases hy
  · rename_i y off hx
    unfold yLoadB at hy
    split at hy
    · rename_i cs hs
      split at hy
      · rename_i hkm
        have hkm := Nat.le_of_ble_eq_true hkm
        obtain ⟨hl, rfl⟩ := ret_some hy
        obtain ⟨b, hb, vs, t', z, hh, hz, hle, hp⟩ := R.st y _ hs
        obtain ⟨ad, hv, _, _, had⟩ := rep_ptr (R.opd hx)
        obtain rfl := had b hb
        obtain ⟨u, h4, h5⟩ := load_of_cells (w := w) (X := Excl B φ) (φ := φ) (b := b) (of := off) hg hk (cut_len hkm) (fun i d hd => by
          obtain ⟨h1, h2⟩ := cut_get hd
          have hlt : off + i < vs.size := by omega
          exact ⟨vs[off + i], by rw [cell_of_heap hh]; simp [hlt], (hp (off + i) d _ h2 (by simp [hlt])).1⟩) hl
        rw [hx]
        refine ⟨u, fun b' => b' = b, h5, fun w' hw => ex_load ho hv (h4 w' (hw _ rfl)), fun o' hr b' hb' => ?_⟩
        subst hb'
        simp only [reads, Option.some.injEq] at hr
        exact .inr ⟨y, hr.symm, hb⟩
      · cases hy
    · cases hy
  · cases hy

theorem q_nil {x : Operand} (ho : o.op = .nilCheck x) (hy : yNil (VM.opd e (tOpd x)) = some (v, new)) (R : RelAt N B G fr φ ⟨e, h, nx, pr⟩ a w) : Comes P B φ a w o nm r v new := by
  have hrun : ∀ ad, a.eval x = .pointer (some ad) → ∀ w, (execOp a.eval o).run P w = .ok (.value (a.eval x)) w := fun ad h w => by simp [execOp, ho, h]
  unfold yNil at hy
  split at hy <;> first | (cases hy; done) | skip
  all_goals
    rename_i hx
    injection hy with hy; injection hy with h1 h2
    subst h1; subst h2
    have hr := R.opd hx
  · obtain ⟨ad, g, hv, _⟩ := rep_fpt hr; exact stay (hrun _ hv) hr
  · obtain ⟨b, hv, _⟩ := rep_ptr hr; exact stay (hrun _ hv) hr

theorem eqGuard_run {op : BinOp} {t : TypeId} {x y : Operand} {u v : Value} (hu : Plain u v) (w : World) : (eqGuard op t x y u v).run P w = .ok () w := by
  obtain ⟨hu, hv⟩ := hu
  unfold eqGuard
  cases op <;> simp only [Bool.not_true, Bool.not_false, if_true, if_false, Bool.false_eq_true, reduceIte] <;> first
    | rfl
    | (cases u <;> first | exact absurd rfl hv | exact absurd rfl (hu _) | (cases v <;> rfl))

theorem q_bin {op : BinOp} {t t' : TypeId} {x y : Operand} (ho : o.op = .binOp op t x y t') {kd : Nat} (hk : BinT P kd t) (hy : yBin kd op (VM.opd e (tOpd x)) (VM.opd e (tOpd y)) = some (v, new)) (R : RelAt N B G fr φ ⟨e, h, nx, pr⟩ a w) : Comes P B φ a w o nm r v new := by
  unfold yBin at hy
  split at hy
  · rename_i p q hx hyy
    obtain ⟨hb, rfl⟩ := ret_some hy
    obtain ⟨hpl, u, hr, hrep⟩ := sound_binv hb (R.opd hx) (R.opd hyy) hk
    exact stay (u := u) (fun w' => by simp [execOp, ho, eqGuard_run hpl, hr]) hrep
  · cases hy

theorem q_beq {op : BinOp} {t t' : TypeId} {x y : Operand} (ho : o.op = .binOp op t x y t') {fs : Array Field} (ht : P.underlying t = some (.struct fs)) {ks : List Nat} (hf : tFlatS P t fs = some ks) (hm : P.eqGuardType P.depth t = false) (hy : yBeq ks op (VM.opd e (tOpd x)) (VM.opd e (tOpd y)) = some (v, new)) (R : RelAt N B G fr φ ⟨e, h, nx, pr⟩ a w) : Comes P B φ a w o nm r v new := by
  unfold yBeq at hy
  split at hy
  · rename_i p q hx hyy
    obtain ⟨hb, rfl⟩ := ret_some hy
    obtain ⟨⟨xs, ys, hu, hv⟩, u, hr, hrep⟩ := sound_beqv ht hf hb (R.opd hx) (R.opd hyy)
    refine stay (u := u) (fun w' => ?_) hrep
    have hg := run_eqGuard_agg w' op t x y xs ys hm
    have hr := hr w'
    rw [hu, hv] at hr
    simp [execOp, ho, hu, hv, hg, hr]
  · cases hy

theorem q_un {op : UnOp} {t : TypeId} {x : Operand} (ho : o.op = .unOp op t x) (hy : yUn op (VM.opd e (tOpd x)) = some (v, new)) (R : RelAt N B G fr φ ⟨e, h, nx, pr⟩ a w) : Comes P B φ a w o nm r v new := by
  unfold yUn at hy
  split at hy
  · rename_i c hx
    obtain ⟨hu, rfl⟩ := ret_some hy
    obtain ⟨u, hr, hrep⟩ := sound_unv (P := P) hu (R.opd hx)
    exact stay (u := u) (fun w' => by simp [execOp, ho, hr]) hrep
  · cases hy

theorem q_conv {t d : TypeId} {x : Operand} (ho : o.op = .convert t d x) {k : IntKind} (hd : P.underlying d = some (.int k)) (hs : ∃ u, P.underlying t = some u) (hy : yConv k (VM.opd e (tOpd x)) = some (v, new)) (R : RelAt N B G fr φ ⟨e, h, nx, pr⟩ a w) : Comes P B φ a w o nm r v new := by
  unfold yConv at hy
  split at hy
  · rename_i k' n hx
    injection hy with hy; injection hy with h1 h2
    subst h1; subst h2
    obtain ⟨u, hu⟩ := hs
    have hv := rep_i (R.opd hx)
    rw [wr_eq]
    exact stay (u := .int k (k.wrap n)) (fun w' => by simp [execOp, ho, hv, convert, run_underlying hu, run_underlying hd, Conv.intToInt]) mk_i
  · cases hy

theorem q_fn {f : Fn} {x y : Array Operand} (ho : o.op = .makeFunc f x y) (hy : yFn f (VM.opds e (tOpds x.toList)) (VM.opds e (tOpds y.toList)) = some (v, new)) (R : RelAt N B G fr φ ⟨e, h, nx, pr⟩ a w) : Comes P B φ a w o nm r v new := by
  unfold yFn at hy
  split at hy
  · rename_i p q hp hq
    injection hy with hy; injection hy with h1 h2
    subst h1; subst h2
    obtain ⟨h1, h2⟩ := R.opds hp
    obtain ⟨h3, h4⟩ := R.opds hq
    refine stay (u := .func f (x.toList.map a.eval).toArray (y.toList.map a.eval).toArray) ?_ (.fn f p q _ _ (by simpa using h1) (by simpa using h3) h2 h4)
    have e : ∀ z : Array Operand, z.map a.eval = (z.toList.map a.eval).toArray := fun z => by apply Array.ext'; simp
    intro w'
    simp only [execOp, ho, Instr.makeFunc, e]
    simp
  · cases hy

theorem q_mkmap {t : TypeId} (ho : o.op = .makeMap t none) (hy : some (V.mp nm, some (Blk.map [] 0)) = some (v, new)) : Comes P B φ a w o nm r v new := by
  injection hy with hy; injection hy with h1 h2
  subst h1; subst h2
  refine ⟨.map (some w.heap.size), w.alloc (.map #[] 0), w.heap.size, by simp [execOp, ho, Instr.makeMap], by simp, fun b h => Below.heap_alloc w _ b h, rfl, rfl, rfl, ⟨Nat.le_refl _, by simp⟩, fun φ' hr hn => ?_, fun φ' _ hn => ?_⟩
  · exact ⟨#[], alloc_at _ _, ⟨rfl, fun i k v n e h => by cases h⟩⟩
  · exact .mp _ _ (by rw [hn]; simp) fun b hb => by rw [hn] at hb; injection hb with hb; injection hb

end ops
end
end Go.VM
end

section
/- The machine VM, part 6: quiet operations: slices, addresses, fields, texts, maps. -/
set_option linter.unusedVariables false
set_option linter.unusedSectionVars false
set_option linter.unusedSimpArgs false
set_option linter.constructorNameAsVariable false
namespace Go.VM
open Go.RowKit
variable [Val]

theorem fold_set : ∀ (us : List Value) (j : Nat) (vs : Array Value) (off : Nat), off + j + us.length ≤ vs.size →
    ((us.zipIdx j).foldl (fun cs (p : Value × Nat) => cs.setIfInBounds (off + p.2) p.1) vs).size = vs.size ∧
    ∀ i, ((us.zipIdx j).foldl (fun cs (p : Value × Nat) => cs.setIfInBounds (off + p.2) p.1) vs)[i]? = if off + j ≤ i ∧ i < off + j + us.length then us[i - (off + j)]? else vs[i]?
  | [], j, vs, off, h => ⟨rfl, fun i => by simp only [List.zipIdx_nil, List.foldl_nil, List.length_nil]; rw [if_neg (by omega)]⟩
  | u :: us, j, vs, off, h => by
    simp only [List.length_cons] at h
    obtain ⟨h1, h2⟩ := fold_set us (j + 1) (vs.setIfInBounds (off + j) u) off (by simp; omega)
    simp only [List.zipIdx_cons, List.foldl_cons]
    refine ⟨by rw [h1]; simp, fun i => ?_⟩
    rw [h2 i]
    by_cases hi : i = off + j
    · subst hi
      rw [if_neg (by omega), if_pos ⟨by omega, by simp⟩]
      simp [show off + j < vs.size by omega]
    · by_cases hr : off + (j + 1) ≤ i ∧ i < off + (j + 1) + us.length
      · rw [if_pos hr, if_pos ⟨by omega, by simp; omega⟩]
        rw [show i - (off + j) = (i - (off + (j + 1))) + 1 from by omega]
        simp
      · rw [if_neg hr, if_neg (by simp; omega), Array.getElem?_setIfInBounds_ne (by omega)]

section
variable {P : Program} {N : Nat} {B : Nat → Prop} {G : Nat → Nat → Value → Prop} {fr : Nat → Prop} {φ : Loc} {a : Act} {w : World} {e : T V} {h : Heap} {nx : Nat} {pr : List Nat}

theorem fill_lit (R : RelAt N B G fr φ ⟨e, h, nx, pr⟩ a w) (k : Nat) : ∀ (ps : List (Nat × Operand)) (n : Nat) (cs : List V) (vs : Array Value), litv e k n (tLits ps) = some cs → (n + ps.length) * k ≤ vs.size →
    cs.length = ps.length * k ∧ ∃ us, Instr.fill (fun i => some (i * k, k)) vs (ps.map fun p => (p.1, a.eval p.2)) = some us ∧ us.size = vs.size ∧ (∀ i, i < n * k → us[i]? = vs[i]?) ∧
      ∀ i c, cs[i]? = some c → ∃ v, us[n * k + i]? = some v ∧ v.oneCell' = true ∧ Rep w (Excl B φ) φ c v
  | [], n, cs, vs, h, hs => by
    simp only [tLits, litv, Option.some.injEq] at h
    subst h
    exact ⟨by simp, vs, rfl, rfl, fun i _ => rfl, fun i c h => by cases h⟩
  | (i, x) :: ps, n, cs, vs, h, hs => by
    simp only [tLits, litv] at h
    split at h
    · rename_i c l hi hx hl
      split at h
      · rename_i hc
        injection h with h
        subst h
        simp only [Bool.and_eq_true] at hc
        have hk : c.cells.length = k := Nat.eq_of_beq_eq_true hc.1
        have hin : i = n := Nat.eq_of_beq_eq_true hi
        subst hin
        obtain ⟨h1, h2⟩ := rep_cells (R.opd hx) hc.2
        have hvk : (a.eval x).cells.size = k := by omega
        have e1 : (i + (ps.length + 1)) * k = i * k + k + ps.length * k := by rw [Nat.add_mul, Nat.add_mul]; omega
        have e2 : (i + 1 + ps.length) * k = i * k + k + ps.length * k := by rw [Nat.add_mul, Nat.add_mul]; omega
        have e3 : (i + 1) * k = i * k + k := by rw [Nat.add_mul]; omega
        have e4 : (ps.length + 1) * k = k + ps.length * k := by rw [Nat.add_mul]; omega
        simp only [List.length_cons, e1] at hs
        have hlen : (a.eval x).cells.toList.length = k := by simpa using hvk
        obtain ⟨g1, g2⟩ := fold_set (a.eval x).cells.toList 0 vs (i * k) (by rw [hlen]; omega)
        obtain ⟨q1, us, q2, q3, q4, q5⟩ := fill_lit R k ps (i + 1) l _ hl (by rw [g1, e2]; omega)
        refine ⟨by simp only [List.length_append, List.length_cons, q1, hk, e4], us, ?_, by rw [q3, g1], fun m hm => ?_, fun m d hd => ?_⟩
        · simp only [List.map_cons, Instr.fill]
          rw [if_neg (by simp; omega)]
          rw [← q2]
          congr 1
          rw [← Array.foldl_toList]
          simp
        · rw [q4 m (by rw [e3]; omega), g2 m, if_neg (by omega)]
        · by_cases hm : m < k
          · have hm1 : m < c.cells.length := by omega
            rw [List.getElem?_append_left hm1] at hd
            have hm' : m < (a.eval x).cells.size := by omega
            obtain ⟨h5, h6⟩ := h2 m d (a.eval x).cells[m] hd (by simp [hm'])
            refine ⟨(a.eval x).cells[m], ?_, h6, h5⟩
            rw [q4 (i * k + m) (by rw [e3]; omega), g2, if_pos ⟨by omega, by omega⟩]
            rw [show i * k + m - (i * k + 0) = m from by omega]
            simp [hm']
          · rw [List.getElem?_append_right (by omega), hk] at hd
            obtain ⟨v, hv, ho, hr⟩ := q5 (m - k) d hd
            exact ⟨v, by rw [← hv, e3]; congr 1; omega, ho, hr⟩
      · cases h
    · cases h

theorem tElem_eq {t e : TypeId} (h : tElem P t = some e) : P.underlying t = some (.slice e) := by
  unfold tElem at h
  split at h
  · injection h with h; subst h; assumption
  · cases h

theorem tLits_len : ∀ (ps : List (Nat × Operand)), (tLits ps).length = ps.length
  | [] => rfl
  | p :: r => by simp [tLits, tLits_len r]

/-- A new block of cells, and a slice of all of it. -/
theorem newSlice {o : Oper} {nm : Nat} {r : Option (Option Nat)} {cs : List V} {vs : Array Value} (hp : PW w (Excl B φ) φ cs vs) {t : TypeId} {sz n : Nat} (hn : n * sz = vs.size) (hx : (execOp a.eval o).run P w = .ok (.value (.slice (some ⟨w.heap.size, 0, none⟩) n n)) (w.alloc (.cells vs t))) :
    Comes P B φ a w o nm r (.sl nm sz 0 n (some n)) (some (.cells cs)) :=
  newCells hp hx fun φ' hφ => .sl _ _ _ _ _ _ _ rfl (by rw [hφ]; simp) fun b hb => by
    rw [hφ] at hb; injection hb with hb; injection hb with hb; subst hb
    exact ⟨fun _ => rfl, Nat.le_refl _, vs, t, (0, 0), alloc_at _ _, by omega, rfl⟩

section ops
variable {o : Oper} {nm : Nat} {r : Option (Option Nat)} {v : V} {new : Option Blk}

theorem q_lit {t el : TypeId} {len : Nat} {ps : Array (Nat × Operand)} (ho : o.op = .buildSlice t len ps) (ht : P.underlying t = some (.slice el)) {k : Nat} (hk : tSize P el = some k) {zs : List V} (hz : tZero P el = some zs) (hzk : zs.length = k) (hcap : len * k ≤ 16777216) (hk0 : 0 < k)
    (hy : yLit nm k len (tLits ps.toList).length (litv e k 0 (tLits ps.toList)) = some (v, new)) (R : RelAt N B G fr φ ⟨e, h, nx, pr⟩ a w) : Comes P B φ a w o nm r v new := by
  unfold yLit at hy
  split at hy
  · rename_i cs hls
    split at hy
    · rename_i hc
      injection hy with hy; injection hy with h1 h2
      subst h1; subst h2
      have hps : ps.toList.length = len := by rw [← Nat.eq_of_beq_eq_true hc, tLits_len]
      obtain ⟨z, i, hi, hiz, hzc, hzr⟩ := zero_run hz
      have hzs : z.cells.size = k := by rw [← (zero_pw (w := w) (X := Excl B φ) (φ := φ) hzc).1]; exact hzk
      obtain ⟨q1, us, q2, q3, q4, q5⟩ := fill_lit R k ps.toList 0 cs ((Array.range (len * k)).map (z.cells[· % z.cells.size]!)) hls (by rw [hps]; simp)
      have hsz : us.size = len * k := by rw [q3]; simp
      have hcl : cs.length = us.size := by rw [q1, hps, hsz]
      have hp : PW w (Excl B φ) φ cs us := ⟨hcl, fun i c u h1 h2 => by
        obtain ⟨v, hv, h3, h4⟩ := q5 i c h1
        rw [Nat.zero_mul, Nat.zero_add, h2] at hv
        injection hv with hv
        subst hv
        exact ⟨h4, h3⟩⟩
      have hrun : (Instr.buildSlice t len (ps.map fun (i, x) => (i, a.eval x))).run P w = .ok (.slice (some ⟨w.heap.size, 0, none⟩) len len) (w.alloc (.cells us el)) := by
        have hq2 : Instr.fill (fun i => some (i * k, k)) ((Array.range (len * k)).map (z.cells[· % z.cells.size]!)) (ps.map fun (i, x) => (i, a.eval x)).toList = some us := by
          rw [← q2]; simp
        unfold Instr.buildSlice
        simp only [Sem.run_bind, run_underlying ht, Result.andThen_ok, tSize_run hk]
        rw [if_neg (by omega)]
        by_cases h0 : len * k = 0
        · have hr0 : (Array.range (len * k)).map (z.cells[· % z.cells.size]!) = (Array.range (len * k)).map ((#[] : Array Value)[· % (#[] : Array Value).size]!) := by
            rw [h0]; simp [Array.range_zero']
          rw [hr0] at hq2
          simp only [if_pos h0, Sem.run_bind, Sem.run_pure, Result.andThen_ok, hq2, newRow, run_newObj]
          simp
        · simp only [if_neg h0, Sem.run_bind, hzr, Sem.run_pure, Result.andThen_ok, hq2, newRow, run_newObj]
          simp
      exact newSlice hp hsz.symm (t := el) (by simp [execOp, ho, hrun])
    · cases hy
  · cases hy

theorem reps_len (zs : List V) : ∀ n, (reps zs n).length = n * zs.length
  | 0 => by simp [reps]
  | n + 1 => by simp [reps, reps_len zs n, Nat.add_mul]; omega
theorem reps_get (zs : List V) (h0 : 0 < zs.length) : ∀ (n i : Nat), i < n * zs.length → (reps zs n)[i]? = zs[i % zs.length]?
  | 0, i, h => by simp at h
  | n + 1, i, h => by
    rw [reps]
    by_cases hi : i < zs.length
    · rw [List.getElem?_append_left hi, Nat.mod_eq_of_lt hi]
    · have h' : i < n * zs.length + zs.length := by rw [← Nat.succ_mul]; exact h
      rw [List.getElem?_append_right (by omega), reps_get zs h0 n (i - zs.length) (by omega), Nat.mod_eq_sub_mod (a := i) (by omega)]

theorem q_mksl {t el : TypeId} {l c' : Operand} (ho : o.op = .makeSlice t l c') (ht : P.underlying t = some (.slice el)) {i : TypeInfo} (hi : P.info? el = some i) (hs0 : 0 < i.size) (hbp : 0 < i.bytes) {zs : List V} (hz : tZero P el = some zs) (hzs : zs.length = i.size) (hlc : a.eval l = a.eval c')
    (hy : yMake nm i.size i.bytes zs (VM.opd e (tOpd l)) = some (v, new)) (R : RelAt N B G fr φ ⟨e, h, nx, pr⟩ a w) : Comes P B φ a w o nm r v new := by
  unfold yMake at hy
  split at hy
  · rename_i n hn
    split at hy
    · rename_i hb
      injection hy with hy; injection hy with h1 h2
      subst h1; subst h2
      have hb := Nat.le_of_ble_eq_true hb
      have hv : a.eval l = .int .i64 (n : Int) := rep_i (R.opd hn)
      obtain ⟨z', i', hi', hiz, hzc, _⟩ := zero_run hz
      rw [hi] at hi'
      injection hi' with hi'
      subst hi'
      have hpz := zero_pw (w := w) (X := Excl B φ) (φ := φ) hzc
      have hbytes : (i.bytes : Int) * (n : Int) ≤ 281474976710656 := by
        have : ((n * i.bytes : Nat) : Int) ≤ 140737488355328 := by omega
        rw [Int.natCast_mul] at this
        rw [Int.mul_comm]; omega
      have h63 : (n : Int) ≤ 9223372036854775807 := by
        have : n * 1 ≤ n * i.bytes := Nat.mul_le_mul_left n hbp
        omega
      have hr := run_make (P := P) w t el i z' ht hi hiz .i64 .i64 n n (by omega) (Int.le_refl _) hbytes h63
      simp only [Int.toNat_natCast] at hr
      have hp : PW w (Excl B φ) φ (reps zs n) (madeCells z'.cells (n * i.size)) := by
        refine ⟨by rw [reps_len, hzs, size_madeCells], fun j c u h1 h2 => ?_⟩
        have hj : j < n * i.size := by
          have := (List.getElem?_eq_some_iff.1 h1).1
          rwa [reps_len, hzs] at this
        rw [reps_get zs (by omega) n j (by rw [hzs]; exact hj)] at h1
        have hlt : j % zs.length < z'.cells.size := by rw [← hpz.1]; exact Nat.mod_lt _ (by omega)
        have hm : (madeCells z'.cells (n * i.size))[j]? = some z'.cells[j % zs.length] := by
          have hlt' : j % z'.cells.size < z'.cells.size := by rw [← hpz.1]; rw [← hpz.1] at hlt; exact hlt
          simp [madeCells, hj, ← hpz.1]
          rw [getElem!_pos z'.cells (j % zs.length) hlt]
        rw [hm] at h2
        injection h2 with h2
        subst h2
        exact hpz.2 _ c _ h1 (by simp [hlt])
      exact newSlice hp (by rw [size_madeCells]) (t := el) (by simp [execOp, ho, ← hlc, hv, hr])
    · cases hy
  · cases hy

theorem place_spec {x : Operand} {n m : Nat} (hp : place (VM.opd e (tOpd x)) n = some m) (R : RelAt N B G fr φ ⟨e, h, nx, pr⟩ a w) : a.eval x = .int .i64 m ∧ m ≤ n := by
  unfold place at hp
  split at hp
  · rename_i k hx
    split at hp
    · rename_i hle
      injection hp with hp
      subst hp
      exact ⟨rep_i (R.opd hx), Nat.le_of_ble_eq_true hle⟩
    · cases hp
  · cases hp

theorem bound_run {m N : Nat} (h : m ≤ N) (code : BoundsCode) (w : World) : (Instr.sliceBound (.int .i64 (m : Int)) N code).run P w = .ok m w := by
  simp [Instr.sliceBound, asIntOf, h]

theorem bounds_run {lo hi : Option Operand} {n c k l : Nat} (hk : placeO e (tOpt hi) n n = some k) (hl : placeO e (tOpt lo) 0 k = some l) (hc : n ≤ c) (R : RelAt N B G fr φ ⟨e, h, nx, pr⟩ a w) (sl : Bool) :
    (∀ w', (Instr.sliceBounds sl n c (lo.map a.eval) (hi.map a.eval) none).run P w' = .ok (l, k, c) w') ∧ l ≤ k ∧ k ≤ n := by
  have h1 : k ≤ n ∧ (hi = none ∧ k = n ∨ ∃ x, hi = some x ∧ a.eval x = .int .i64 k) := by
    cases hi with
    | none => simp only [tOpt, placeO, Option.some.injEq] at hk; exact ⟨by omega, .inl ⟨rfl, hk.symm⟩⟩
    | some x => have := place_spec (by simpa [tOpt, placeO] using hk) R; exact ⟨this.2, .inr ⟨x, rfl, this.1⟩⟩
  have h2 : l ≤ k ∧ (lo = none ∧ l = 0 ∨ ∃ x, lo = some x ∧ a.eval x = .int .i64 l) := by
    cases lo with
    | none => simp only [tOpt, placeO, Option.some.injEq] at hl; exact ⟨by omega, .inl ⟨rfl, hl.symm⟩⟩
    | some x => have := place_spec (by simpa [tOpt, placeO] using hl) R; exact ⟨this.2, .inr ⟨x, rfl, this.1⟩⟩
  refine ⟨fun w' => ?_, h2.1, h1.1⟩
  obtain ⟨hkn, h1⟩ := h1
  obtain ⟨hlk, h2⟩ := h2
  unfold Instr.sliceBounds
  rcases h1 with ⟨rfl, rfl⟩ | ⟨x, rfl, hx⟩ <;> rcases h2 with ⟨rfl, rfl⟩ | ⟨y, rfl, hy⟩
  · simp
  · simp [hy, bound_run hlk]
  · simp [hx, bound_run (Nat.le_trans hkn hc)]
  · simp [hx, hy, bound_run hlk, bound_run (Nat.le_trans hkn hc)]

theorem sliceAt_run {t el : TypeId} (ht : P.underlying t = some (.slice el)) {k : Nat} (hk : tSize P el = some k) (ad : Option Addr) {n c l m : Nat} {lo hi : Option Value} (w' : World) (hb : (Instr.sliceBounds true n c lo hi none).run P w' = .ok (l, m, c) w') :
    (Instr.sliceAt t (.slice ad n c) lo hi none).run P w' = .ok (.slice (if c = l then ad else ad.map (·.add (l * k))) (m - l) (c - l)) w' := by
  unfold Instr.sliceAt
  simp only [Sem.run_bind, run_underlying ht, Result.andThen_ok]
  unfold Instr.slice
  simp only [Sem.run_bind, run_underlying ht, Result.andThen_ok, hb, tSize_run hk, Sem.run_pure]

theorem upTo_spec {lo : Option Opd} {x : Option Nat} {l : Nat} (h : upTo e lo x = some l) : ∃ k, x = some k ∧ placeO e lo 0 k = some l := by
  unfold upTo at h
  split at h
  · exact ⟨_, rfl, h⟩
  · cases h

theorem q_slc {t el : TypeId} {x : Operand} {lo hi mx : Option Operand} (ho : o.op = .slice t x lo hi mx) (ht : P.underlying t = some (.slice el)) {k : Nat} (hk : tSize P el = some k)
    (hy : ySlc e h k (tOpt lo) (tOpt hi) (tOpt mx) (VM.opd e (tOpd x)) = some (v, new)) (R : RelAt N B G fr φ ⟨e, h, nx, pr⟩ a w) : Comes P B φ a w o nm r v new := by
  have hmx : ∀ {y : Option Operand}, tOpt y = none → y = none := fun {y} h => by cases y with | none => rfl | some y => cases h
  unfold ySlc at hy
  split at hy
  · rename_i y sz' off n cap hx
    split at hy
    · rename_i hsz hm
      obtain rfl := hmx hm
      have hsz : k = sz' := Nat.eq_of_beq_eq_true hsz
      subst hsz
      split at hy
      · rename_i cs hs
        unfold ySlc2 at hy
        split at hy
        · rename_i m l hpm hpl
          injection hy with hy; injection hy with h1 h2
          subst h1; subst h2
          obtain ⟨m', hm', hpl2⟩ := upTo_spec hpl
          rw [hpm] at hm'
          injection hm' with hm'
          subst hm'
          obtain ⟨b, hb, vs, t', z, hh, _⟩ := R.st y _ hs
          obtain ⟨ad, c, hv, hsp, hd, had⟩ := rep_sl (R.opd hx)
          obtain ⟨had, hnc, vs', e', z', hh', hroom, hcap⟩ := had b hb
          obtain ⟨hrun, hlm, hmn⟩ := bounds_run (P := P) hpm hpl2 hnc R true
          refine stay (u := .slice (if c = l then some ad else (some ad).map (·.add (l * k))) (m - l) (c - l)) (fun w' => ?_) ?_
          · simp [execOp, ho, hv, sliceAt_run ht hk (some ad) w' (hrun w')]
          · have hmul : c * k = l * k + (c - l) * k := by rw [← Nat.add_mul]; congr 1; omega
            have hroom' : ∀ ad', ad'.spot = none → (0 < c - l → ad' = ⟨b, off + l * k, none⟩) → Rep w (Excl B φ) φ (.sl y k (off + l * k) (m - l) (less cap l)) (.slice (some ad') (m - l) (c - l)) := fun ad' hsp' had' =>
              .sl _ _ _ _ _ _ _ hsp' hd fun b' hb' => by
                rw [hb] at hb'; injection hb' with hb'; injection hb' with hb'; subst hb'
                refine ⟨had', by omega, vs', e', z', hh', by omega, ?_⟩
                cases cap with
                | none => dsimp only [less] at hcap ⊢; omega
                | some q => dsimp only [less] at hcap ⊢; omega
            split
            · exact hroom' ad hsp fun h => by omega
            · refine hroom' _ (by show (ad.add (l * k)).spot = none; rw [addr_add _ hsp]) fun h => ?_
              rw [had (by omega)]
              exact addr_add _ rfl _
        · cases hy
      · cases hy
    · cases hy
  · rename_i sz' n g hx
    split at hy
    · rename_i hsz hm
      obtain rfl := hmx hm
      have hsz : k = sz' := Nat.eq_of_beq_eq_true hsz
      subst hsz
      unfold yFro2 at hy
      split at hy
      · rename_i m l hpm hpl
        injection hy with hy; injection hy with h1 h2
        subst h1; subst h2
        obtain ⟨m', hm', hpl2⟩ := upTo_spec hpl
        rw [hpm] at hm'
        injection hm' with hm'
        subst hm'
        have hF := R.opd hx
        cases hF' : a.eval x with
        | slice ad len cap =>
          rw [hF'] at hF
          cases hF with
          | fro _ _ _ ad cap val hs hxx hlt hc hr h1 hf hn =>
            obtain ⟨hrun, hlm, hmn⟩ := bounds_run (P := P) hpm hpl2 hc R true
            refine stay (u := .slice (if cap = l then some ad else (some ad).map (·.add (l * k))) (m - l) (cap - l)) (fun w' => ?_) ?_
            · simp [execOp, ho, hF', sliceAt_run ht hk (some ad) w' (hrun w')]
            · split
              · rename_i hcl
                have : m - l = 0 := by omega
                rw [this]
                exact .froZero _ _ _ _
              · simp only [Option.map_some, addr_add _ hs]
                refine .fro _ _ _ ⟨ad.block, ad.off + l * k, none⟩ _ (fun j c => val (j + l) c) rfl hxx hlt (by omega) (fun j c h1 h2 => ?_) (fun j c h2 h3 => h1 (j + l) c (by omega) h3) (fun j c h1 h2 => hf (j + l) c (by omega) h2) fun j c h1 h2 => hn (j + l) c (by omega) h2
                rw [← hr (j + l) c (by omega) h2, Nat.add_mul, show ad.off + l * k + (j * k + c) = ad.off + (j * k + l * k + c) from by omega]
          | froNil _ _ =>
            obtain ⟨hrun, hlm, hmn⟩ := bounds_run (P := P) hpm hpl2 (Nat.le_refl 0) R true
            have h0 : m = 0 ∧ l = 0 := by omega
            obtain ⟨rfl, rfl⟩ := h0
            exact stay (u := .slice none 0 0) (fun w' => by simp [execOp, ho, hF', sliceAt_run ht hk none w' (hrun w')]) (.froNil _ _)
          | froZero _ _ ad cap =>
            obtain ⟨hrun, hlm, hmn⟩ := bounds_run (P := P) hpm hpl2 (Nat.zero_le cap) R true
            have h0 : m = 0 ∧ l = 0 := by omega
            obtain ⟨rfl, rfl⟩ := h0
            refine stay (u := .slice (if cap = 0 then some ad else (some ad).map (·.add (0 * k))) 0 (cap - 0)) (fun w' => by simp [execOp, ho, hF', sliceAt_run ht hk (some ad) w' (hrun w')]) ?_
            split <;> exact .froZero _ _ _ _
        | _ => rw [hF'] at hF; cases hF
      · cases hy
    · cases hy
  · cases hy

theorem fieldAt_run {t : TypeId} {fs : Array Field} (ht : P.underlying t = some (.struct fs)) {i : Nat} {f : Field} (hf : fs[i]? = some f) {k : Nat} (hk : tSize P f.type = some (k + 1)) (ad : Addr) (hs : ad.spot = none) (w : World) :
    (Instr.fieldAt t (.pointer (some ad)) i).run P w = .ok (.pointer (some ⟨ad.block, ad.off + f.offset, none⟩)) w := by
  unfold Instr.fieldAt
  simp only [Sem.run_bind, run_underlying ht, Result.andThen_ok, hf, sureAddr_run, fieldPlace, tSize_run hk]
  simp [addr_add _ hs]

end ops
end
end Go.VM
end

section
/- The machine VM, part 7: the rest of the quiet operations; all of them together. -/
set_option linter.unusedVariables false
set_option linter.unusedSectionVars false
set_option linter.unusedSimpArgs false
set_option linter.constructorNameAsVariable false
namespace Go.VM
open Go.RowKit
variable [Val]

section
variable {P : Program} {ty : TypeId} {N : Nat} {B : Nat → Prop} {G : Nat → Nat → Value → Prop} {fr : Nat → Prop} {φ : Loc} {a : Act} {w : World} {e : T V} {h : Heap} {nx : Nat} {pr : List Nat}

section ops
variable {o : Oper} {nm : Nat} {r : Option (Option Nat)} {v : V} {new : Option Blk}

theorem q_fad {t : TypeId} {x : Operand} {i : Nat} (ho : o.op = .fieldAddr t x i) {fs : Array Field} (ht : P.underlying t = some (.struct fs)) {f : Field} (hf : fs[i]? = some f) {k : Nat} (hk : tSize P f.type = some (k + 1))
    (hy : yFad f.offset (VM.opd e (tOpd x)) = some (v, new)) (R : RelAt N B G fr φ ⟨e, h, nx, pr⟩ a w) : Comes P B φ a w o nm r v new := by
  have hrun : ∀ ad, ad.spot = none → a.eval x = .pointer (some ad) → ∀ w, (execOp a.eval o).run P w = .ok (.value (.pointer (some ⟨ad.block, ad.off + f.offset, none⟩))) w := fun ad hs h w => by
    simp [execOp, ho, h, fieldAt_run ht hf hk ad hs]
  unfold yFad at hy
  split at hy <;> first | (cases hy; done) | skip
  · rename_i m g hx
    split at hy
    · rename_i hm
      injection hy with hy; injection hy with h1 h2
      subst h1; subst h2
      obtain ⟨ad, g', hv, hs, hxx, hlt, hr, hg, hn⟩ := rep_fpt (R.opd hx)
      have hm : f.offset < m := Nat.le_of_ble_eq_true hm
      refine stay (hrun ad hs hv) (.fpt _ _ ⟨ad.block, ad.off + f.offset, none⟩ (fun c => g' (c + f.offset)) rfl hxx hlt (fun c hc => ?_) (fun c hc => hg (c + f.offset) (by omega)) fun c hc => hn (c + f.offset) (by omega))
      rw [← hr (c + f.offset) (by omega), show ad.off + f.offset + c = ad.off + (c + f.offset) from by omega]
    · cases hy
  · rename_i y off hx
    injection hy with hy; injection hy with h1 h2
    subst h1; subst h2
    obtain ⟨ad, hv, hs, hd, had⟩ := rep_ptr (R.opd hx)
    exact stay (hrun _ hs hv) (.ptr _ _ _ rfl hd fun b hb => by rw [had b hb])

theorem part_run {t : TypeId} {agg : Bool} {k : Nat} (hg : tAgg P t = some agg) (hk : tSize P t = some k) {X : Nat → Prop} {cs : List V} {vs : List Value} (hl : cs.length = vs.length) (h : ∀ (i : Nat) (c : V) (v : Value), cs[i]? = some c → vs[i]? = some v → Rep w X φ c v) {off : Nat} (ho : off + k ≤ cs.length) {c : V}
    (hc : ofCells agg (cut cs off k) = some c) : ∃ v, (∀ w', (part t vs.toArray off).run P w' = .ok v w') ∧ Rep w X φ c v := by
  unfold part
  simp only [Sem.run_bind, tAgg_run hg, Result.andThen_ok]
  have hcl := cut_len ho
  unfold ofCells at hc
  split at hc
  · injection hc with hc
    subst hc
    refine ⟨.agg (vs.toArray.extract off (off + k)), fun w' => by simp [tSize_run hk], ?_⟩
    have e : vs.toArray.extract off (off + k) = ((vs.drop off).take k).toArray := by
      apply Array.ext'
      simp [List.extract_eq_take_drop]
    rw [e]
    refine .agg _ _ (by rw [hcl]; simp; omega) fun i c v h1 h2 => ?_
    obtain ⟨h3, h4⟩ := cut_get h1
    have : ((vs.drop off).take k)[i]? = vs[off + i]? := by
      rw [List.getElem?_take]
      simp [h3]
    rw [this] at h2
    exact h _ _ _ h4 h2
  · rename_i d hd
    injection hc with hc
    subst hc
    have hlen : off < vs.length := by
      have : (cut cs off k)[0]? = some d := by rw [hd]; rfl
      obtain ⟨h3, h4⟩ := cut_get this
      omega
    have : cs[off + 0]? = some d := (cut_get (i := 0) (by rw [hd]; rfl)).2
    refine ⟨vs[off], fun w' => by simp [hlen], h off d _ (by simpa using this) (by simp [hlen])⟩
  · cases hc

theorem q_fld {t : TypeId} {x : Operand} {i : Nat} (ho : o.op = .field t x i) {fs : Array Field} (ht : P.underlying t = some (.struct fs)) {f : Field} (hf : fs[i]? = some f) {agg : Bool} {k : Nat} (hg : tAgg P f.type = some agg) (hk : tSize P f.type = some k)
    (hy : yFld agg f.offset k (VM.opd e (tOpd x)) = some (v, new)) (R : RelAt N B G fr φ ⟨e, h, nx, pr⟩ a w) : Comes P B φ a w o nm r v new := by
  unfold yFld at hy
  split at hy
  · rename_i cs hx
    split at hy
    · rename_i hle
      obtain ⟨hc, rfl⟩ := ret_some hy
      obtain ⟨vs, hv, hl, hh⟩ := rep_agg (R.opd hx)
      obtain ⟨u, hr, hrep⟩ := part_run (P := P) hg hk hl hh (Nat.le_of_ble_eq_true hle) hc
      exact stay (u := u) (fun w' => by simp [execOp, ho, hv, Instr.field, run_underlying ht, hf, asAgg, hr w']) hrep
    · cases hy
  · cases hy

theorem indexAt_run {t el : TypeId} (ht : P.underlying t = some (.slice el)) {k : Nat} (hk : tSize P el = some k) (ad : Addr) (hs : ad.spot = none) (n cap i : Nat) (h1 : i < n) (w : World) :
    (Instr.indexAt t (.slice (some ad) n cap) (.int .i64 (i : Int))).run P w = .ok (.pointer (some ⟨ad.block, ad.off + i * k, none⟩)) w := by
  unfold Instr.indexAt
  simp only [Sem.run_bind, asIntOf, Sem.run_pure, run_underlying ht, Result.andThen_ok, tSize_run hk]
  simp [h1, tSize_run hk, addr_add _ hs]

theorem q_idx {t el : TypeId} {x i : Operand} (ho : o.op = .indexAddr t x i) (ht : P.underlying t = some (.slice el)) {k : Nat} (hk : tSize P el = some k)
    (hy : yIdx k (VM.opd e (tOpd x)) (VM.opd e (tOpd i)) = some (v, new)) (R : RelAt N B G fr φ ⟨e, h, nx, pr⟩ a w) : Comes P B φ a w o nm r v new := by
  have hrun : ∀ (ad : Addr) (n cap j : Nat), ad.spot = none → a.eval x = .slice (some ad) n cap → a.eval i = .int .i64 (j : Int) → j < n → ∀ w, (execOp a.eval o).run P w = .ok (.value (.pointer (some ⟨ad.block, ad.off + j * k, none⟩))) w := fun ad n cap j hs h h' h1 w => by
    simp [execOp, ho, h, h', indexAt_run ht hk ad hs n cap j h1]
  unfold yIdx at hy
  split at hy <;> first | (cases hy; done) | skip
  · rename_i y sz' off n cap j hx hi
    split at hy
    · rename_i hc
      injection hy with hy; injection hy with h1 h2
      subst h1; subst h2
      simp only [Bool.and_eq_true] at hc
      have hsz : k = sz' := Nat.eq_of_beq_eq_true hc.1
      subst hsz
      have hj : j < n := Nat.le_of_ble_eq_true hc.2
      obtain ⟨ad, c, hv, hs, hd, had⟩ := rep_sl (R.opd hx)
      refine stay (hrun ad n c j hs hv (rep_i (R.opd hi)) hj) (.ptr _ _ _ rfl hd fun b hb => ?_)
      obtain ⟨h1, h2, _⟩ := had b hb
      rw [h1 (by omega)]
    · cases hy
  · rename_i sz' n g j hx hi
    split at hy
    · rename_i hc
      injection hy with hy; injection hy with h1 h2
      subst h1; subst h2
      simp only [Bool.and_eq_true] at hc
      have hsz : k = sz' := Nat.eq_of_beq_eq_true hc.1
      subst hsz
      have hj : j < n := Nat.le_of_ble_eq_true hc.2
      have hv := rep_i (R.opd hi)
      have hF := R.opd hx
      cases hF' : a.eval x with
      | slice ad len cap =>
        rw [hF'] at hF
        cases hF with
        | fro _ _ _ ad cap val hs hxx hlt hc hr h1 hf hn =>
          refine stay (hrun ad n cap j hs hF' hv hj) (.fpt _ _ ⟨ad.block, ad.off + j * k, none⟩ (val j) rfl hxx hlt (fun c hc => ?_) (fun c hc => hf j c hj hc) fun c hc => hn j c hj hc)
          rw [← hr j c hj hc, Nat.add_assoc]
        | froNil _ _ => exfalso; omega
        | froZero _ _ _ _ => exfalso; omega
      | _ => rw [hF'] at hF; cases hF
    · cases hy

theorem q_pidx {t el : TypeId} {n : Nat} {x i : Operand} (ho : o.op = .indexAddr t x i) (ht : P.underlying t = some (.array n el)) {k : Nat} (hk : tSize P el = some k)
    (hy : yPidx n k (VM.opd e (tOpd x)) (VM.opd e (tOpd i)) = some (v, new)) (R : RelAt N B G fr φ ⟨e, h, nx, pr⟩ a w) : Comes P B φ a w o nm r v new := by
  have hrun : ∀ (ad : Addr) (j : Nat), ad.spot = none → a.eval x = .pointer (some ad) → a.eval i = .int .i64 (j : Int) → j < n → ∀ w, (execOp a.eval o).run P w = .ok (.value (.pointer (some ⟨ad.block, ad.off + j * k, none⟩))) w := fun ad j hs h h' h1 w => by
    simp [execOp, ho, h, h', Instr.indexAt, asIntOf, run_underlying ht, Instr.sureAddr, h1, tSize_run hk, addr_add _ hs]
  unfold yPidx at hy
  split at hy <;> first | (cases hy; done) | skip
  · rename_i m g j hx hi
    split at hy
    · rename_i hm
      injection hy with hy; injection hy with h1 h2
      subst h1; subst h2
      rw [Bool.and_eq_true] at hm
      have hj : j < n := Nat.le_of_ble_eq_true hm.1
      have hm : j * k < m := Nat.le_of_ble_eq_true hm.2
      obtain ⟨ad, g', hv, hs, hxx, hlt, hr, hg, hn⟩ := rep_fpt (R.opd hx)
      refine stay (hrun ad j hs hv (rep_i (R.opd hi)) hj) (.fpt _ _ ⟨ad.block, ad.off + j * k, none⟩ (fun c => g' (c + j * k)) rfl hxx hlt (fun c hc => ?_) (fun c hc => hg (c + j * k) (by omega)) fun c hc => hn (c + j * k) (by omega))
      rw [← hr (c + j * k) (by omega), show ad.off + j * k + c = ad.off + (c + j * k) from by omega]
    · cases hy
  · rename_i y off j hx hi
    split at hy
    · rename_i hm
      injection hy with hy; injection hy with h1 h2
      subst h1; subst h2
      have hj : j < n := Nat.le_of_ble_eq_true hm
      obtain ⟨ad, hv, hs, hd, had⟩ := rep_ptr (R.opd hx)
      exact stay (hrun _ j hs hv (rep_i (R.opd hi)) hj) (.ptr _ _ _ rfl hd fun b hb => by rw [had b hb])
    · cases hy

theorem q_aix {t el : TypeId} {n : Nat} {x i : Operand} (ho : o.op = .index t x i) (ht : P.underlying t = some (.array n el)) {agg : Bool} {k : Nat} (hg : tAgg P el = some agg) (hk : tSize P el = some k)
    (hy : yAix agg n k (VM.opd e (tOpd x)) (VM.opd e (tOpd i)) = some (v, new)) (R : RelAt N B G fr φ ⟨e, h, nx, pr⟩ a w) : Comes P B φ a w o nm r v new := by
  unfold yAix at hy
  split at hy
  · rename_i cs j hx hi
    split at hy
    · rename_i hle
      rw [Bool.and_eq_true] at hle
      have hj : j < n := Nat.le_of_ble_eq_true hle.1
      obtain ⟨hc, rfl⟩ := ret_some hy
      obtain ⟨vs, hv, hl, hh⟩ := rep_agg (R.opd hx)
      have hvi : a.eval i = .int .i64 (j : Int) := rep_i (R.opd hi)
      obtain ⟨u, hr, hrep⟩ := part_run (P := P) hg hk hl hh (Nat.le_of_ble_eq_true hle.2) hc
      exact stay (u := u) (fun w' => by simp [execOp, ho, hv, hvi, Instr.index, asIntOf, run_underlying ht, tSize_run hk, hj, hr w']) hrep
    · cases hy
  · cases hy

theorem q_six {t : TypeId} {x i : Operand} (ho : o.op = .index t x i) (ht : P.underlying t = some .string) (hy : ySix (VM.opd e (tOpd x)) (VM.opd e (tOpd i)) = some (v, new)) (R : RelAt N B G fr φ ⟨e, h, nx, pr⟩ a w) : Comes P B φ a w o nm r v new := by
  unfold ySix at hy
  split at hy
  · rename_i t' j hx hi
    unfold u8 at hy
    split at hy
    · rename_i b hb
      injection hy with hy; injection hy with h1 h2
      subst h1; subst h2
      have hv : a.eval i = .int .i64 (j : Int) := rep_i (R.opd hi)
      obtain ⟨str, hx', hs⟩ := rep_str (R.opd hx)
      rw [← hs] at hb
      simp only [List.getElem?_map] at hb
      obtain ⟨c, hc, rfl⟩ := Option.map_eq_some_iff.1 hb
      have hlt : j < str.size := by
        have := (List.getElem?_eq_some_iff.1 hc).1
        simpa using this
      have hget : str[j]? = some c := by
        rw [getElem?_pos str j hlt]
        have : str.data[j]? = some c := by simpa using hc
        have h2 : j < str.data.size := hlt
        rw [getElem?_pos str.data j h2] at this
        exact this
      exact stay (u := .int .u8 (c.toNat : Int)) (fun w' => by simp [execOp, ho, hx', hv, Instr.index, asIntOf, run_underlying ht, hget]) mk_i
    · cases hy
  · cases hy

theorem q_ext {x : Operand} {i : Nat} (ho : o.op = .extract x i) (hy : yExt i (VM.opd e (tOpd x)) = some (v, new)) (R : RelAt N B G fr φ ⟨e, h, nx, pr⟩ a w) : Comes P B φ a w o nm r v new := by
  unfold yExt at hy
  split at hy
  · rename_i cs hx
    obtain ⟨hd, rfl⟩ := ret_some hy
    obtain ⟨vs, hv, hl, hh⟩ := rep_tup (R.opd hx)
    have hlt : i < vs.length := by rw [← hl]; exact (List.getElem?_eq_some_iff.1 hd).1
    exact stay (u := vs[i]) (fun w' => by simp [execOp, ho, hv, Instr.extract, hlt]) (hh i _ _ hd (by simp [hlt]))
  · cases hy

end ops
end
end Go.VM
end

section
/- The machine VM, part 8: maps, lengths; all quiet operations together. -/
set_option linter.unusedVariables false
set_option linter.unusedSectionVars false
set_option linter.unusedSimpArgs false
set_option linter.constructorNameAsVariable false
namespace Go.VM
open Go.RowKit
variable [Val]

section
variable {P : Program} {ty : TypeId} {N : Nat} {B : Nat → Prop} {G : Nat → Nat → Value → Prop} {fr : Nat → Prop} {φ : Loc} {a : Act} {w : World} {e : T V} {h : Heap} {nx : Nat} {pr : List Nat}

/-! keys -/

/-- a type of keys -/
def KeyT (P : Program) (t : TypeId) : KT → Prop
  | .one k => tKind P t = some k
  | .flat ks => ∃ fs, P.underlying t = some (.struct fs) ∧ tFlatS P t fs = some ks

theorem tKey_spec {t : TypeId} {k : KT} (h : tKey P t = some k) : KeyT P t k := by
  unfold tKey at h
  split at h
  · rename_i fs ht
    split at h
    · rename_i l hl
      injection h with h
      subst h
      exact ⟨fs, ht, hl⟩
    · cases h
  · split at h
    · rename_i k' h'
      injection h with h
      subst h
      exact h'
    · cases h

theorem checkKey_one (em : Bool) (d : Nat) {kt : TypeId} {k : Nat} (h : tKind P kt = some k) (v : Value) (w : World) : (Instr.checkKey em (d + 1) kt v).run P w = .ok () w := by
  unfold Instr.checkKey
  rcases tKind_spec h with ⟨_, j, hj⟩ | ⟨_, hj⟩ | ⟨_, hj⟩ <;> simp only [Sem.run_bind, run_underlying hj, Result.andThen_ok] <;> rfl

theorem kindsOk_get : ∀ {ks : List Nat} {cs : List V}, kindsOk ks cs = true → ks.length = cs.length
  | [], [], _ => rfl
  | k :: ks, c :: cs, h => by
    simp only [kindsOk] at h
    split at h
    · simp [kindsOk_get h]
    · cases h
  | [], _ :: _, h => by cases h
  | _ :: _, [], h => by cases h

theorem flat_check (em : Bool) (d : Nat) {xs : List Value} {w : World} : ∀ {fs : List Field} {n : Nat} {ks : List Nat}, tFlat P n fs = some ks → n + ks.length ≤ xs.length →
    (forIn (m := Sem) fs PUnit.unit fun f _ => if f.name ≠ "_" then do
      Instr.checkKey em (d + 1) f.type (← part f.type xs.toArray f.offset)
      pure (ForInStep.yield PUnit.unit)
      else pure (ForInStep.yield PUnit.unit)).run P w = .ok PUnit.unit w
  | [], n, ks, hf, hl => rfl
  | f :: fs, n, ks, hf, hl => by
    simp only [tFlat] at hf
    split at hf
    · rename_i k h1 h2 h3
      split at hf
      · rename_i l hl'
        injection hf with hf
        subst hf
        simp only [List.length_cons] at hl
        have hoff : f.offset = n := Nat.eq_of_beq_eq_true h1
        have hnm : f.name ≠ "_" := by simpa using h3
        have hn : n < xs.length := by omega
        have ih := flat_check em d (xs := xs) (w := w) hl' (by omega)
        rw [List.forIn_cons, if_pos hnm]
        simp only [Sem.run_bind, hoff, part_plain h2 (show xs[n]? = some xs[n] from by simp [hn]), Result.andThen_ok, checkKey_one em d h2, Sem.run_pure]
        exact ih
      · cases hf
    · cases hf

theorem checkKey_run (em : Bool) (d : Nat) {X : Nat → Prop} {kt : TypeId} {k : KT} (h : KeyT P kt k) {x : V} {v : Value} (hk : keyOk k x = true) (hx : Rep w X φ x v) (w : World) : (Instr.checkKey em (d + 1 + 1) kt v).run P w = .ok () w := by
  cases k with
  | one k => exact checkKey_one em (d + 1) h v w
  | flat ks =>
    obtain ⟨fs, ht, hf⟩ := h
    cases x with
    | agg cs =>
      obtain ⟨xs, rfl, hl, _⟩ := rep_agg hx
      unfold Instr.checkKey
      simp only [Sem.run_bind, run_underlying ht, Result.andThen_ok]
      unfold tFlatS at hf
      split at hf
      · have := flat_check em d (P := P) (xs := xs) (w := w) hf (by rw [kindsOk_get hk]; omega)
        rw [← Array.forIn_toList, this]
        rfl
      · cases hf
    | _ => cases hk

theorem beq_bytes {s t : ByteArray} {x y : List Nat} (ha : s.data.toList.map UInt8.toNat = x) (hb : t.data.toList.map UInt8.toNat = y) : eqL x y = (s == t) := by
  rw [eqL_bytes ha hb, beq_toListBytes]

theorem now_spec {X : Nat → Prop} {t : TypeId} {k : Nat} (ht : tKind P t = some k) {x y : V} {u v : Value} (hk : kindOk k x = true) {r : Bool} (he : cellEq x y = some r) (hx : Rep w X φ x u) (hy : Rep w X φ y v) : ∃ d, P.underlying t = some d ∧ Instr.sameNow d u v = some r := by
  unfold cellEq at he
  split at he
  · split at he
    · rename_i hj
      have hj := of_decide_eq_true hj
      subst hj
      injection he with he
      subst he
      obtain rfl := rep_i hx
      obtain rfl := rep_i hy
      rcases tKind_spec ht with ⟨rfl, j', hj⟩ | ⟨rfl, _⟩ | ⟨rfl, _⟩
      · exact ⟨_, hj, by simp [Instr.sameNow, eqI_eq]⟩
      · cases hk
      · cases hk
    · cases he
  · injection he with he
    subst he
    obtain rfl := rep_b hx
    obtain rfl := rep_b hy
    rcases tKind_spec ht with ⟨rfl, j', hj⟩ | ⟨rfl, _⟩ | ⟨rfl, hj⟩
    · cases hk
    · cases hk
    · exact ⟨_, hj, by simp [Instr.sameNow, eqB_eq]⟩
  · injection he with he
    subst he
    obtain ⟨s, rfl, hs⟩ := rep_str hx
    obtain ⟨s', rfl, hs'⟩ := rep_str hy
    rcases tKind_spec ht with ⟨rfl, j', hj⟩ | ⟨rfl, hj⟩ | ⟨rfl, _⟩
    · cases hk
    · exact ⟨_, hj, by simp [Instr.sameNow, beq_bytes hs hs']⟩
    · cases hk
  · cases he

/-- a key, looked for -/
theorem findNow_spec {X : Nat → Prop} {t : TypeId} {k : Nat} (ht : tKind P t = some k) {d : TypeDesc} (hd : P.underlying t = some d) {x : V} {u : Value} (hk : kindOk k x = true) (hx : Rep w X φ x u) (hxa : ∀ l, x ≠ .agg l) : ∀ {es : List (V × V × Nat)} {mes : List MapEntry} {n : Nat} {r : Option (Nat × V)}, es.length = mes.length →
    (∀ (i : Nat) (k v : V) (n : Nat) (e : MapEntry), es[i]? = some (k, v, n) → mes[i]? = some e → Rep w X φ k e.key ∧ Rep w X φ v e.val ∧ e.born = n) → findKey x es n = some r →
    (r = none ∧ Instr.findNow d u mes n = some none) ∨ ∃ i k' c m e', r = some (n + i, c) ∧ es[i]? = some (k', c, m) ∧ mes[i]? = some e' ∧ keyEq x k' = some true ∧ Instr.findNow d u mes n = some (some (n + i, e'.val))
  | [], mes, n, r, hl, hr, h => by
    simp only [findKey, Option.some.injEq] at h
    subst h
    cases mes with
    | nil => exact .inl ⟨rfl, rfl⟩
    | cons => cases hl
  | (k', c, m) :: es, [], n, r, hl, hr, h => by cases hl
  | (k', c, m) :: es, e' :: mes, n, r, hl, hr, h => by
    simp only [findKey] at h
    obtain ⟨h1, h2, h3⟩ := hr 0 k' c m e' rfl rfl
    have hke : keyEq x k' = cellEq x k' := by cases x <;> first | rfl | exact absurd rfl (hxa _)
    rw [hke] at h
    split at h
    · rename_i hc
      injection h with h
      subst h
      obtain ⟨d', hd', hn⟩ := now_spec ht hk hc hx h1
      rw [hd] at hd'; injection hd' with hd'; subst hd'
      exact .inr ⟨0, k', c, m, e', rfl, rfl, rfl, hke.trans hc, by simp [Instr.findNow, hn]⟩
    · rename_i hc
      obtain ⟨d', hd', hn⟩ := now_spec ht hk hc hx h1
      rw [hd] at hd'; injection hd' with hd'; subst hd'
      rcases findNow_spec ht hd hk hx hxa (by simpa using hl) (fun i k v m e g1 g2 => hr (i + 1) k v m e (by simpa using g1) (by simpa using g2)) h with ⟨h4, h5⟩ | ⟨i, k'', c', m', e'', h4, h5, h6, h7, h8⟩
      · exact .inl ⟨h4, by simp [Instr.findNow, hn, h5]⟩
      · exact .inr ⟨i + 1, k'', c', m', e'', by rw [h4, show n + 1 + i = n + (i + 1) from by omega], by simpa using h5, by simpa using h6, h7, by simp only [Instr.findNow, hn, h8]; rw [show n + 1 + i = n + (i + 1) from by omega]⟩
    · cases h

/-- a key that is a struct, looked for -/
theorem findAsk_spec {X : Nat → Prop} {t : TypeId} {fs : Array Field} (ht : P.underlying t = some (.struct fs)) {ks : List Nat} (hf : tFlatS P t fs = some ks) {x : List V} {u : Value} (hk : kindsOk ks x = true) (hx : Rep w X φ (.agg x) u) : ∀ {es : List (V × V × Nat)} {mes : List MapEntry} {n : Nat} {r : Option (Nat × V)}, es.length = mes.length →
    (∀ (i : Nat) (k v : V) (n : Nat) (e : MapEntry), es[i]? = some (k, v, n) → mes[i]? = some e → Rep w X φ k e.key ∧ Rep w X φ v e.val ∧ e.born = n) → findKey (.agg x) es n = some r →
    (r = none ∧ ∀ w', (Instr.findAsking t u mes n).run P w' = .ok none w') ∨ ∃ i k' c m e', r = some (n + i, c) ∧ es[i]? = some (k', c, m) ∧ mes[i]? = some e' ∧ keyEq (.agg x) k' = some true ∧ ∀ w', (Instr.findAsking t u mes n).run P w' = .ok (some (n + i, e'.val)) w'
  | [], mes, n, r, hl, hr, h => by
    simp only [findKey, Option.some.injEq] at h
    subst h
    cases mes with
    | nil => exact .inl ⟨rfl, fun w' => rfl⟩
    | cons => cases hl
  | (k', c, m) :: es, [], n, r, hl, hr, h => by cases hl
  | (k', c, m) :: es, e' :: mes, n, r, hl, hr, h => by
    simp only [findKey] at h
    obtain ⟨h1, h2, h3⟩ := hr 0 k' c m e' rfl rfl
    have eq : ∀ {q : Bool}, keyEq (.agg x) k' = some q → ∀ w', (Op.equal t u e'.key).run P w' = .ok q w' := fun {q} hq w' => by
      cases k' with
      | agg y => exact (flat_equal (d := 9998) ht hf hk hq hx h1 w').1
      | _ => cases hq
    split at h
    · rename_i hc
      injection h with h
      subst h
      exact .inr ⟨0, k', c, m, e', rfl, rfl, rfl, hc, fun w' => by simp [Instr.findAsking, eq hc w']⟩
    · rename_i hc
      rcases findAsk_spec ht hf hk hx (by simpa using hl) (fun i k v m e g1 g2 => hr (i + 1) k v m e (by simpa using g1) (by simpa using g2)) h with ⟨h4, h5⟩ | ⟨i, k'', c', m', e'', h4, h5, h6, h7, h8⟩
      · exact .inl ⟨h4, fun w' => by simp [Instr.findAsking, eq hc w', h5]⟩
      · exact .inr ⟨i + 1, k'', c', m', e'', by rw [h4, show n + 1 + i = n + (i + 1) from by omega], by simpa using h5, by simpa using h6, h7, fun w' => by
          simp [Instr.findAsking, eq hc w', h8]
          omega⟩
    · cases h

theorem find_run {X : Nat → Prop} {t : TypeId} {k : KT} (ht : KeyT P t k) {x : V} {u : Value} (hk : keyOk k x = true) (hx : Rep w X φ x u) {es : List (V × V × Nat)} {mes : Array MapEntry} (hm : MapAt w X φ es mes) {r : Option (Nat × V)} (h : findKey x es 0 = some r) :
    (r = none ∧ ∀ w', (Instr.findKey t u mes.toList).run P w' = .ok none w') ∨ ∃ i k' c m e', r = some (i, c) ∧ es[i]? = some (k', c, m) ∧ mes[i]? = some e' ∧ keyEq x k' = some true ∧ ∀ w', (Instr.findKey t u mes.toList).run P w' = .ok (some (i, e'.val)) w' := by
  cases k with
  | one k =>
    have ht : tKind P t = some k := ht
    have hk : kindOk k x = true := hk
    have hxa : ∀ l, x ≠ .agg l := fun l e => by
      subst e
      match k, hk with
      | 0, hk => cases hk
      | 1, hk => cases hk
      | 2, hk => cases hk
      | _ + 3, hk => cases hk
    obtain ⟨d, hd⟩ : ∃ d, P.underlying t = some d := by
      rcases tKind_spec ht with ⟨_, j, hj⟩ | ⟨_, hj⟩ | ⟨_, hj⟩ <;> exact ⟨_, hj⟩
    rcases findNow_spec (mes := mes.toList) ht hd hk hx hxa (by simpa using hm.len) (fun i k v n e g1 g2 => hm.rep i k v n e g1 (by simpa using g2)) h with ⟨h1, h2⟩ | ⟨i, k', c, m, e', h1, h2, h3, h4, h5⟩
    · refine .inl ⟨h1, fun w' => ?_⟩
      unfold Instr.findKey
      simp only [Sem.run_bind, run_underlying hd, Result.andThen_ok, h2]
      rfl
    · rw [Nat.zero_add] at h1 h5
      refine .inr ⟨i, k', c, m, e', h1, h2, by simpa using h3, h4, fun w' => ?_⟩
      unfold Instr.findKey
      simp only [Sem.run_bind, run_underlying hd, Result.andThen_ok, h5]
      rfl
  | flat ks =>
    obtain ⟨fs, ht, hf⟩ := ht
    cases x with
    | agg x =>
      have hrun : ∀ w', (Instr.findKey t u mes.toList).run P w' = (Instr.findAsking t u mes.toList 0).run P w' := fun w' => by
        unfold Instr.findKey
        simp only [Sem.run_bind, run_underlying ht, Result.andThen_ok]
        cases mes.toList with
        | nil => rfl
        | cons e l => rfl
      rcases findAsk_spec (mes := mes.toList) ht hf hk hx (by simpa using hm.len) (fun i k v n e g1 g2 => hm.rep i k v n e g1 (by simpa using g2)) h with ⟨h1, h2⟩ | ⟨i, k', c, m, e', h1, h2, h3, h4, h5⟩
      · exact .inl ⟨h1, fun w' => (hrun w').trans (h2 w')⟩
      · rw [Nat.zero_add] at h1 h5
        exact .inr ⟨i, k', c, m, e', h1, h2, by simpa using h3, h4, fun w' => (hrun w').trans (h5 w')⟩
    | _ => cases hk

theorem getObj_map {b : Nat} {mes : Array MapEntry} {clock : Nat} {w : World} (h : w.heap[b]? = some (.map mes clock)) : (getObj b).run P w = .ok (.map mes clock) w := by
  show Sem.run P (.getObj b .pure) w = _
  simp only [Sem.run, h]
theorem getObj_it {b : Nat} {m : Option Nat} {c l : Nat} {s : Array Nat} {w : World} (h : w.heap[b]? = some (.mapIter m c s l)) : (getObj b).run P w = .ok (.mapIter m c s l) w := by
  show Sem.run P (.getObj b .pure) w = _
  simp only [Sem.run, h]
theorem setObj_run {b : Nat} {w : World} {o' : Obj} (h : w.heap[b]? = some o') (hc : ∀ cs e z, o' ≠ .cells cs e z) (o : Obj) : (setObj b o).run P w = .ok () { w with heap := w.heap.setIfInBounds b o } := by
  show Sem.run P (.setObj b o (.pure ())) w = _
  cases o' <;> simp only [Sem.run, h]
  exact absurd rfl (hc _ _ _)

theorem rep_pair {X : Nat → Prop} {c d : V} {u v : Value} (h1 : Rep w X φ c u) (h2 : Rep w X φ d v) : Rep w X φ (.tup [c, d]) (.tuple #[u, v]) :=
  .tup [c, d] [u, v] rfl fun i c' v' g1 g2 => by
    match i with
    | 0 => simp at g1 g2; subst g1; subst g2; exact h1
    | 1 => simp at g1 g2; subst g1; subst g2; exact h2
    | i + 2 => simp at g1

theorem lookup_run {t kt el : TypeId} (ht : P.underlying t = some (.map kt el)) {zs : Value} (hz : ∀ w, (zeroValue el).run P w = .ok zs w) {b : Nat} {mes : Array MapEntry} {clock : Nat} {w : World} (hb : w.heap[b]? = some (.map mes clock)) {u : Value} (hck : (Instr.checkKey mes.isEmpty 10000 kt u).run P w = .ok () w)
    {v : Value} {is : Bool} (hf : ((Instr.findKey kt u mes.toList).run P w = .ok none w ∧ v = zs ∧ is = false) ∨ ∃ i, (Instr.findKey kt u mes.toList).run P w = .ok (some (i, v)) w ∧ is = true) (ok : Bool) :
    (Instr.lookup t (.map (some b)) u ok).run P w = .ok (if ok then .tuple #[v, .bool is] else v) w := by
  unfold Instr.lookup
  simp only [Sem.run_bind, run_underlying ht, Result.andThen_ok, getObj_map hb, Sem.run_pure, hck]
  rcases hf with ⟨h1, rfl, rfl⟩ | ⟨i, h1, rfl⟩
  · simp [h1, hz]
  · simp [h1]

section ops
variable {o : Oper} {nm : Nat} {r : Option (Option Nat)} {v : V} {new : Option Blk}

theorem q_look {t kt el : TypeId} {m k : Operand} {ok : Bool} (ho : o.op = .lookup t m k ok) (ht : P.underlying t = some (.map kt el)) {kk : KT} (hkt : tKey P kt = some kk) {z : V} (hz : tZero1 P el = some z)
    (hy : yLook h kk z ok (VM.opd e (tOpd m)) (VM.opd e (tOpd k)) = some (v, new)) (R : RelAt N B G fr φ ⟨e, h, nx, pr⟩ a w) : Comes P B φ a w o nm (reads (.look kk z (tOpd m) (tOpd k) ok) (VM.opd e (tOpd m))) v new := by
  have hkt := tKey_spec hkt
  obtain ⟨zs, hzr, hzp⟩ : ∃ zs, (∀ w, (zeroValue el).run P w = .ok zs w) ∧ Rep w (Excl B φ) φ z zs := by
    unfold tZero1 at hz
    split at hz
    · rename_i zs hzs
      obtain ⟨i, hi, hiz⟩ := Option.bind_eq_some_iff.1 hzs
      exact ⟨zs, fun w => by simp [zeroValue, typeInfo, hi, hiz], (toV_rep hz).1⟩
    · cases hz
  unfold yLook at hy
  split at hy
  · rename_i y kv hm hk
    unfold yLook1 at hy
    split at hy
    · rename_i es clock hs
      split at hy
      · rename_i hko
        obtain ⟨b, hb, mes, hh, hma⟩ := R.st y _ hs
        obtain ⟨rr, hv, hd, hrr⟩ := rep_mp (R.opd hm)
        obtain rfl := hrr b hb
        rw [hm]
        have key : ∀ (c : V) (u : Value) (is : Bool), Rep w (Excl B φ) φ c u → (∀ w', ((Instr.findKey kt (a.eval k) mes.toList).run P w' = .ok none w' ∧ u = zs ∧ is = false) ∨ ∃ i, (Instr.findKey kt (a.eval k) mes.toList).run P w' = .ok (some (i, u)) w' ∧ is = true) →
            Comes P B φ a w o nm (reads (.look kk z (tOpd m) (tOpd k) ok) (some (.mp y))) (withOk ok c is) none := fun c u is hc hf =>
          ⟨if ok then .tuple #[u, .bool is] else u, fun b' => b' = rr, by cases ok; exact hc; exact rep_pair hc mk_b, fun w' hw => by
              have := lookup_run (P := P) ht hzr ((hw rr rfl).trans hh) (u := a.eval k) (checkKey_run _ 9998 hkt hko (R.opd hk) w') (hf w') ok
              simp [execOp, ho, hv, this], fun o' hr b' hb' => by
              subst hb'
              simp only [reads, Option.some.injEq] at hr
              exact .inr ⟨y, hr.symm, hb⟩⟩
        unfold yLook2 at hy
        split at hy
        · rename_i i c hf
          injection hy with hy; injection hy with h1 h2
          subst h1; subst h2
          rcases find_run (P := P) hkt hko (R.opd hk) hma hf with ⟨h3, _⟩ | ⟨i', k', c', n, e', h3, h4, h5, h6, h7⟩
          · cases h3
          · injection h3 with h3; injection h3 with h3 h8
            subst h8
            exact key c e'.val true (hma.rep i' k' c n e' h4 h5).2.1 fun w' => .inr ⟨i', h7 w', rfl⟩
        · rename_i hf
          injection hy with hy; injection hy with h1 h2
          subst h1; subst h2
          rcases find_run (P := P) hkt hko (R.opd hk) hma hf with ⟨h3, h4⟩ | ⟨i', k', c', n, e', h3, h4, h5, h6, h7⟩
          · exact key z zs false hzp fun w' => .inl ⟨h4 w', rfl, rfl⟩
          · cases h3
        · cases hy
      · cases hy
    · cases hy
  · cases hy

theorem len_run {x : Value} {t : TypeId} (n : Nat) (h : (∃ b, x = .string b ∧ n = b.size ∧ P.underlying t = some .string) ∨ ∃ q k e, x = .slice q n k ∧ P.underlying t = some (.slice e)) (w : World) : (Builtin.len_ #[t] ty #[x]).run P w = .ok (goInt n) w := by
  rcases h with ⟨b, rfl, rfl, ht⟩ | ⟨q, k, e, rfl, ht⟩ <;> simp [Builtin.len_, run_underlying ht]

theorem len_map_run {t kt el : TypeId} (ht : P.underlying t = some (.map kt el)) {b : Nat} {mes : Array MapEntry} {clock : Nat} {w : World} (hb : w.heap[b]? = some (.map mes clock)) : (Builtin.len_ #[t] ty #[.map (some b)]).run P w = .ok (goInt mes.size) w := by
  simp [Builtin.len_, run_underlying ht, getObj_map hb]

theorem q_len {x : Operand} {t : TypeId} {c : Call} (hcl : c.callee = .builtin .len) (hca : c.args = #[x]) (hct : c.argTypes = #[t]) (ho : o.op = .call c) {kd : Nat} (ht : (kd = 0 → P.underlying t = some .string) ∧ (kd = 1 → ∃ e, P.underlying t = some (.slice e)) ∧ (kd = 2 → ∃ k e, P.underlying t = some (.map k e)))
    (hy : yLen h kd (VM.opd e (tOpd x)) = some (v, new)) (R : RelAt N B G fr φ ⟨e, h, nx, pr⟩ a w) : Comes P B φ a w o nm (reads (.len kd (tOpd x)) (VM.opd e (COp.addr (.len kd (tOpd x))))) v new := by
  have hrun : ∀ n : Nat, ((∃ b, a.eval x = .string b ∧ n = b.size ∧ P.underlying t = some .string) ∨ ∃ q k e, a.eval x = .slice q n k ∧ P.underlying t = some (.slice e)) → ∀ w', (execOp a.eval o).run P w' = .ok (.value (.int .i64 n)) w' := fun n h w' => by
    simp [execOp, ho, resolve, invoke, builtin, hcl, hca, hct, len_run (P := P) (ty := o.type) n h, goInt]
  have nm' : ∀ {n : Nat}, num n = some (v, new) → v = .raw (.int .i64 (n : Int)) ∧ new = none := fun {n} h => by
    unfold num at h; injection h with h; injection h with h1 h2; exact ⟨h1.symm, h2.symm⟩
  unfold yLen at hy
  split at hy <;> first | (cases hy; done) | skip
  · rename_i sz n g hx
    obtain ⟨rfl, rfl⟩ := nm' hy
    obtain ⟨e', he⟩ := ht.2.1 rfl
    have hF := R.opd hx
    cases hF' : a.eval x with
    | slice ad len cap =>
      rw [hF'] at hF
      cases hF with
      | fro _ _ _ ad cap val hs hxx hlt hc hr h1 hf hn => exact stay (hrun _ (.inr ⟨_, _, _, hF', he⟩)) mk_i
      | froNil _ _ => exact stay (hrun _ (.inr ⟨_, _, _, hF', he⟩)) mk_i
      | froZero _ _ _ _ => exact stay (hrun _ (.inr ⟨_, _, _, hF', he⟩)) mk_i
    | _ => rw [hF'] at hF; cases hF
  · rename_i hx
    obtain ⟨rfl, rfl⟩ := nm' hy
    obtain ⟨e', he⟩ := ht.2.1 rfl
    obtain ⟨ad, c, hv, _⟩ := rep_sl (R.opd hx)
    exact stay (hrun _ (.inr ⟨_, _, _, hv, he⟩)) mk_i
  · rename_i hx
    obtain ⟨rfl, rfl⟩ := nm' hy
    obtain ⟨e', he⟩ := ht.2.1 rfl
    obtain ⟨ad, hv⟩ := rep_emp (R.opd hx)
    exact stay (hrun _ (.inr ⟨_, _, _, hv, he⟩)) mk_i
  · rename_i hx
    obtain ⟨rfl, rfl⟩ := nm' hy
    obtain ⟨e', he⟩ := ht.2.1 rfl
    exact stay (hrun _ (.inr ⟨_, _, _, (rep_raw (R.opd hx)).1, he⟩)) mk_i
  · rename_i t' hx
    obtain ⟨rfl, rfl⟩ := nm' hy
    obtain ⟨s, hv, hs⟩ := rep_str (R.opd hx)
    exact stay (hrun _ (.inl ⟨s, hv, by rw [← hs]; simp, ht.1 rfl⟩)) mk_i
  · rename_i y hx
    unfold yLenM at hy
    split at hy
    · rename_i es clock hs
      obtain ⟨rfl, rfl⟩ := nm' hy
      obtain ⟨k, e', he⟩ := ht.2.2 rfl
      obtain ⟨b, hb, mes, hh, hma⟩ := R.st y _ hs
      obtain ⟨rr, hv, hd, hrr⟩ := rep_mp (R.opd hx)
      obtain rfl := hrr b hb
      refine ⟨.int .i64 (es.length : Int), fun b' => b' = rr, mk_i, fun w' hw => ?_, fun o' hr b' hb' => ?_⟩
      · have := len_map_run (P := P) (ty := o.type) he ((hw rr rfl).trans hh)
        simp [execOp, ho, resolve, invoke, builtin, hcl, hca, hct, hv, this, goInt, hma.len]
      · subst hb'
        simp only [COp.addr, hx, reads, Option.some.injEq] at hr
        exact .inr ⟨y, hr.symm, hb⟩
    · cases hy

theorem find_spec {X : Nat → Prop} {st : Nat} : ∀ {es : List (V × V × Nat)} {mes : List MapEntry} {k c : V} {n : Nat}, es.length = mes.length →
    (∀ (i : Nat) (k v : V) (n : Nat) (e : MapEntry), es[i]? = some (k, v, n) → mes[i]? = some e → Rep w X φ k e.key ∧ Rep w X φ v e.val ∧ e.born = n) → (es.find? fun e => Nat.beq e.2.2 st) = some (k, c, n) →
    ∃ e', mes.find? (fun e => e.born == st) = some e' ∧ Rep w X φ k e'.key ∧ Rep w X φ c e'.val
  | [], mes, k, c, n, hl, hr, h => by cases h
  | (k', c', m) :: es, [], k, c, n, hl, hr, h => by cases hl
  | (k', c', m) :: es, e' :: mes, k, c, n, hl, hr, h => by
    obtain ⟨h1, h2, h3⟩ := hr 0 k' c' m e' rfl rfl
    simp only [List.find?_cons] at h ⊢
    have hb : (e'.born == st) = Nat.beq m st := by rw [h3, Bool.eq_iff_iff, beq_iff_eq]; exact ⟨fun h => by subst h; exact Nat.beq_refl _, Nat.eq_of_beq_eq_true⟩
    rw [hb]
    split at h
    · rename_i hm
      injection h with h
      injection h with h4 h5
      injection h5 with h5 h6
      subst h4; subst h5
      exact ⟨e', rfl, h1, h2⟩
    · rename_i hm
      exact find_spec (by simpa using hl) (fun i k v n e g1 g2 => hr (i + 1) k v n e (by simpa using g1) (by simpa using g2)) h

theorem q_rng {t : TypeId} {x : Operand} (ho : o.op = .range t x) {kt el : TypeId} (ht : P.underlying t = some (.map kt el)) (hy : yRng h nm (VM.opd e (tOpd x)) = some (v, new)) (R : RelAt N B G fr φ ⟨e, h, nx, pr⟩ a w) : Comes P B φ a w o nm r v new := by
  unfold yRng at hy
  split at hy
  · rename_i y hx
    unfold yRng2 at hy
    split at hy
    · rename_i es clock hs
      injection hy with hy; injection hy with h1 h2
      subst h1; subst h2
      obtain ⟨b, hb, mes, hh, hma⟩ := R.st y _ hs
      have hR := R.opd hx
      obtain ⟨rr, hv, hd, hrr⟩ := rep_mp hR
      obtain rfl := hrr b hb
      refine ⟨.pointer (some ⟨w.heap.size, 0, none⟩), w.alloc (.mapIter (some rr) clock #[] clock), w.heap.size, ?_, by simp, fun b h => Below.heap_alloc w _ b h, rfl, rfl, rfl, ⟨Nat.le_refl _, by simp⟩, fun φ' hr hn => ?_, fun φ' _ hn => new_ptr hn⟩
      · simp [execOp, ho, hv, Instr.range, run_underlying ht, getObj_map hh]
      · have h2 := hr _ _ hR
        rw [hv] at h2
        obtain ⟨r2, h3, h4, h5⟩ := rep_mp h2
        injection h3 with h3; injection h3 with h3
        subst h3
        exact ⟨some rr, alloc_at _ _, h4, rr, rfl, fun b hb => h5 b hb⟩
    · cases hy
  · rename_i hx
    injection hy with hy; injection hy with h1 h2
    subst h1; subst h2
    have hv := (rep_raw (R.opd hx)).1
    refine ⟨.pointer (some ⟨w.heap.size, 0, none⟩), w.alloc (.mapIter none 0 #[] 0), w.heap.size, ?_, by simp, fun b h => Below.heap_alloc w _ b h, rfl, rfl, rfl, ⟨Nat.le_refl _, by simp⟩, fun φ' hr hn => ?_, fun φ' _ hn => new_ptr hn⟩
    · simp [execOp, ho, hv, Instr.range, run_underlying ht]
    · exact ⟨none, alloc_at _ _, rfl⟩
  · cases hy

theorem q_ent {x : Operand} (ho : o.op = .entry x) (hy : yEnt h (VM.opd e (tOpd x)) = some (v, new)) (R : RelAt N B G fr φ ⟨e, h, nx, pr⟩ a w) : Comes P B φ a w o nm none v new := by
  unfold yEnt at hy
  split at hy
  · rename_i y hx
    unfold yEnt1 at hy
    split at hy
    · rename_i m since seen last hs
      unfold yEnt2 at hy
      split at hy
      · rename_i n es clock hn hm
        split at hy
        · rename_i hcl
          unfold yEnt3 at hy
          split at hy
          · rename_i k c born hf
            injection hy with hy; injection hy with h1 h2
            subst h1; subst h2
            obtain ⟨b, hb, rr, hh, hd, d, rfl, hdd⟩ := R.st y _ hs
            obtain ⟨b', hb', mes, hh', hma⟩ := R.st m _ hm
            obtain rfl := hdd b' hb'
            obtain ⟨ad, hv, _, _, had⟩ := rep_ptr (R.opd hx)
            obtain rfl := had b hb
            have hcl : clock = last := Nat.eq_of_beq_eq_true hcl
            subst hcl
            obtain ⟨e', he, h1, h2⟩ := find_spec (mes := mes.toList) (by simpa using hma.len) (fun i k v n e g1 g2 => hma.rep i k v n e g1 (by simpa using g2)) hf
            have he : mes.find? (fun e => e.born == n) = some e' := by simpa using he
            have hback : seen.toArray.back? = some n := by simpa using hn
            refine ⟨.tuple #[e'.key, e'.val], fun c => c = b ∨ c = d, rep_pair h1 h2, fun w' hw => ?_, fun o' hr => by cases hr⟩
            have g1 := getObj_it (P := P) ((hw b (.inl rfl)).trans hh)
            have g2 := getObj_map (P := P) ((hw d (.inr rfl)).trans hh')
            simp [execOp, ho, hv, Instr.entry, g1, g2, hn, he]
          · cases hy
        · cases hy
      · cases hy
    · cases hy
  · cases hy

theorem ints_run (R : RelAt N B G fr φ ⟨e, h, nx, pr⟩ a w) : ∀ {xs : List Operand} {cs : List V} {l : List Int}, VM.opds e (tOpds xs) = some cs → ints cs = some l → xs.map a.eval = l.map (Value.int .i64)
  | [], cs, l, h1, h2 => by
    simp only [tOpds, VM.opds, Option.some.injEq] at h1
    subst h1
    simp only [ints, Option.some.injEq] at h2
    subst h2
    rfl
  | x :: xs, cs, l, h1, h2 => by
    simp only [tOpds, VM.opds] at h1
    split at h1
    · rename_i c d hc hd
      injection h1 with h1
      subst h1
      simp only [ints] at h2
      split at h2
      · rename_i n l' hn hl
        injection h2 with h2
        subst h2
        have hcn : c = .raw (.int .i64 n) := by
          unfold i64? at hn
          split at hn
          · injection hn with hn; subst hn; rfl
          · cases hn
        subst hcn
        simp only [List.map_cons, rep_i (R.opd hc), ints_run R hd hl]
      · cases h2
    · cases h1

theorem max_fold (w : World) : ∀ (l : List Int) (n : Int), ((l.map (Value.int .i64)).foldlM Builtin.max2 (Value.int .i64 n)).run P w = .ok (.int .i64 (mostI true n l)) w
  | [], n => rfl
  | m :: l, n => by
    simp only [List.map_cons, List.foldlM_cons, Sem.run_bind, Builtin.max2, Sem.run_pure, Result.andThen_ok, mostI]
    have : (if m > n then m else n) = (match ltI n m with | true => m | false => n) := by
      rw [ltI_eq]
      by_cases h : n < m
      · rw [if_pos h, decide_eq_true h]
      · rw [if_neg h, decide_eq_false h]
    rw [this]
    exact max_fold w l _
theorem min_fold (w : World) : ∀ (l : List Int) (n : Int), ((l.map (Value.int .i64)).foldlM Builtin.min2 (Value.int .i64 n)).run P w = .ok (.int .i64 (mostI false n l)) w
  | [], n => rfl
  | m :: l, n => by
    simp only [List.map_cons, List.foldlM_cons, Sem.run_bind, Builtin.min2, Sem.run_pure, Result.andThen_ok, mostI]
    have : (if m < n then m else n) = (match ltI m n with | true => m | false => n) := by
      rw [ltI_eq]
      by_cases h : m < n
      · rw [if_pos h, decide_eq_true h]
      · rw [if_neg h, decide_eq_false h]
    rw [this]
    exact min_fold w l _

theorem q_most {mx : Bool} {c : Call} {xs : List Operand} (hcl : c.callee = .builtin (if mx then .max else .min)) (hca : c.args.toList = xs) (ho : o.op = .call c) (hy : yMost mx (VM.opds e (tOpds xs)) = some (v, new)) (R : RelAt N B G fr φ ⟨e, h, nx, pr⟩ a w) : Comes P B φ a w o nm r v new := by
  unfold yMost at hy
  split at hy
  · rename_i cs hcs
    split at hy
    · rename_i n l hl
      injection hy with hy; injection hy with h1 h2
      subst h1; subst h2
      have hm := ints_run R hcs hl
      subst hca
      have hm' : (c.args.map a.eval).toList = Value.int .i64 n :: l.map (Value.int .i64) := by simpa using hm
      refine stay (u := .int .i64 (mostI mx n l)) (fun w' => ?_) mk_i
      cases mx
      · have : ∀ (t : Array TypeId) (y : TypeId), (Builtin.min_ t y (c.args.map a.eval)).run P w' = .ok (.int .i64 (mostI false n l)) w' := fun t y => by
          unfold Builtin.min_
          rw [hm']
          exact min_fold w' l n
        simp [execOp, ho, resolve, invoke, builtin, hcl, this]
      · have : ∀ (t : Array TypeId) (y : TypeId), (Builtin.max_ t y (c.args.map a.eval)).run P w' = .ok (.int .i64 (mostI true n l)) w' := fun t y => by
          unfold Builtin.max_
          rw [hm']
          exact max_fold w' l n
        simp [execOp, ho, resolve, invoke, builtin, hcl, this]
    · cases hy
  · cases hy

theorem sameOpd_eq {l c : Operand} (h : sameOpd l c = true) : a.eval l = a.eval c := by
  unfold sameOpd at h
  split at h
  · have := Nat.eq_of_beq_eq_true h; subst this; rfl
  · rw [beq_iff_eq] at h; subst h; rfl
  · cases h

theorem quiet_call {c : Call} (ho : o.op = .call c) {op : COp} (hc : tCall P c = op) (hy : yv e h nm op = some (v, new)) (R : RelAt N B G fr φ ⟨e, h, nx, pr⟩ a w) : Comes P B φ a w o nm (reads op (VM.opd e op.addr)) v new := by
  unfold tCall at hc
  split at hc
  · subst hc; cases hy
  · subst hc; cases hy
  · rename_i b hcl
    split at hc
    · rename_i x t hca hct
      have hca : c.args = #[x] := by apply Array.ext'; simpa using hca
      have hct : c.argTypes = #[t] := by apply Array.ext'; simpa using hct
      split at hc
      · rename_i ht
        subst hc
        exact q_len hcl hca hct ho ⟨fun _ => ht, fun h => (by cases h), fun h => (by cases h)⟩ hy R
      · rename_i ht
        subst hc
        exact q_len hcl hca hct ho ⟨fun h => (by cases h), fun _ => ⟨_, ht⟩, fun h => (by cases h)⟩ hy R
      · rename_i ht
        subst hc
        exact q_len hcl hca hct ho ⟨fun h => (by cases h), fun h => (by cases h), fun _ => ⟨_, _, ht⟩⟩ hy R
      · subst hc; cases hy
    · split at hc
      · split at hc
        · split at hc <;> (subst hc; cases hy)
        · subst hc; cases hy
      · subst hc; cases hy
    · split at hc
      · split at hc <;> (subst hc; cases hy)
      · subst hc; cases hy
    · rename_i x xs t ts hca hct
      split at hc
      · subst hc
        exact q_most (mx := true) (xs := x :: xs) hcl hca ho hy R
      · subst hc; cases hy
    · rename_i x xs t ts hca hct
      split at hc
      · subst hc
        exact q_most (mx := false) (xs := x :: xs) hcl hca ho hy R
      · subst hc; cases hy
    · subst hc; cases hy

/-- All quiet operations. -/
theorem sound_quiet {op : COp} (hc : tOp P o.op = op) (hy : yv e h nm op = some (v, new)) (R : RelAt N B G fr φ ⟨e, h, nx, pr⟩ a w) : Comes P B φ a w o nm (reads op (VM.opd e op.addr)) v new := by
  cases ho : o.op with
  | call c => rw [ho] at hc; exact quiet_call ho hc hy R
  | move x => rw [ho] at hc; simp only [tOp] at hc; subst hc; exact q_mv (.inl ho) hy R
  | assign x => rw [ho] at hc; simp only [tOp] at hc; subst hc; exact q_mv (.inr ho) hy R
  | pick x y z => rw [ho] at hc; simp only [tOp] at hc; subst hc; exact q_pick ho hy R
  | alloc t =>
    rw [ho] at hc; simp only [tOp] at hc
    split at hc
    · rename_i zs hz; subst hc; exact q_alloc ho hz hy
    · subst hc; cases hy
  | box t x =>
    rw [ho] at hc; simp only [tOp] at hc
    split at hc
    · subst hc; exact q_box ho hy R
    · subst hc; cases hy
  | build t ps =>
    rw [ho] at hc; simp only [tOp] at hc
    split at hc
    · rename_i zs fs hz ht
      split at hc
      · rename_i pl hpl
        split at hc
        · rename_i qs hq; subst hc; exact q_build ho hz (.inl ⟨_, _, ht, hpl, rfl⟩) hq hy R
        · subst hc; cases hy
      · subst hc; cases hy
    · rename_i zs n el hz ht
      split at hc
      · rename_i k hk
        split at hc
        · rename_i qs hq; subst hc; exact q_build ho hz (.inr ⟨_, _, _, ht, hk, rfl⟩) hq hy R
        · subst hc; cases hy
      · subst hc; cases hy
    · subst hc; cases hy
  | buildSlice t len ps =>
    rw [ho] at hc; simp only [tOp] at hc
    split at hc
    · rename_i el hel
      split at hc
      · rename_i k zs hk hz
        split at hc
        · rename_i hb
          subst hc
          simp only [Bool.and_eq_true] at hb
          exact q_lit ho (tElem_eq hel) hk hz (Nat.eq_of_beq_eq_true hb.1.1) (Nat.le_of_ble_eq_true hb.1.2) (Nat.le_of_ble_eq_true hb.2) hy R
        · subst hc; cases hy
      · subst hc; cases hy
    · subst hc; cases hy
  | load t x =>
    rw [ho] at hc; simp only [tOp] at hc
    split at hc
    · rename_i g k hg hk; subst hc; exact q_load ho hg hk hy R
    · subst hc; cases hy
  | nilCheck x => rw [ho] at hc; simp only [tOp] at hc; subst hc; exact q_nil ho hy R
  | binOp op t x y t' =>
    rw [ho] at hc; simp only [tOp, tBin] at hc
    split at hc
    · subst hc; exact q_bin ho ⟨fun h => (by cases h), fun h => (by cases h), fun h => (by cases h), fun h => (by cases h)⟩ hy R
    · subst hc; exact q_bin ho ⟨fun h => (by cases h), fun h => (by cases h), fun h => (by cases h), fun h => (by cases h)⟩ hy R
    · rename_i ht; subst hc; exact q_bin ho ⟨fun _ => ht, fun h => (by cases h), fun h => (by cases h), fun h => (by cases h)⟩ hy R
    · rename_i ht; subst hc; exact q_bin ho ⟨fun h => (by cases h), fun _ => ⟨_, ht⟩, fun h => (by cases h), fun h => (by cases h)⟩ hy R
    · rename_i ht; subst hc; exact q_bin ho ⟨fun h => (by cases h), fun h => (by cases h), fun _ => ⟨_, ht⟩, fun h => (by cases h)⟩ hy R
    · rename_i ht; subst hc; exact q_bin ho ⟨fun h => (by cases h), fun h => (by cases h), fun h => (by cases h), fun _ => ⟨_, _, ht⟩⟩ hy R
    · rename_i fs ht
      split at hc
      · rename_i l hm hf; subst hc; exact q_beq ho ht hf hm hy R
      · subst hc; cases hy
    · subst hc; cases hy
  | unOp op t x => rw [ho] at hc; simp only [tOp] at hc; subst hc; exact q_un ho hy R
  | convert t d x =>
    rw [ho] at hc; simp only [tOp] at hc
    split at hc
    · rename_i u k hu hd; subst hc; exact q_conv ho hd ⟨_, hu⟩ hy R
    · split at hc <;> (subst hc; cases hy)
    · split at hc <;> (subst hc; cases hy)
    · subst hc; cases hy
  | makeFunc f x y => rw [ho] at hc; simp only [tOp] at hc; subst hc; exact q_fn ho hy R
  | makeMap t r' =>
    rw [ho] at hc; simp only [tOp] at hc
    split at hc
    · subst hc; exact q_mkmap ho hy
    · subst hc; cases hy
  | makeSlice t l c =>
    rw [ho] at hc; simp only [tOp] at hc
    split at hc
    · rename_i el hel
      split at hc
      · rename_i i zs hi hz
        split at hc
        · rename_i hb
          subst hc
          simp only [Bool.and_eq_true] at hb
          exact q_mksl ho (tElem_eq hel) hi (Nat.le_of_ble_eq_true hb.1.1.1) (Nat.le_of_ble_eq_true hb.1.1.2) hz (Nat.eq_of_beq_eq_true hb.1.2) (sameOpd_eq hb.2) hy R
        · subst hc; cases hy
      · subst hc; cases hy
    · subst hc; cases hy
  | slice t x lo hi mx =>
    rw [ho] at hc; simp only [tOp] at hc
    split at hc
    · rename_i el ht
      split at hc
      · rename_i k hk; subst hc; exact q_slc ho ht hk hy R
      · subst hc; cases hy
    · subst hc; cases hy
  | fieldAddr t x i =>
    rw [ho] at hc; simp only [tOp] at hc
    split at hc
    · rename_i fs ht
      split at hc
      · rename_i f hf
        split at hc
        · rename_i k hk; subst hc; exact q_fad ho ht hf hk hy R
        · subst hc; cases hy
      · subst hc; cases hy
    · subst hc; cases hy
  | field t x i =>
    rw [ho] at hc; simp only [tOp] at hc
    split at hc
    · rename_i fs ht
      split at hc
      · rename_i f hf
        split at hc
        · rename_i g k hg hk; subst hc; exact q_fld ho ht hf hg hk hy R
        · subst hc; cases hy
      · subst hc; cases hy
    · subst hc; cases hy
  | indexAddr t x i =>
    rw [ho] at hc; simp only [tOp] at hc
    split at hc
    · rename_i el ht
      split at hc
      · rename_i k hk; subst hc; exact q_idx ho ht hk hy R
      · subst hc; cases hy
    · rename_i n el ht
      split at hc
      · rename_i k hk; subst hc; exact q_pidx ho ht hk hy R
      · subst hc; cases hy
    · subst hc; cases hy
  | index t x i =>
    rw [ho] at hc; simp only [tOp] at hc
    split at hc
    · rename_i ht; subst hc; exact q_six ho ht hy R
    · rename_i n el ht
      split at hc
      · rename_i g k hg hk; subst hc; exact q_aix ho ht hg hk hy R
      · subst hc; cases hy
    · subst hc; cases hy
  | extract x i => rw [ho] at hc; simp only [tOp] at hc; subst hc; exact q_ext ho hy R
  | lookup t m k ok =>
    rw [ho] at hc; simp only [tOp] at hc
    split at hc
    · rename_i kt el ht
      split at hc
      · rename_i kk z hkk hz; subst hc; exact q_look ho ht hkk hz hy R
      · subst hc; cases hy
    · subst hc; cases hy
  | range t x =>
    rw [ho] at hc; simp only [tOp] at hc
    split at hc
    · rename_i kt el ht; subst hc; exact q_rng ho ht hy R
    · subst hc; cases hy
  | entry x => rw [ho] at hc; simp only [tOp] at hc; subst hc; exact q_ent ho hy R
  | store t a x =>
    rw [ho] at hc; simp only [tOp] at hc
    split at hc <;> (subst hc; cases hy)
  | mapUpdate t m k c =>
    rw [ho] at hc; simp only [tOp] at hc
    split at hc
    · split at hc <;> (subst hc; cases hy)
    · subst hc; cases hy
  | next x b =>
    rw [ho] at hc
    cases b <;> simp only [tOp] at hc <;> (subst hc; cases hy)
  | _ => rw [ho] at hc; simp only [tOp] at hc; subst hc; cases hy

end ops
end
end Go.VM
end

section
/- The machine VM, part 9: stores; maps that are written; steps of iterators. -/
set_option linter.unusedVariables false
set_option linter.unusedSectionVars false
set_option linter.unusedSimpArgs false
set_option linter.constructorNameAsVariable false
namespace Go.VM
open Go.RowKit
variable [Val]

/-- cells set one by one -/
def setL (cur : Array Value) (o : Nat) : List Value → Array Value
  | [] => cur
  | v :: r => setL (cur.setIfInBounds o v) (o + 1) r

theorem setL_size : ∀ (vs : List Value) (cur : Array Value) (o : Nat), (setL cur o vs).size = cur.size
  | [], cur, o => rfl
  | v :: r, cur, o => by simp [setL, setL_size r]
theorem setL_get : ∀ (vs : List Value) (cur : Array Value) (o i : Nat), o + vs.length ≤ cur.size → (setL cur o vs)[i]? = if o ≤ i ∧ i < o + vs.length then vs[i - o]? else cur[i]?
  | [], cur, o, i, h => by simp only [setL, List.length_nil]; rw [if_neg (by omega)]
  | v :: vs, cur, o, i, h => by
    simp only [List.length_cons] at h
    simp only [setL]
    rw [setL_get vs _ (o + 1) i (by simp; omega)]
    by_cases hi : i = o
    · subst hi
      rw [if_neg (by omega), if_pos ⟨by omega, by simp⟩]
      simp [show i < cur.size by omega]
    · by_cases h2 : o + 1 ≤ i ∧ i < o + 1 + vs.length
      · rw [if_pos h2, if_pos ⟨by omega, by simp; omega⟩, show i - o = (i - (o + 1)) + 1 from by omega]
        simp
      · rw [if_neg h2, if_neg (by simp; omega), Array.getElem?_setIfInBounds_ne (by omega)]

theorem putCells_get : ∀ (ds cs : List V) (off i : Nat), off + ds.length ≤ cs.length → (putCells cs off ds)[i]? = if off ≤ i ∧ i < off + ds.length then ds[i - off]? else cs[i]?
  | [], cs, off, i, h => by simp only [putCells, List.length_nil]; rw [if_neg (by omega)]
  | d :: ds, cs, off, i, h => by
    simp only [List.length_cons] at h
    simp only [putCells]
    rw [putCells_get ds (cs.set off d) (off + 1) i (by simp; omega)]
    by_cases hi : i = off
    · subst hi
      rw [if_neg (by omega), if_pos ⟨by omega, by simp⟩]
      simp [show i < cs.length by omega]
    · by_cases h2 : off + 1 ≤ i ∧ i < off + 1 + ds.length
      · rw [if_pos h2, if_pos ⟨by omega, by simp; omega⟩, show i - off = (i - (off + 1)) + 1 from by omega]
        simp
      · rw [if_neg h2, if_neg (by simp; omega), List.getElem?_set_ne (by omega)]
theorem putCells_len : ∀ (ds cs : List V) (off : Nat), (putCells cs off ds).length = cs.length
  | [], cs, off => rfl
  | d :: ds, cs, off => by simp [putCells, putCells_len ds]

theorem setCells_spec {b : Nat} {t : TypeId} {z : Nat × Nat} : ∀ (vs : List Value) (o : Nat) (w : World) (cur : Array Value), w.heap[b]? = some (.cells cur t z) →
    (w.setCells b o vs).heap.size = w.heap.size ∧ (∀ c, c ≠ b → (w.setCells b o vs).heap[c]? = w.heap[c]?) ∧ (w.setCells b o vs).os = w.os ∧ (w.setCells b o vs).tape = w.tape ∧ (w.setCells b o vs).output = w.output ∧ (w.setCells b o vs).heap[b]? = some (.cells (setL cur o vs) t z)
  | [], o, w, cur, h => ⟨rfl, fun _ _ => rfl, rfl, rfl, rfl, h⟩
  | v :: r, o, w, cur, h => by
    simp only [World.setCells, setL]
    rw [setCell_eq_setRow w b o cur t z v h]
    obtain ⟨h1, h2, h3, h4, h5, h6⟩ := setCells_spec r (o + 1) (w.setRow b (cur.setIfInBounds o v)) _ (setRow_heap w b cur _ t z h)
    exact ⟨h1.trans (by simp), fun c hc => (h2 c hc).trans (setRow_other w b c _ hc), h3, h4, h5, h6⟩

section
variable {P : Program} {ty : TypeId} {N : Nat} {B : Nat → Prop} {G : Nat → Nat → Value → Prop} {fr U : Nat → Prop} {φ : Loc} {a : Act} {w : World} {e : T V} {h : Heap} {nx : Nat} {pr : List Nat}

theorem cells_pw {X : Nat → Prop} {c : V} {v : Value} (h : Rep w X φ c v) (ho : allOne c.cells = true) : c.cells.length = v.cells.toList.length ∧ (∀ u ∈ v.cells.toList, u.oneCell' = true) ∧ ∀ (i : Nat) (d : V) (u : Value), c.cells[i]? = some d → v.cells.toList[i]? = some u → Rep w X φ d u ∧ u.oneCell' = true := by
  obtain ⟨h1, h2⟩ := rep_cells h ho
  refine ⟨by simpa using h1, fun u hu => ?_, fun i d u hd hu => h2 i d u hd (by simpa using hu)⟩
  obtain ⟨i, hi⟩ := List.mem_iff_getElem?.1 hu
  have hlt : i < c.cells.length := by rw [h1]; have := (List.getElem?_eq_some_iff.1 hi).1; simpa using this
  exact (h2 i c.cells[i] u (by simp [hlt]) (by simpa using hi)).2

/-- Cells of a block are written. -/
theorem HeapAt.cells (R : HeapAt B G fr φ h w) {x b : Nat} (hx : φ x = some (some b)) (hpr : x ∉ pr) {cs ds : List V} (hs : h.get x = some (.cells cs)) {off : Nat} {us : List Value} (hl : ds.length = us.length) (ho : off + ds.length ≤ cs.length) (h1 : ∀ u ∈ us, u.oneCell' = true)
    (hr : ∀ (i : Nat) (d : V) (u : Value), ds[i]? = some d → us[i]? = some u → Rep w (Excl B φ) φ d u ∧ u.oneCell' = true) {h' : Heap} (hp : Put h x (some (.cells (putCells cs off ds))) h') :
    Fwd pr φ w φ (w.setCells b off us) ∧ HeapAt B G fr φ h' (w.setCells b off us) ∧ (storeCells ⟨b, off, none⟩ us).run P w = .ok () (w.setCells b off us) := by
  obtain ⟨b', hb', vs, t, z, hh, hz, hle, hv⟩ := R.st x _ hs
  rw [hx] at hb'; injection hb' with hb'; injection hb' with hb'; subst hb'
  obtain ⟨g1, g2, g3, g4, g5, g6⟩ := setCells_spec us off w vs hh
  have hfit : off + us.length ≤ vs.size := by omega
  obtain ⟨F, H⟩ := R.write hx hpr g1 g2 g3 g4 g5 (fun cs e z h => ⟨_, _, _, g6, by rw [setL_size]; rw [hh] at h; injection h with h; injection h with h; rw [h]⟩)
    (k := .cells (putCells cs off ds)) (fun hrep => ⟨_, t, z, g6, by rw [setL_size]; exact hz, by rw [setL_size, putCells_len]; exact hle, fun i c v h3 h4 => by
      rw [putCells_get _ _ _ _ ho] at h3
      rw [setL_get _ _ _ _ hfit] at h4
      by_cases hi : off ≤ i ∧ i < off + ds.length
      · rw [if_pos hi] at h3
        rw [if_pos (by omega)] at h4
        have := hr _ _ _ h3 h4
        exact ⟨hrep _ _ this.1, this.2⟩
      · rw [if_neg hi] at h3
        rw [if_neg (by omega)] at h4
        have := hv _ _ _ h3 h4
        exact ⟨hrep _ _ this.1, this.2⟩⟩) hp
  refine ⟨F, H, ?_⟩
  have := run_storeCells_cells (P := P) b off us 0 w (fun j hj => by rw [cell_of_heap hh]; simp; omega) (fun j hj => by
    have hzz := hz (off + 0 + j) (by omega)
    simp only [World.frozen?, hh]
    rw [Bool.eq_false_iff]
    intro hc
    simp only [Bool.and_eq_true, decide_eq_true_eq] at hc
    exact hzz hc) h1
  simpa using this

/-- what is to be shown of an operation -/
def Does (P : Program) (N : Nat) (B : Nat → Prop) (G : Nat → Nat → Value → Prop) (U : Nat → Prop) (pr : List Nat) (nx : Nat) (φ : Loc) (w : World) (a : Act) (o : Oper) (q : S → Bool) : Prop :=
  ∀ Q : Exit → Act → World → Prop, o.wp P a w (After N B G U pr nx φ w q) Q

theorem does_value {o : Oper} {q : S → Bool} {u : Value} {w' : World} (hx : (execOp a.eval o).run P w = .ok (.value u) w') (h : After N B G U pr nx φ w q (a.put o.dst u) w') : Does P N B G U pr nx φ w a o q := fun Q => by
  unfold Oper.wp
  rw [hx]
  exact h
theorem does_skip {o : Oper} {q : S → Bool} {w' : World} (hx : (execOp a.eval o).run P w = .ok .skip w') (h : After N B G U pr nx φ w q (a.put o.dst undef) w') : Does P N B G U pr nx φ w a o q := fun Q => by
  unfold Oper.wp
  rw [hx]
  exact h

section ops
variable {o : Oper} {nm : Nat} {q : S → Bool}

theorem e_store {t : TypeId} {x y : Operand} (ho : o.op = .store t x y) {k : Nat} (hk : tSize P t = some k) (hd : ∀ d, o.dst = some d → d < N)
    (hq : evStore ⟨e, h, nx, pr⟩ o.dst k q (VM.opd e (tOpd x)) (VM.opd e (tOpd y)) = true) (R : RelAt N B G (FR U nx) φ ⟨e, h, nx, pr⟩ a w) : Does P N B G U pr nx φ w a o q := by
  unfold evStore at hq
  split at hq
  · rename_i z off c hx hy
    unfold evStore2 at hq
    split at hq
    · rename_i cs hs
      split at hq
      · rename_i hc
        simp only [Bool.and_eq_true] at hc
        have h1 : off + k ≤ cs.length := Nat.le_of_ble_eq_true hc.1.1
        have h2 : c.cells.length = k := Nat.eq_of_beq_eq_true hc.1.2
        obtain ⟨hpr, h', hp, hq⟩ := setB_spec hq
        obtain ⟨b, hb, _⟩ := R.st z _ hs
        obtain ⟨ad, hv, _, _, had⟩ := rep_ptr (R.opd hx)
        obtain rfl := had b hb
        obtain ⟨g1, g2, g3⟩ := cells_pw (R.opd hy) hc.2
        obtain ⟨F, H, hrun⟩ := R.toHeapAt.cells (P := P) (pr := pr) hb hpr hs g1 (by omega) g2 g3 hp
        have hvs : (a.eval y).cells.size = k := by rw [← h2, g1]; simp
        have hst : (storeVar t ⟨b, off, none⟩ (a.eval y)).run P w = .ok () (w.setCells b off (a.eval y).cells.toList) := by
          unfold storeVar
          simp only [Sem.run_bind, tSize_run hk, Result.andThen_ok, hvs, ne_eq, not_true_eq_false, if_false, Sem.run_ite, ite_not]
          simpa using hrun
        refine does_skip (w' := w.setCells b off (a.eval y).cells.toList) ?_ ((void_spec (R.step (pr'' := pr) (nx' := nx) F H) hd hq undef).from F)
        simp [execOp, ho, hv, Instr.storeAt, sureAddr_run, hst]
      · cases hq
    · cases hq
  · cases hq

/-- the world behind a write into a block that is not cells -/
def mapW (w : World) (b : Nat) (o : Obj) : World := { w with heap := w.heap.setIfInBounds b o }
theorem mapW_at {b : Nat} {o o' : Obj} (h : w.heap[b]? = some o) : (mapW w b o').heap[b]? = some o' := by
  have := (Array.getElem?_eq_some_iff.1 h).1
  simp [mapW, this]
theorem mapW_ne {b c : Nat} {o : Obj} (h : c ≠ b) : (mapW w b o).heap[c]? = w.heap[c]? := by
  simp [mapW, Array.getElem?_setIfInBounds_ne (Ne.symm h)]

theorem HeapAt.obj (R : HeapAt B G fr φ h w) {x b : Nat} (hx : φ x = some (some b)) (hpr : x ∉ pr) {ob ob' : Obj} (hb : w.heap[b]? = some ob) (hc : ∀ cs e z, ob ≠ .cells cs e z) {k : Blk} {h' : Heap} (hp : Put h x (some k) h') (hbl : (∀ c v, Rep w (Excl B φ) φ c v → Rep (mapW w b ob') (Excl B φ) φ c v) → BlkAt (mapW w b ob') (Excl B φ) φ b k) :
    Fwd pr φ w φ (mapW w b ob') ∧ HeapAt B G fr φ h' (mapW w b ob') ∧ (setObj b ob').run P w = .ok () (mapW w b ob') := by
  obtain ⟨F, H⟩ := R.write hx hpr (w' := mapW w b ob') (by simp [mapW]) (fun c hc => mapW_ne hc) rfl rfl rfl (fun cs e z h => by rw [hb] at h; injection h with h; exact absurd h (hc _ _ _)) hbl hp
  exact ⟨F, H, setObj_run hb hc ob'⟩

theorem modify_get {es : List (V × V × Nat)} {i j : Nat} {f : V × V × Nat → V × V × Nat} : (es.modify i f)[j]? = if j = i then es[j]?.map f else es[j]? := by
  rw [List.getElem?_modify]
  by_cases h : i = j
  · subst h; simp
  · rw [if_neg (fun e => h e.symm)]
    simp [h]

theorem cellEq_bits (n : Nat) {X : Nat → Prop} {x y : V} {u v : Value} (h : cellEq x y = some true) (hx : Rep w X φ x u) (hy : Rep w X φ y v) : Instr.sameBits n v u = true := by
  unfold cellEq at h
  split at h
  · split at h
    · rename_i hj
      have hj := of_decide_eq_true hj
      subst hj
      injection h with h
      obtain rfl := rep_i hx
      obtain rfl := rep_i hy
      obtain rfl := eqI_iff.1 h
      simp [Instr.sameBits]
    · cases h
  · injection h with h
    obtain rfl := rep_b hx
    obtain rfl := rep_b hy
    rw [eqB_eq] at h
    simp at h
    subst h
    simp [Instr.sameBits]
  · injection h with h
    obtain ⟨s, rfl, hs⟩ := rep_str hx
    obtain ⟨s', rfl, hs'⟩ := rep_str hy
    obtain rfl := eqL_iff.1 h
    have : (s' == s) = true := by
      rw [← beq_bytes hs' hs]
      exact eqL_iff.2 rfl
    cases n <;> exact this
  · cases h

theorem cellsEq_bits (n : Nat) {X : Nat → Prop} : ∀ {x y : List V} {us vs : List Value}, eqCells x y = some true → x.length = us.length → y.length = vs.length → (∀ (i : Nat) (c : V) (v : Value), x[i]? = some c → us[i]? = some v → Rep w X φ c v) →
    (∀ (i : Nat) (c : V) (v : Value), y[i]? = some c → vs[i]? = some v → Rep w X φ c v) → vs.length = us.length ∧ ((vs.zip us).all fun (p, q) => Instr.sameBits n p q) = true
  | [], [], us, vs, h, hl, hm, _, _ => by
    cases us with
    | nil => cases vs with
      | nil => exact ⟨rfl, rfl⟩
      | cons => cases hm
    | cons => cases hl
  | a :: x, b :: y, us, vs, h, hl, hm, hx, hy => by
    simp only [eqCells] at h
    split at h
    · rename_i p q hp hq
      injection h with h
      rw [Bool.and_eq_true] at h
      obtain ⟨rfl, rfl⟩ := h
      cases us with
      | nil => cases hl
      | cons u us => cases vs with
        | nil => cases hm
        | cons v vs =>
          obtain ⟨h1, h2⟩ := cellsEq_bits n hq (by simpa using hl) (by simpa using hm) (fun i c v g1 g2 => hx (i + 1) c v (by simpa using g1) (by simpa using g2)) (fun i c v g1 g2 => hy (i + 1) c v (by simpa using g1) (by simpa using g2))
          refine ⟨by simp [h1], ?_⟩
          rw [List.zip_cons_cons, List.all_cons, Bool.and_eq_true]
          exact ⟨cellEq_bits n hp (hx 0 a u rfl rfl) (hy 0 b v rfl rfl), h2⟩
    · cases h
  | [], _ :: _, _, _, h, _, _, _, _ => by cases h
  | _ :: _, [], _, _, h, _, _, _, _ => by cases h

theorem keyEq_bits {X : Nat → Prop} {x y : V} {u v : Value} (h : keyEq x y = some true) (hx : Rep w X φ x u) (hy : Rep w X φ y v) : Instr.sameBits 10000 v u = true := by
  unfold keyEq at h
  split at h
  · obtain ⟨us, rfl, hl, hu⟩ := rep_agg hx
    obtain ⟨vs, rfl, hm, hv⟩ := rep_agg hy
    obtain ⟨h1, h2⟩ := cellsEq_bits 9999 h hl hm hu hv
    simp only [Instr.sameBits]
    simp [h1, h2]
  · exact cellEq_bits 10000 h hx hy

theorem e_mup {t kt el : TypeId} {m k v : Operand} (ho : o.op = .mapUpdate t m k v) (ht : P.underlying t = some (.map kt el)) {kk : KT} (hkt : tKey P kt = some kk) (hd : ∀ d, o.dst = some d → d < N)
    (hq : evMup ⟨e, h, nx, pr⟩ o.dst kk q (VM.opd e (tOpd m)) (VM.opd e (tOpd k)) (VM.opd e (tOpd v)) = true) (R : RelAt N B G (FR U nx) φ ⟨e, h, nx, pr⟩ a w) : Does P N B G U pr nx φ w a o q := by
  have hkt := tKey_spec hkt
  unfold evMup at hq
  split at hq
  · rename_i y kv c hm hk hc
    unfold evMup2 at hq
    split at hq
    · rename_i es clock hs
      split at hq
      · rename_i hko
        simp only [Bool.and_eq_true] at hko
        obtain ⟨b, hb, mes, hh, hma⟩ := R.st y _ hs
        obtain ⟨rr, hv, _, hrr⟩ := rep_mp (R.opd hm)
        obtain rfl := hrr b hb
        have hck : (Instr.checkKey false 10000 kt (a.eval k)).run P w = .ok () w := checkKey_run _ 9998 hkt hko.1 (R.opd hk) w
        have hnc : ∀ cs e z, Obj.map mes clock ≠ .cells cs e z := fun _ _ _ h => by cases h
        unfold evMup3 at hq
        split at hq
        · rename_i i c0 hf
          obtain ⟨hpr, h', hp, hq⟩ := setB_spec hq
          rcases find_run (P := P) hkt hko.1 (R.opd hk) hma hf with ⟨h3, _⟩ | ⟨i', k', c', n, e', h3, h4, h5, h6, h7⟩
          · cases h3
          · injection h3 with h3; injection h3 with h3 h8
            subst h3
            obtain ⟨r1, r2, r3⟩ := hma.rep i k' c' n e' h4 h5
            have hbits := keyEq_bits h6 (R.opd hk) r1
            obtain ⟨F, H, hrun⟩ := R.toHeapAt.obj (P := P) (pr := pr) hb hpr hh hnc hp (ob' := .map (mes.modify i fun e => { e with key := a.eval k, val := a.eval v }) clock) (fun hrep => ⟨_, mapW_at hh, by simp [hma.len], fun j p d n' e'' g1 g2 => by
              rw [modify_get] at g1
              rw [Array.getElem?_modify] at g2
              by_cases hj : j = i
              · subst hj
                rw [if_pos rfl, h4] at g1
                rw [if_pos rfl, h5] at g2
                simp at g1 g2
                obtain ⟨rfl, rfl, rfl⟩ := g1
                subst g2
                exact ⟨hrep _ _ (R.opd hk), hrep _ _ (R.opd hc), r3⟩
              · rw [if_neg hj] at g1
                rw [if_neg (fun e => hj e.symm)] at g2
                obtain ⟨r1, r2, r3⟩ := hma.rep j p d n' e'' g1 g2
                exact ⟨hrep _ _ r1, hrep _ _ r2, r3⟩⟩)
            have hkk : ((mes[i]?).map (·.key)).getD (a.eval k) = e'.key := by simp [h5]
            have hup : (Instr.mapUpdate t (.map (some rr)) (a.eval k) (a.eval v)).run P w = .ok () (mapW w rr (.map (mes.modify i fun e => { e with key := a.eval k, val := a.eval v }) clock)) := by
              unfold Instr.mapUpdate
              simp only [Sem.run_bind, run_underlying ht, Result.andThen_ok, getObj_map hh, hck, h7, hkk, Instr.keyThatStays, hbits, if_true, Sem.run_pure, hrun]
            exact does_skip (by simp [execOp, ho, hv, hup]) ((void_spec (R.step (pr'' := pr) (nx' := nx) F H) hd hq undef).from F)
        · rename_i hf
          obtain ⟨hpr, h', hp, hq⟩ := setB_spec hq
          rcases find_run (P := P) hkt hko.1 (R.opd hk) hma hf with ⟨_, h4⟩ | ⟨i', k', c', n, e', h3, h4, h5, h6, h7⟩
          · obtain ⟨F, H, hrun⟩ := R.toHeapAt.obj (P := P) (pr := pr) hb hpr hh hnc hp (ob' := .map (mes.push { key := a.eval k, val := a.eval v, born := clock }) (clock + 1)) (fun hrep => ⟨_, mapW_at hh, by simp [hma.len], fun j p d n' e'' g1 g2 => by
              rcases Nat.lt_or_ge j es.length with hj | hj
              · rw [List.getElem?_append_left hj] at g1
                rw [Array.getElem?_push_lt (by rw [← hma.len]; exact hj), ← Array.getElem?_eq_getElem] at g2
                obtain ⟨r1, r2, r3⟩ := hma.rep j p d n' e'' g1 g2
                exact ⟨hrep _ _ r1, hrep _ _ r2, r3⟩
              · rw [List.getElem?_append_right hj] at g1
                have hj0 : j = es.length := by
                  rcases Nat.lt_or_ge (j - es.length) 1 with h | h
                  · omega
                  · rw [List.getElem?_eq_none (by simpa using h)] at g1; cases g1
                subst hj0
                rw [hma.len, Array.getElem?_push_size] at g2
                simp at g1 g2
                obtain ⟨rfl, rfl, rfl⟩ := g1
                subst g2
                exact ⟨hrep _ _ (R.opd hk), hrep _ _ (R.opd hc), rfl⟩⟩)
            have hup : (Instr.mapUpdate t (.map (some rr)) (a.eval k) (a.eval v)).run P w = .ok () (mapW w rr (.map (mes.push { key := a.eval k, val := a.eval v, born := clock }) (clock + 1))) := by
              unfold Instr.mapUpdate
              simp only [Sem.run_bind, run_underlying ht, Result.andThen_ok, getObj_map hh, hck, h4, hrun]
            exact does_skip (by simp [execOp, ho, hv, hup]) ((void_spec (R.step (pr'' := pr) (nx' := nx) F H) hd hq undef).from F)
          · cases h3
        · cases hq
      · cases hq
    · cases hq
  · cases hq

theorem e_del {t kt el t2 : TypeId} {m k : Operand} {c : Call} (hcl : c.callee = .builtin .delete) (hca : c.args = #[m, k]) (hct : c.argTypes = #[t, t2]) (ho : o.op = .call c) (ht : P.underlying t = some (.map kt el)) {kk : KT} (hkt : tKey P kt = some kk) (hd : ∀ d, o.dst = some d → d < N)
    (hq : evDel ⟨e, h, nx, pr⟩ o.dst kk q (VM.opd e (tOpd m)) (VM.opd e (tOpd k)) = true) (R : RelAt N B G (FR U nx) φ ⟨e, h, nx, pr⟩ a w) : Does P N B G U pr nx φ w a o q := by
  have hkt := tKey_spec hkt
  unfold evDel at hq
  split at hq
  · rename_i y kv hm hk
    unfold evDel2 at hq
    split at hq
    · rename_i es clock hs
      split at hq
      · rename_i hko
        obtain ⟨b, hb, mes, hh, hma⟩ := R.st y _ hs
        obtain ⟨rr, hv, _, hrr⟩ := rep_mp (R.opd hm)
        obtain rfl := hrr b hb
        have hck : ∀ em, (Instr.checkKey em 10000 kt (a.eval k)).run P w = .ok () w := fun em => checkKey_run em 9998 hkt hko (R.opd hk) w
        have hnc : ∀ cs e z, Obj.map mes clock ≠ .cells cs e z := fun _ _ _ h => by cases h
        unfold evDel3 at hq
        split at hq
        · rename_i i c0 hf
          obtain ⟨hpr, h', hp, hq⟩ := setB_spec hq
          rcases find_run (P := P) hkt hko (R.opd hk) hma hf with ⟨h3, _⟩ | ⟨i', k', c', n, e', h3, h4, h5, h6, h7⟩
          · cases h3
          · injection h3 with h3; injection h3 with h3 h8
            subst h3
            have hlt : i < mes.size := (Array.getElem?_eq_some_iff.1 h5).1
            obtain ⟨F, H, hrun⟩ := R.toHeapAt.obj (P := P) (pr := pr) hb hpr hh hnc hp (ob' := .map (mes.eraseIdxIfInBounds i) clock) (fun hrep => ⟨_, mapW_at hh, by simp [Array.eraseIdxIfInBounds, hlt, hma.len, List.length_eraseIdx], fun j p d n' e'' g1 g2 => by
              simp only [Array.eraseIdxIfInBounds, hlt, dif_pos, Array.getElem?_eraseIdx] at g2
              rw [List.getElem?_eraseIdx] at g1
              split at g1
              · rename_i hj
                rw [if_pos hj] at g2
                obtain ⟨r1, r2, r3⟩ := hma.rep _ p d n' e'' g1 g2
                exact ⟨hrep _ _ r1, hrep _ _ r2, r3⟩
              · rename_i hj
                rw [if_neg hj] at g2
                obtain ⟨r1, r2, r3⟩ := hma.rep _ p d n' e'' g1 g2
                exact ⟨hrep _ _ r1, hrep _ _ r2, r3⟩⟩)
            have hdel : (Builtin.delete_ #[t, t2] o.type #[.map (some rr), a.eval k]).run P w = .ok (.tuple #[]) (mapW w rr (.map (mes.eraseIdxIfInBounds i) clock)) := by
              unfold Builtin.delete_
              simp [run_underlying ht, getObj_map hh, hck, h7, hrun]
            exact does_value (u := .tuple #[]) (by simp [execOp, ho, resolve, invoke, builtin, hcl, hca, hct, hv, hdel]) ((void_spec (R.step (pr'' := pr) (nx' := nx) F H) hd hq _).from F)
        · rename_i hf
          obtain ⟨hpr, h', hp, hq⟩ := setB_spec hq
          rcases find_run (P := P) hkt hko (R.opd hk) hma hf with ⟨_, h4⟩ | ⟨i', k', c', n, e', h3, h4, h5, h6, h7⟩
          · obtain ⟨F, H, hrun⟩ := R.toHeapAt.obj (P := P) (pr := pr) hb hpr hh hnc hp (ob' := .map mes clock) (fun hrep => ⟨_, mapW_at hh, hma.len, fun j p d n' e'' g1 g2 => by
                obtain ⟨r1, r2, r3⟩ := hma.rep _ p d n' e'' g1 g2
                exact ⟨hrep _ _ r1, hrep _ _ r2, r3⟩⟩)
            have hdel : (Builtin.delete_ #[t, t2] o.type #[.map (some rr), a.eval k]).run P w = .ok (.tuple #[]) (mapW w rr (.map mes clock)) := by
              unfold Builtin.delete_
              simp [run_underlying ht, getObj_map hh, hck, h4, hrun]
            exact does_value (u := .tuple #[]) (by simp [execOp, ho, resolve, invoke, builtin, hcl, hca, hct, hv, hdel]) ((void_spec (R.step (pr'' := pr) (nx' := nx) F H) hd hq _).from F)
          · cases h3
        · cases hq
      · cases hq
    · cases hq
  · cases hq

/-- a map's entries, one by one -/
def Al (w : World) (X : Nat → Prop) (φ : Loc) : List (V × V × Nat) → List MapEntry → Prop
  | [], [] => True
  | x :: es, e :: mes => (Rep w X φ x.1 e.key ∧ Rep w X φ x.2.1 e.val ∧ e.born = x.2.2) ∧ Al w X φ es mes
  | _, _ => False

theorem al_of {X : Nat → Prop} : ∀ {es : List (V × V × Nat)} {mes : List MapEntry}, es.length = mes.length →
    (∀ (i : Nat) (k v : V) (n : Nat) (e : MapEntry), es[i]? = some (k, v, n) → mes[i]? = some e → Rep w X φ k e.key ∧ Rep w X φ v e.val ∧ e.born = n) → Al w X φ es mes
  | [], [], _, _ => trivial
  | [], _ :: _, h, _ => by cases h
  | _ :: _, [], h, _ => by cases h
  | (k, v, n) :: es, e :: mes, hl, hr => ⟨hr 0 k v n e rfl rfl, al_of (by simpa using hl) fun i k v n e g1 g2 => hr (i + 1) k v n e (by simpa using g1) (by simpa using g2)⟩

theorem Al.filter {X : Nat → Prop} (p : Nat → Bool) : ∀ {es : List (V × V × Nat)} {mes : List MapEntry}, Al w X φ es mes → Al w X φ (es.filter fun x => p x.2.2) (mes.filter fun e => p e.born)
  | [], [], _ => trivial
  | [], _ :: _, h => h.elim
  | _ :: _, [], h => h.elim
  | x :: es, e :: mes, ⟨h1, h2⟩ => by
    have ih := Al.filter p h2
    simp only [List.filter_cons, h1.2.2]
    cases p x.2.2
    · exact ih
    · exact ⟨h1, ih⟩

theorem Al.all {X : Nat → Prop} (p : Nat → Bool) : ∀ {es : List (V × V × Nat)} {mes : List MapEntry}, Al w X φ es mes → es.all (fun x => p x.2.2) = mes.all fun e => p e.born
  | [], [], _ => rfl
  | [], _ :: _, h => h.elim
  | _ :: _, [], h => h.elim
  | x :: es, e :: mes, ⟨h1, h2⟩ => by simp only [List.all_cons, h1.2.2, Al.all p h2]

theorem Al.nil {X : Nat → Prop} {mes : List MapEntry} (h : Al w X φ [] mes) : mes = [] := by
  cases mes with
  | nil => rfl
  | cons => exact h.elim
theorem Al.one {X : Nat → Prop} {x : V × V × Nat} {mes : List MapEntry} (h : Al w X φ [x] mes) : ∃ e, mes = [e] ∧ Rep w X φ x.1 e.key ∧ Rep w X φ x.2.1 e.val ∧ e.born = x.2.2 := by
  match mes, h with
  | [e], h => exact ⟨e, rfl, h.1⟩
  | _ :: _ :: _, h => exact h.2.elim
theorem Al.empty {X : Nat → Prop} {es : List (V × V × Nat)} {mes : List MapEntry} (h : Al w X φ es mes) : es.isEmpty = mes.isEmpty := by
  cases es <;> cases mes <;> first | rfl | exact h.elim

theorem blt_dec (m n : Nat) : Nat.blt m n = decide (m < n) := by
  by_cases h : m < n
  · rw [decide_eq_true h]; exact Nat.ble_eq_true_of_le h
  · rw [decide_eq_false h]
    cases hh : Nat.blt m n with
    | true => exact absurd (Nat.le_of_ble_eq_true hh) h
    | false => rfl
theorem ble_dec (m n : Nat) : Nat.ble m n = decide (m ≤ n) := by
  by_cases h : m ≤ n
  · rw [decide_eq_true h]; exact Nat.ble_eq_true_of_le h
  · rw [decide_eq_false h]
    cases hh : Nat.ble m n with
    | true => exact absurd (Nat.le_of_ble_eq_true hh) h
    | false => rfl

theorem nextOf_spec {X : Nat → Prop} {es : List (V × V × Nat)} {mes : Array MapEntry} {since last : Nat} {seen : List Nat} {r : Option (V × V × Nat)} (hal : Al w X φ es mes.toList) (h : nextOf es since seen last = some r) :
    (!seen.toArray.isEmpty && !mes.isEmpty && mes.all fun e => decide (e.born ≥ last)) = false ∧
    ((r = none ∧ ((mes.filter fun e => !seen.toArray.contains e.born).filter fun e => decide (e.born < since)) = #[] ∧ ((mes.filter fun e => !seen.toArray.contains e.born).filter fun e => decide (e.born ≥ since)) = #[]) ∨
    ∃ x e, r = some x ∧ ((mes.filter fun e => !seen.toArray.contains e.born).filter fun e => decide (e.born < since)) = #[e] ∧ ((mes.filter fun e => !seen.toArray.contains e.born).filter fun e => decide (e.born ≥ since)) = #[] ∧ Rep w X φ x.1 e.key ∧ Rep w X φ x.2.1 e.val ∧ e.born = x.2.2) := by
  unfold nextOf at h
  split at h
  · cases h
  · rename_i hc
    have hc' : (!seen.toArray.isEmpty && !mes.isEmpty && mes.all fun e => decide (e.born ≥ last)) = false := by
      have h1 := hal.all fun n => Nat.ble last n
      have h2 := hal.empty
      rw [h1, h2] at hc
      simp only [ble_dec] at hc
      have e1 : mes.all (fun e => decide (e.born ≥ last)) = mes.toList.all fun e => decide (last ≤ e.born) := by simp
      have e2 : mes.isEmpty = mes.toList.isEmpty := by simp
      have e3 : seen.toArray.isEmpty = seen.isEmpty := by simp
      rw [e1, e2, e3]
      exact hc
    refine ⟨hc', ?_⟩
    have hl := hal.filter fun n => !seen.contains n
    have ho := hl.filter fun n => Nat.blt n since
    have hn := hl.filter fun n => Nat.ble since n
    simp only [blt_dec, ble_dec] at ho hn h
    have eo : ((mes.filter fun e => !seen.toArray.contains e.born).filter fun e => decide (e.born < since)).toList = (mes.toList.filter fun e => !seen.contains e.born).filter fun e => decide (e.born < since) := by
      simp only [Array.toList_filter, List.contains_toArray]
    have en : ((mes.filter fun e => !seen.toArray.contains e.born).filter fun e => decide (e.born ≥ since)).toList = (mes.toList.filter fun e => !seen.contains e.born).filter fun e => decide (since ≤ e.born) := by
      simp only [Array.toList_filter, List.contains_toArray, ge_iff_le]
    split at h
    · rename_i h1 h2
      rw [h1] at ho
      rw [h2] at hn
      injection h with h
      exact .inl ⟨h.symm, Array.ext' (by rw [eo, ho.nil]), Array.ext' (by rw [en, hn.nil])⟩
    · rename_i x h1 h2
      rw [h1] at ho
      rw [h2] at hn
      injection h with h
      obtain ⟨e, he, h3⟩ := ho.one
      exact .inr ⟨x, e, h.symm, Array.ext' (by rw [eo, he]), Array.ext' (by rw [en, hn.nil]), h3⟩
    · cases h

theorem rep_three {X : Nat → Prop} {c d f : V} {u v x : Value} (h1 : Rep w X φ c u) (h2 : Rep w X φ d v) (h3 : Rep w X φ f x) : Rep w X φ (.tup [c, d, f]) (.tuple #[u, v, x]) :=
  .tup [c, d, f] [u, v, x] rfl fun i c' v' g1 g2 => by
    match i with
    | 0 => simp at g1 g2; subst g1; subst g2; exact h1
    | 1 => simp at g1 g2; subst g1; subst g2; exact h2
    | 2 => simp at g1 g2; subst g1; subst g2; exact h3
    | i + 3 => simp at g1
theorem rep_no {X : Nat → Prop} : Rep w X φ (.tup [.raw (.bool false)]) (.tuple #[.bool false]) :=
  .tup [.raw (.bool false)] [.bool false] rfl fun i c' v' g1 g2 => by
    match i with
    | 0 => simp at g1 g2; subst g1; subst g2; exact mk_b
    | i + 1 => simp at g1

theorem e_nxt {x : Operand} (ho : o.op = .next x false) (hd : ∀ d, o.dst = some d → d < N) (hq : evNxt ⟨e, h, nx, pr⟩ nm o.dst q (VM.opd e (tOpd x)) = true) (R : RelAt N B G (FR U nx) φ ⟨e, h, nx, pr⟩ a w) : Does P N B G U pr nx φ w a o q := by
  unfold evNxt at hq
  split at hq
  · rename_i y hx
    unfold evNxt1 at hq
    split at hq
    · rename_i s0 s1 s2 hs
      obtain ⟨b, hb, rr, hh, rfl⟩ := R.st y _ hs
      obtain ⟨ad, hv, _, _, had⟩ := rep_ptr (R.opd hx)
      obtain rfl := had b hb
      refine does_value (u := .tuple #[.bool false]) (w' := w) ?_ (out_same R rep_no hd hq)
      simp [execOp, ho, hv, Instr.next, getObj_it hh]
    · rename_i m since seen last hs
      unfold evNxt2 at hq
      split at hq
      · rename_i es clock hm
        obtain ⟨b, hb, rr, hh, hd', d, rfl, hdd⟩ := R.st y _ hs
        obtain ⟨b', hb', mes, hh', hma⟩ := R.st m _ hm
        obtain rfl := hdd b' hb'
        obtain ⟨ad, hv, _, _, had⟩ := rep_ptr (R.opd hx)
        obtain rfl := had b hb
        have hal := al_of (mes := mes.toList) (by simpa using hma.len) fun i k v n e g1 g2 => hma.rep i k v n e g1 (by simpa using g2)
        unfold evNxt3 at hq
        split at hq
        · rename_i hn
          obtain ⟨hc, h1 | ⟨x', e', h1, _⟩⟩ := nextOf_spec hal hn
          · obtain ⟨_, h2, h3⟩ := h1
            have hrun : (Instr.next (.pointer (some ⟨b, 0, none⟩)) false o.type).run P w = .ok (.tuple #[.bool false]) w := by
              unfold Instr.next
              simp only [Sem.run_bind, Sem.run_pure, Result.andThen_ok, getObj_it hh, getObj_map hh', hc, h2, h3]
              simp [Question.forced]
            exact does_value (u := .tuple #[.bool false]) (w' := w) (by simp [execOp, ho, hv, hrun]) (out_same R rep_no hd hq)
          · cases h1
        · rename_i k c n hn
          obtain ⟨hc, ⟨h1, _⟩ | ⟨x', e', h1, h2, h3, h4, h5, h6⟩⟩ := nextOf_spec hal hn
          · cases h1
          · injection h1 with h1
            subst h1
            dsimp only at h4 h5 h6
            obtain ⟨hpr, h'', hp, hq⟩ := setB_spec hq
            obtain ⟨F, H, hset⟩ := R.toHeapAt.obj (P := P) (pr := pr) hb hpr hh (fun _ _ _ h => by cases h) hp (ob' := .mapIter (some d) since (seen ++ [e'.born]).toArray clock) (fun hrep => ⟨some d, by rw [mapW_at hh, h6], hd', d, rfl, hdd⟩)
            have hrun : (Instr.next (.pointer (some ⟨b, 0, none⟩)) false o.type).run P w = .ok (.tuple #[.bool true, e'.key, e'.val]) (mapW w b (.mapIter (some d) since (seen ++ [e'.born]).toArray clock)) := by
              unfold Instr.next
              simp only [Sem.run_bind, Sem.run_pure, Result.andThen_ok, getObj_it hh, getObj_map hh', hc, h2, h3]
              simp [Question.forced, hset]
            exact does_value (by simp [execOp, ho, hv, hrun]) ((out_same (R.step (pr'' := pr) (nx' := nx) F H) (rep_three mk_b (F.rep h4) (F.rep h5)) hd hq).from F)
        · cases hq
      · cases hq
    · cases hq
  · cases hq

end ops
end
end Go.VM
end

section
/- The machine VM, part 10: append. -/
set_option linter.unusedVariables false
set_option linter.unusedSectionVars false
set_option linter.unusedSimpArgs false
set_option linter.constructorNameAsVariable false
namespace Go.VM
open Go.RowKit
variable [Val]

theorem zeros_size (z : Array Value) (n : Nat) : (Builtin.zeroCells z n).size = n * z.size := by simp [Builtin.zeroCells]

theorem flat_get {α : Type} {sz : Nat} (h0 : 0 < sz) : ∀ {ls : List (List α)} (i : Nat), (∀ l ∈ ls, l.length = sz) → ls.flatten[i]? = (ls[i / sz]?).bind (·[i % sz]?)
  | [], i, _ => by simp
  | l :: ls, i, h => by
    have hl := h l (by simp)
    rw [List.flatten_cons]
    by_cases hi : i < sz
    · rw [List.getElem?_append_left (by omega), Nat.div_eq_of_lt hi, Nat.mod_eq_of_lt hi]
      simp
    · rw [List.getElem?_append_right (by omega), hl, flat_get h0 (i - sz) fun l hl => h l (by simp [hl])]
      have e1 : i / sz = (i - sz) / sz + 1 := by
        rw [← Nat.add_div_right _ h0]; congr 1; omega
      have e2 : i % sz = (i - sz) % sz := Nat.mod_eq_sub_mod (by omega)
      rw [e1, e2]
      simp

section
variable {P : Program} {ty : TypeId} {N : Nat} {B : Nat → Prop} {G : Nat → Nat → Value → Prop} {fr U : Nat → Prop} {φ : Loc} {a : Act} {w : World} {e : T V} {h : Heap} {nx : Nat} {pr : List Nat}

/-- lists of cells, and what they are -/
def LW (w : World) (X : Nat → Prop) (φ : Loc) (cs : List V) (vs : List Value) : Prop := cs.length = vs.length ∧ ∀ (i : Nat) (c : V) (v : Value), cs[i]? = some c → vs[i]? = some v → Rep w X φ c v ∧ v.oneCell' = true

theorem LW.one {X : Nat → Prop} {cs : List V} {vs : List Value} (h : LW w X φ cs vs) : ∀ u ∈ vs, u.oneCell' = true := fun u hu => by
  obtain ⟨i, hi⟩ := List.mem_iff_getElem?.1 hu
  have hlt : i < cs.length := by rw [h.1]; exact (List.getElem?_eq_some_iff.1 hi).1
  exact (h.2 i cs[i] u (by simp [hlt]) hi).2

theorem LW.nil {X : Nat → Prop} : LW w X φ [] [] := ⟨rfl, fun i c v h => by cases h⟩

theorem LW.append {X : Nat → Prop} {cs ds : List V} {vs us : List Value} (h : LW w X φ cs vs) (k : LW w X φ ds us) : LW w X φ (cs ++ ds) (vs ++ us) := by
  refine ⟨by simp [h.1, k.1], fun i c v h1 h2 => ?_⟩
  by_cases hi : i < cs.length
  · rw [List.getElem?_append_left hi] at h1
    rw [List.getElem?_append_left (by rw [← h.1]; exact hi)] at h2
    exact h.2 i c v h1 h2
  · rw [List.getElem?_append_right (by omega)] at h1
    rw [List.getElem?_append_right (by rw [← h.1]; omega), ← h.1] at h2
    exact k.2 _ c v h1 h2

theorem LW.mono {X X' : Nat → Prop} {φ' : Loc} {w' : World} (hr : ∀ c v, Rep w X φ c v → Rep w' X' φ' c v) {cs : List V} {vs : List Value} (h : LW w X φ cs vs) : LW w' X' φ' cs vs :=
  ⟨h.1, fun i c v h1 h2 => ⟨hr _ _ (h.2 i c v h1 h2).1, (h.2 i c v h1 h2).2⟩⟩

/-- a stretch of a block -/
theorem cut_lw {X : Nat → Prop} {cs : List V} {vs : Array Value} (hv : ∀ (i : Nat) (c : V) (v : Value), cs[i]? = some c → vs[i]? = some v → Rep w X φ c v ∧ v.oneCell' = true) (hle : cs.length ≤ vs.size) {off k : Nat} (ho : off + k ≤ cs.length) :
    LW w X φ (cut cs off k) ((vs.toList.drop off).take k) ∧ ((vs.toList.drop off).take k).length = k ∧ ∀ j u, ((vs.toList.drop off).take k)[j]? = some u → vs[off + j]? = some u := by
  have hg : ∀ j u, ((vs.toList.drop off).take k)[j]? = some u → vs[off + j]? = some u := fun j u h => by
    rw [List.getElem?_take] at h
    split at h
    · simpa using h
    · cases h
  have hl : ((vs.toList.drop off).take k).length = k := by simp; omega
  refine ⟨⟨by rw [cut_len ho, hl], fun i c v h1 h2 => ?_⟩, hl, hg⟩
  obtain ⟨_, h3⟩ := cut_get h1
  exact hv _ _ _ h3 (hg _ _ h2)

/-- what is appended -/
theorem elems_spec (R : RelAt N B G fr φ ⟨e, h, nx, pr⟩ a w) {t el : TypeId} (ht : P.underlying t = some (.slice el)) {sz m : Nat} (h0 : 0 < sz) {c : V} {v : Value} {new : List V} (hc : elems h sz c = some (m, new)) (hr : Rep w (Excl B φ) φ c v) :
    ∃ news, Src P sz t v m news w ∧ LW w (Excl B φ) φ new news := by
  unfold elems at hc
  split at hc
  · rename_i y sz' off n cap
    split at hc
    · rename_i cs hs hsz
      split at hc
      · rename_i hle
        have hsz : sz = sz' := Nat.eq_of_beq_eq_true hsz
        subst hsz
        have hle := Nat.le_of_ble_eq_true hle
        injection hc with hc; injection hc with h1 h2
        subst h1; subst h2
        obtain ⟨b, hb, vs, t', z, hh, hz, hlen, hv⟩ := R.st y _ hs
        obtain ⟨ad, c', rfl, _, _, had⟩ := rep_sl hr
        obtain ⟨had, hnc, _⟩ := had b hb
        obtain ⟨g1, g2, g3⟩ := cut_lw hv hlen hle
        refine ⟨_, Src.ofSlice w ht ad n c' _ (by rw [g2]) (fun j u hu => ?_) g1.one, g1⟩
        have hj : j < n * sz := by rw [← g2]; exact (List.getElem?_eq_some_iff.1 hu).1
        have hn : 0 < n := by
          rcases Nat.eq_zero_or_pos n with h | h
          · subst h; omega
          · exact h
        rw [had (by omega), addr_add _ rfl, cell_of_heap hh]
        exact g3 j u hu
      · cases hc
    · cases hc
  · rename_i sz' n g
    split at hc
    · rename_i hsz
      have hsz : sz = sz' := Nat.eq_of_beq_eq_true hsz
      subst hsz
      injection hc with hc; injection hc with h1 h2
      subst h1; subst h2
      cases hr with
      | fro _ _ _ ad cap val hs hx hlt hcap hr h1 hf hn =>
        have hA : ∀ l ∈ (List.range n).map fun j => cellsAt (g j) 0 sz, l.length = sz := fun l hl => by
          obtain ⟨j, _, rfl⟩ := List.mem_map.1 hl
          exact cellsAt_len _ _ _
        have hB : ∀ l ∈ (List.range n).map fun j => (List.range sz).map (val j), l.length = sz := fun l hl => by
          obtain ⟨j, _, rfl⟩ := List.mem_map.1 hl
          simp
        have hlen : ∀ {α : Type} {ls : List (List α)}, (∀ l ∈ ls, l.length = sz) → ls.flatten.length = ls.length * sz := fun {α ls} => by
          induction ls with
          | nil => intro _; simp
          | cons l ls ih =>
            intro hh
            rw [List.flatten_cons, List.length_append, ih fun l hl => hh l (by simp [hl]), hh l (by simp), List.length_cons, Nat.add_mul]
            omega
        have hget : ∀ i u, ((List.range n).map fun j => (List.range sz).map (val j)).flatten[i]? = some u → i / sz < n ∧ i % sz < sz ∧ u = val (i / sz) (i % sz) := fun i u hu => by
          rw [flat_get h0 i hB] at hu
          obtain ⟨l, hl, hu⟩ := Option.bind_eq_some_iff.1 hu
          have hi : i / sz < n := by have := (List.getElem?_eq_some_iff.1 hl).1; simpa using this
          have hm : i % sz < sz := Nat.mod_lt _ h0
          simp only [List.getElem?_map, List.getElem?_range hi, Option.map_some, Option.some.injEq] at hl
          subst hl
          simp only [List.getElem?_map, List.getElem?_range hm, Option.map_some, Option.some.injEq] at hu
          exact ⟨hi, hm, hu.symm⟩
        have hLW : LW w (Excl B φ) φ ((List.range n).map fun j => cellsAt (g j) 0 sz).flatten ((List.range n).map fun j => (List.range sz).map (val j)).flatten := by
          refine ⟨by rw [hlen hA, hlen hB]; simp, fun i c u hc hu => ?_⟩
          obtain ⟨hi, hm, rfl⟩ := hget i u hu
          rw [flat_get h0 i hA] at hc
          obtain ⟨l, hl, hc⟩ := Option.bind_eq_some_iff.1 hc
          simp only [List.getElem?_map, List.getElem?_range hi, Option.map_some, Option.some.injEq] at hl
          subst hl
          obtain ⟨_, rfl⟩ := cellsAt_get _ _ _ _ _ hc
          rw [Nat.zero_add]
          exact ⟨hf _ _ hi hm, h1 _ _ hi hm⟩
        refine ⟨_, Src.ofSlice w ht ad n cap _ (by rw [hlen hB]; simp) (fun j u hu => ?_) hLW.one, hLW⟩
        obtain ⟨hi, hm, rfl⟩ := hget j u hu
        rw [addr_add _ hs]
        have := hr _ _ hi hm
        rwa [Nat.mul_comm, Nat.div_add_mod] at this
      | froNil _ _ => exact ⟨[], Src.ofNil w ht 0, .nil⟩
      | froZero _ _ ad cap => exact ⟨[], Src.ofSlice w ht ad 0 cap [] (by simp) (fun j u h => by cases h) (fun u h => by cases h), .nil⟩
    · cases hc
  · injection hc with hc; injection hc with h1 h2
    subst h1; subst h2
    obtain ⟨ad, rfl⟩ := rep_emp hr
    exact ⟨[], Src.ofSlice w ht ad 0 0 [] (by simp) (fun j u h => by cases h) (fun u h => by cases h), .nil⟩
  · injection hc with hc; injection hc with h1 h2
    subst h1; subst h2
    rw [(rep_raw hr).1]
    exact ⟨[], Src.ofNil w ht 0, .nil⟩
  · cases hc

/-- A name is given up, and another stands for what is there then. -/
theorem HeapAt.move (R : HeapAt B G fr φ h w) {y b : Nat} (hy : φ y = some (some b)) (hpr : y ∉ pr) {nm : Nat} (hf : fr nm) {w' : World} (hs : w.heap.size ≤ w'.heap.size) (ho : ∀ c, c ≠ b → c < w.heap.size → w'.heap[c]? = w.heap[c]?) (ho' : w'.os = w.os) (ht : w'.tape = w.tape) (hu : w'.output = w.output)
    (hkeep : ∀ (cs : Array Value) (e : TypeId) (z : Nat × Nat), w.heap[b]? = some (.cells cs e z) → ∃ cs' e' z', w'.heap[b]? = some (.cells cs' e' z') ∧ cs'.size = cs.size) {v : Nat} (hv : v = b ∨ w.heap.size ≤ v) (hvlt : v < w'.heap.size)
    {h1 h2 : Heap} (hp1 : Put h y none h1) {k : Blk} (hp2 : Put h1 nm (some k) h2)
    (hbl : ∀ φ', (∀ c v, Rep w (Excl B φ) φ c v → Rep w' (Excl B φ') φ' c v) → φ' nm = some (some v) → BlkAt w' (Excl B φ') φ' v k) :
    ∃ φ', Fwd pr φ w φ' w' ∧ HeapAt B G (fun x => fr x ∧ x ≠ nm) φ' h2 w' ∧ φ' nm = some (some v) := by
  have hnone := R.free nm hf
  have hny : nm ≠ y := fun e => by rw [e, hy] at hnone; cases hnone
  let ψ : Loc := fun x => if x = nm then some (some v) else if x = y then some none else φ x
  have ψnm : ψ nm = some (some v) := by simp [ψ]
  have ψy : ψ y = some none := by simp [ψ, hny.symm]
  have ψo : ∀ x, x ≠ nm → x ≠ y → ψ x = φ x := fun x h1 h2 => by simp [ψ, h1, h2]
  have hin : ∀ x c, ψ x = some (some c) → (x ≠ nm ∧ x ≠ y ∧ φ x = some (some c)) ∨ (x = nm ∧ c = v) := fun x c hx => by
    by_cases h1 : x = nm
    · subst h1; rw [ψnm] at hx; injection hx with hx; injection hx with hx; exact .inr ⟨rfl, hx.symm⟩
    · by_cases h2 : x = y
      · subst h2; rw [ψy] at hx; cases hx
      · rw [ψo x h1 h2] at hx; exact .inl ⟨h1, h2, hx⟩
  have F : Fwd pr φ w ψ w' := ⟨ho', ht, hu, hs, fun c hc hn => ho c (fun e => hpr (hn y (e ▸ hy))) hc, fun x c hx => by
      rcases hin x c hx with ⟨_, _, hx⟩ | ⟨rfl, rfl⟩
      · exact .inl ⟨x, hx, .inl rfl⟩
      · rcases hv with rfl | hv
        · exact .inl ⟨y, hy, .inr hpr⟩
        · exact .inr hv, fun x u hx => by
      by_cases h2 : x = y
      · subst h2; exact .inr ⟨ψy, hpr⟩
      · have h1 : x ≠ nm := fun e => by rw [e, hnone] at hx; cases hx
        exact .inl ((ψo x h1 h2).trans hx), fun c cs e z hc => by
      by_cases hcb : c = b
      · subst hcb; exact hkeep cs e z hc
      · exact ⟨cs, e, z, (ho c hcb (heap_lt hc)).trans hc, rfl⟩⟩
  refine ⟨ψ, F, R.step F (fun x k' hk' => ?_) (fun x x' c h1 h2 => ?_) (fun x c hx => ?_) (fun x hx => ?_), ψnm⟩
  · rw [hp2 x] at hk'
    split at hk'
    · rename_i hx
      subst hx
      injection hk' with hk'
      subst hk'
      exact .inr ⟨v, ψnm, hbl ψ (fun c v h => F.rep h) ψnm⟩
    · rename_i hx
      rw [hp1 x] at hk'
      split at hk'
      · cases hk'
      · rename_i hxy
        refine .inl ⟨hk', ψo x hx hxy, fun c hc => ho c (fun e => hxy (R.inj x y b (e ▸ hc) hy)) (R.lt x c hc).1⟩
  · rcases hin x c h1 with ⟨a1, a2, a3⟩ | ⟨rfl, rfl⟩ <;> rcases hin x' c h2 with ⟨b1, b2, b3⟩ | ⟨b1, b2⟩
    · exact R.inj x x' c a3 b3
    · exfalso
      subst b2
      rcases hv with rfl | hv
      · exact a2 (R.inj x y _ a3 hy)
      · have := (R.lt x _ a3).1; omega
    · exfalso
      rcases hv with rfl | hv
      · exact b2 (R.inj x' y _ b3 hy)
      · have := (R.lt x' _ b3).1; omega
    · exact b1.symm
  · rcases hin x c hx with ⟨_, _, h3⟩ | ⟨_, rfl⟩
    · have := R.lt x c h3; exact ⟨by omega, this.2⟩
    · refine ⟨hvlt, fun hB => ?_⟩
      rcases hv with rfl | hv
      · exact (R.lt y _ hy).2 hB
      · have := R.ltB c hB; omega
  · have h1 := R.free x hx.1
    by_cases h2 : x = y
    · subst h2; rw [hy] at h1; cases h1
    · rw [ψo x hx.2 h2]; exact h1

end
end Go.VM
end
