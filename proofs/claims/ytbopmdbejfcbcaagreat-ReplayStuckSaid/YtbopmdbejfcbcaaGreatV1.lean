/- The machine VM, part 1: values, stores, and what they stand for. Plain definitions and theorems over any program. -/
import Derived.Calls
import Derived.Orders
import Derived.OrdersHeld
import Derived.Below
import Derived.Laws.Cells
import Derived.Laws.Append
import Derived.KernelRfl
set_option linter.unusedVariables false
set_option linter.unusedSectionVars false
set_option linter.unusedSimpArgs false
namespace Go.VM
open Go.RowKit

/-! ### tables by numbers -/

inductive T (α : Type) where
  | e
  | n (l : T α) (v : Option α) (r : T α)

def T.get {α : Type} : T α → Nat → Option α
  | .e, _ => none
  | .n l v r, k => match k with
    | 0 => v
    | k + 1 => match Nat.mod k 2 with
      | 0 => l.get (Nat.div k 2)
      | _ + 1 => r.get (Nat.div k 2)

/-- a place is written; told by what is done with the table -/
def T.putK {α : Type} (v : Option α) : Nat → T α → Nat → (T α → Bool) → Bool
  | 0, _, _, _ => false
  | d + 1, t, k, q => match t with
    | .e => match k with
      | 0 => q (.n .e v .e)
      | k + 1 => match Nat.mod k 2 with
        | 0 => putK v d .e (Nat.div k 2) fun l => q (.n l none .e)
        | _ + 1 => putK v d .e (Nat.div k 2) fun r => q (.n .e none r)
    | .n l u r => match k with
      | 0 => q (.n l v r)
      | k + 1 => match Nat.mod k 2 with
        | 0 => putK v d l (Nat.div k 2) fun l => q (.n l u r)
        | _ + 1 => putK v d r (Nat.div k 2) fun r => q (.n l u r)

/-- t' is t, but for the place k -/
def Put {α : Type} (t : T α) (k : Nat) (v : Option α) (t' : T α) : Prop := ∀ i, t'.get i = if i = k then v else t.get i

theorem T.get_e {α : Type} (k : Nat) : (T.e : T α).get k = none := rfl

theorem half {i k : Nat} (h1 : i % 2 = k % 2) : (i / 2 = k / 2) ↔ i = k := by omega

theorem get_n {α : Type} (l : T α) (v : Option α) (r : T α) (k : Nat) : (T.n l v r).get k = if k = 0 then v else if (k - 1) % 2 = 0 then l.get ((k - 1) / 2) else r.get ((k - 1) / 2) := by
  cases k with
  | zero => rfl
  | succ k =>
    simp only [T.get, Nat.add_sub_cancel, Nat.succ_ne_zero, if_false, Nat.add_one_ne_zero]
    show (match k % 2 with | 0 => l.get (k / 2) | _ + 1 => r.get (k / 2)) = _
    rcases Nat.mod_two_eq_zero_or_one k with h | h <;> rw [h] <;> rfl

theorem T.putK_spec {α : Type} {v : Option α} : ∀ {d : Nat} {t : T α} {k : Nat} {q : T α → Bool}, T.putK v d t k q = true → ∃ t', Put t k v t' ∧ q t' = true := by
  have left : ∀ {l l' r : T α} {u : Option α} {k : Nat}, Nat.mod k 2 = 0 → Put l (Nat.div k 2) v l' → Put (.n l u r) (k + 1) v (.n l' u r) := by
    intro l l' r u k hk h i
    have hk' : k % 2 = 0 := hk
    rw [get_n, get_n]
    rcases Nat.eq_zero_or_pos i with rfl | hi
    · rw [if_pos rfl, if_neg (by omega), if_pos rfl]
    · rw [if_neg (by omega), if_neg (by omega : ¬ i = 0)]
      by_cases hp : (i - 1) % 2 = 0
      · rw [if_pos hp, if_pos hp, h]
        have := half (i := i - 1) (k := k) (by omega)
        by_cases he : i = k + 1
        · subst he; rw [if_pos rfl, if_pos]; exact this.2 (by omega)
        · rw [if_neg he, if_neg]; intro hh; exact he (by have := this.1 hh; omega)
      · rw [if_neg hp, if_neg hp, if_neg (by omega)]
  have right : ∀ {l r' r : T α} {u : Option α} {k m : Nat}, Nat.mod k 2 = m + 1 → Put r (Nat.div k 2) v r' → Put (.n l u r) (k + 1) v (.n l u r') := by
    intro l r' r u k m hk h i
    have hk' : k % 2 = m + 1 := hk
    rw [get_n, get_n]
    rcases Nat.eq_zero_or_pos i with rfl | hi
    · rw [if_pos rfl, if_neg (by omega), if_pos rfl]
    · rw [if_neg (by omega), if_neg (by omega : ¬ i = 0)]
      by_cases hp : (i - 1) % 2 = 0
      · rw [if_pos hp, if_pos hp, if_neg (by omega)]
      · rw [if_neg hp, if_neg hp, h]
        have := half (i := i - 1) (k := k) (by omega)
        by_cases he : i = k + 1
        · subst he; rw [if_pos rfl, if_pos]; exact this.2 (by omega)
        · rw [if_neg he, if_neg]; intro hh; exact he (by have := this.1 hh; omega)
  have empty : ∀ {k : Nat} {t : T α}, Put (.n .e none .e) k v t → Put .e k v t := fun {k t} h i => by
    rw [h i]
    by_cases hi : i = k
    · rw [if_pos hi, if_pos hi]
    · rw [if_neg hi, if_neg hi]
      rw [get_n]
      simp [T.get_e]
  have zero : ∀ {l r : T α} {u : Option α}, Put (.n l u r) 0 v (.n l v r) := fun i => by
    rw [get_n, get_n]
    by_cases hi : i = 0
    · simp [hi]
    · simp [hi]
  intro d
  induction d with
  | zero => intro t k q h; cases h
  | succ d ih =>
    intro t k q h
    cases t with
    | e =>
      cases k with
      | zero => exact ⟨_, empty zero, h⟩
      | succ k =>
        simp only [T.putK] at h
        split at h
        · rename_i hk
          obtain ⟨l, h1, h2⟩ := ih h
          exact ⟨_, empty (left hk h1), h2⟩
        · rename_i hk
          obtain ⟨r, h1, h2⟩ := ih h
          exact ⟨_, empty (right hk h1), h2⟩
    | n l u r =>
      cases k with
      | zero => exact ⟨_, zero, h⟩
      | succ k =>
        simp only [T.putK] at h
        split at h
        · rename_i hk
          obtain ⟨l, h1, h2⟩ := ih h
          exact ⟨_, left hk h1, h2⟩
        · rename_i hk
          obtain ⟨r, h1, h2⟩ := ih h
          exact ⟨_, right hk h1, h2⟩

/-! ### values -/

inductive V where
  /-- whatever it is -/
  | any
  /-- one cell, whatever it holds -/
  | opq
  /-- the value number i, of one cell -/
  | con (i : Nat)
  /-- one cell's value that names no memory -/
  | raw (v : Value)
  | str (bs : List Nat)
  | agg (cs : List V)
  | tup (vs : List V)
  /-- a slice of the block named x: sz cells an element, from cell off on; its room (none: to the block's end) -/
  | sl (x sz off len : Nat) (cap : Option Nat)
  /-- a slice that is not nil, without elements and without room -/
  | emp
  /-- the address of a cell of the block named x -/
  | ptr (x off : Nat)
  | mp (x : Nat)
  | fn (f : Fn) (first cap : List V)
  /-- a slice in memory that nobody writes any more; the address of k cells there -/
  | fro (sz n : Nat) (g : Nat → Nat → V)
  | fpt (k : Nat) (g : Nat → V)
  deriving Inhabited

/-- names nothing -/
def V.nl : Nat → V → Bool
  | 0, _ => false
  | d + 1, c => match c with
    | .agg cs => cs.all (V.nl d)
    | .tup cs => cs.all (V.nl d)
    | .fn _ a b => a.all (V.nl d) && b.all (V.nl d)
    | .sl _ _ _ _ _ => false
    | .ptr _ _ => false
    | .mp _ => false
    | _ => true

/-- What a name stands for: nothing as yet; nothing any more; a block. -/
abbrev Loc := Nat → Option (Option Nat)

/-- a slice's room -/
def Room (w : World) (b sz off len : Nat) (cap : Option Nat) (c : Nat) : Prop :=
  len ≤ c ∧ ∃ vs e z, w.heap[b]? = some (.cells vs e z) ∧ off + c * sz ≤ vs.size ∧ match cap with | some k => c = k | none => off + c * sz = vs.size

/-- values that are not looked into, by numbers -/
class Val where
  ρ : Nat → Value
variable [Val]

/-- What a value stands for. X: blocks that memory that nobody writes lies outside of. -/
inductive Rep (w : World) (X : Nat → Prop) (φ : Loc) : V → Value → Prop
  | any (v : Value) : Rep w X φ .any v
  | opq (v : Value) (h : v.oneCell' = true) : Rep w X φ .opq v
  | con (i : Nat) (v : Value) (he : v = Val.ρ i) (h : v.oneCell' = true) : Rep w X φ (.con i) v
  | raw (v : Value) (h : v.oneCell' = true) : Rep w X φ (.raw v) v
  | str (bs : List Nat) (t : ByteArray) (h : t.data.toList.map UInt8.toNat = bs) : Rep w X φ (.str bs) (.string t)
  | agg (cs : List V) (vs : List Value) (hl : cs.length = vs.length) (h : ∀ (i : Nat) (c : V) (v : Value), cs[i]? = some c → vs[i]? = some v → Rep w X φ c v) : Rep w X φ (.agg cs) (.agg vs.toArray)
  | tup (cs : List V) (vs : List Value) (hl : cs.length = vs.length) (h : ∀ (i : Nat) (c : V) (v : Value), cs[i]? = some c → vs[i]? = some v → Rep w X φ c v) : Rep w X φ (.tup cs) (.tuple vs.toArray)
  | sl (x sz off len : Nat) (cap : Option Nat) (ad : Addr) (c : Nat) (hs : ad.spot = none) (hd : φ x ≠ none) (h : ∀ b, φ x = some (some b) → (0 < c → ad = ⟨b, off, none⟩) ∧ Room w b sz off len cap c) : Rep w X φ (.sl x sz off len cap) (.slice (some ad) len c)
  | emp (ad : Addr) : Rep w X φ .emp (.slice (some ad) 0 0)
  | ptr (x off : Nat) (ad : Addr) (hs : ad.spot = none) (hd : φ x ≠ none) (h : ∀ b, φ x = some (some b) → ad = ⟨b, off, none⟩) : Rep w X φ (.ptr x off) (.pointer (some ad))
  | mp (x r : Nat) (hd : φ x ≠ none) (h : ∀ b, φ x = some (some b) → r = b) : Rep w X φ (.mp x) (.map (some r))
  | fn (f : Fn) (first cap : List V) (vs us : List Value) (hl : first.length = vs.length) (hl' : cap.length = us.length) (h : ∀ (i : Nat) (c : V) (v : Value), first[i]? = some c → vs[i]? = some v → Rep w X φ c v)
      (h' : ∀ (i : Nat) (c : V) (v : Value), cap[i]? = some c → us[i]? = some v → Rep w X φ c v) : Rep w X φ (.fn f first cap) (.func f vs.toArray us.toArray)
  | fro (sz n : Nat) (g : Nat → Nat → V) (ad : Addr) (cap : Nat) (val : Nat → Nat → Value) (hs : ad.spot = none) (hx : ¬ X ad.block) (hlt : ad.block < w.heap.size) (hc : n ≤ cap)
      (hr : ∀ j c, j < n → c < sz → w.cell? ⟨ad.block, ad.off + (j * sz + c), none⟩ = some (val j c)) (h1 : ∀ j c, j < n → c < sz → (val j c).oneCell' = true) (h : ∀ j c, j < n → c < sz → Rep w X φ (g j c) (val j c))
      (hn : ∀ j c, j < n → c < sz → (g j c).nl 4 = true) : Rep w X φ (.fro sz n g) (.slice (some ad) n cap)
  | froNil (sz : Nat) (g : Nat → Nat → V) : Rep w X φ (.fro sz 0 g) (.slice none 0 0)
  | froZero (sz : Nat) (g : Nat → Nat → V) (ad : Addr) (cap : Nat) : Rep w X φ (.fro sz 0 g) (.slice (some ad) 0 cap)
  | fpt (k : Nat) (g : Nat → V) (ad : Addr) (val : Nat → Value) (hs : ad.spot = none) (hx : ¬ X ad.block) (hlt : ad.block < w.heap.size)
      (hr : ∀ c, c < k → w.cell? ⟨ad.block, ad.off + c, none⟩ = some (val c)) (h : ∀ c, c < k → Rep w X φ (g c) (val c)) (hn : ∀ c, c < k → (g c).nl 4 = true) : Rep w X φ (.fpt k g) (.pointer (some ad))

/-- Blocks of the call's own. A map: keys, what they hold, when they came; its clock. An iterator: of which map, since when, what it has seen, its last step. -/
inductive Blk where
  | cells (cs : List V)
  | map (es : List (V × V × Nat)) (clock : Nat)
  | it (m : Option Nat) (since : Nat) (seen : List Nat) (last : Nat)
  deriving Inhabited

structure MapAt (w : World) (X : Nat → Prop) (φ : Loc) (es : List (V × V × Nat)) (mes : Array MapEntry) : Prop where
  len : es.length = mes.size
  rep : ∀ (i : Nat) (k v : V) (n : Nat) (e : MapEntry), es[i]? = some (k, v, n) → mes[i]? = some e → Rep w X φ k e.key ∧ Rep w X φ v e.val ∧ e.born = n

def BlkAt (w : World) (X : Nat → Prop) (φ : Loc) (b : Nat) : Blk → Prop
  | .cells cs => ∃ vs e z, w.heap[b]? = some (.cells vs e z) ∧ (∀ i, i < vs.size → ¬ (z.1 ≤ i ∧ i < z.2)) ∧ cs.length ≤ vs.size ∧ ∀ (i : Nat) (c : V) (v : Value), cs[i]? = some c → vs[i]? = some v → Rep w X φ c v ∧ v.oneCell' = true
  | .map es clock => ∃ mes, w.heap[b]? = some (.map mes clock) ∧ MapAt w X φ es mes
  | .it m since seen last => ∃ r, w.heap[b]? = some (.mapIter r since seen.toArray last) ∧ match m with | none => r = none | some x => φ x ≠ none ∧ ∃ d, r = some d ∧ ∀ b, φ x = some (some b) → d = b

abbrev Heap := T Blk

/-- States: slots, blocks, the least name that is free, and blocks that must not be written. -/
structure S where
  env : T V
  h : Heap
  nx : Nat
  pr : List Nat

/-- The blocks that frozen memory keeps clear of. -/
def Excl (B : Nat → Prop) (φ : Loc) : Nat → Prop := fun b => B b ∨ ∃ x, φ x = some (some b)

/-- What a state says of blocks. B: blocks that belong to others; G: what some of them hold; fr: names that are free. -/
structure HeapAt (B : Nat → Prop) (G : Nat → Nat → Value → Prop) (fr : Nat → Prop) (φ : Loc) (h : Heap) (w : World) : Prop where
  st : ∀ x k, h.get x = some k → ∃ b, φ x = some (some b) ∧ BlkAt w (Excl B φ) φ b k
  inj : ∀ x y b, φ x = some (some b) → φ y = some (some b) → x = y
  lt : ∀ x b, φ x = some (some b) → b < w.heap.size ∧ ¬ B b
  ltB : ∀ b, B b → b < w.heap.size
  free : ∀ x, fr x → φ x = none
  gl : ∀ b o v, G b o v → (b < w.heap.size ∧ ∀ x, φ x ≠ some (some b)) ∧ w.cell? ⟨b, o, none⟩ = some v

/-- ... and of a frame's slots. N: how many slots. -/
structure RelAt (N : Nat) (B : Nat → Prop) (G : Nat → Nat → Value → Prop) (fr : Nat → Prop) (φ : Loc) (s : S) (a : Act) (w : World) : Prop extends HeapAt B G fr φ s.h w where
  size : a.tmps.size = N
  defers : a.defers = []
  env : ∀ t c, s.env.get t = some c → t < N ∧ Rep w (Excl B φ) φ c (a.tmps.getD t undef)

/-- From one world to a later one: what is named, and not kept (pr), may be written; all else stays. -/
structure Fwd (pr : List Nat) (φ : Loc) (w : World) (φ' : Loc) (w' : World) : Prop where
  os : w'.os = w.os
  tape : w'.tape = w.tape
  output : w'.output = w.output
  size : w.heap.size ≤ w'.heap.size
  block : ∀ b, b < w.heap.size → (∀ x, φ x = some (some b) → x ∈ pr) → w'.heap[b]? = w.heap[b]?
  new : ∀ x b, φ' x = some (some b) → (∃ y, φ y = some (some b) ∧ (y = x ∨ y ∉ pr)) ∨ w.heap.size ≤ b
  old : ∀ x v, φ x = some v → φ' x = some v ∨ (φ' x = some none ∧ x ∉ pr)
  keep : ∀ (b : Nat) (cs : Array Value) (e : TypeId) (z : Nat × Nat), w.heap[b]? = some (.cells cs e z) → ∃ cs' e' z', w'.heap[b]? = some (.cells cs' e' z') ∧ cs'.size = cs.size

theorem keep_of {w w' : World} (hb : ∀ b, b < w.heap.size → w'.heap[b]? = w.heap[b]?) (b : Nat) (cs : Array Value) (e : TypeId) (z : Nat × Nat) (h : w.heap[b]? = some (.cells cs e z)) : ∃ cs' e' z', w'.heap[b]? = some (.cells cs' e' z') ∧ cs'.size = cs.size := by
  refine ⟨cs, e, z, (hb b ?_).trans h, rfl⟩
  rcases Nat.lt_or_ge b w.heap.size with h1 | h1
  · exact h1
  · rw [Array.getElem?_eq_none h1] at h; cases h

theorem heap_lt {w : World} {b : Nat} {o : Obj} (h : w.heap[b]? = some o) : b < w.heap.size := by
  rcases Nat.lt_or_ge b w.heap.size with h1 | h1
  · exact h1
  · rw [Array.getElem?_eq_none h1] at h; cases h

theorem Fwd.refl (pr : List Nat) (φ : Loc) (w : World) : Fwd pr φ w φ w :=
  ⟨rfl, rfl, rfl, Nat.le_refl _, fun _ _ _ => rfl, fun x b h => .inl ⟨x, h, .inl rfl⟩, fun _ _ h => .inl h, keep_of fun _ _ => rfl⟩

theorem Fwd.mono {pr pr' : List Nat} {φ φ' : Loc} {w w' : World} (h : Fwd pr φ w φ' w') (hp : ∀ x ∈ pr', x ∈ pr) : Fwd pr' φ w φ' w' :=
  ⟨h.os, h.tape, h.output, h.size, fun b hb hn => h.block b hb fun x hx => hp x (hn x hx), fun x b hx => (h.new x b hx).imp_left fun ⟨y, h1, h2⟩ => ⟨y, h1, h2.imp_right fun h h' => h (hp y h')⟩,
    fun x v hx => (h.old x v hx).imp_right fun h => ⟨h.1, fun h' => h.2 (hp x h')⟩, h.keep⟩

theorem Fwd.trans {pr : List Nat} {φ φ₁ φ₂ : Loc} {w w₁ w₂ : World} (h : Fwd pr φ w φ₁ w₁) (k : Fwd pr φ₁ w₁ φ₂ w₂) : Fwd pr φ w φ₂ w₂ where
  os := k.os.trans h.os
  tape := k.tape.trans h.tape
  output := k.output.trans h.output
  size := Nat.le_trans h.size k.size
  block := fun b hb hn => (k.block b (Nat.lt_of_lt_of_le hb h.size) fun x hx => by
    rcases h.new x b hx with ⟨y, hy, rfl | hy'⟩ | hge
    · exact hn _ hy
    · exact absurd (hn y hy) hy'
    · omega).trans (h.block b hb hn)
  new := fun x b hx => by
    rcases k.new x b hx with ⟨y, hy, hyx⟩ | hge
    · rcases h.new y b hy with ⟨z, hz, hzy⟩ | hge
      · refine .inl ⟨z, hz, ?_⟩
        rcases hzy with rfl | hzy
        · exact hyx
        · exact .inr hzy
      · exact .inr hge
    · exact .inr (Nat.le_trans h.size hge)
  old := fun x v hx => by
    rcases h.old x v hx with h1 | ⟨h1, h2⟩
    · exact k.old x v h1
    · rcases k.old x none h1 with h3 | ⟨h3, _⟩
      · exact .inr ⟨h3, h2⟩
      · exact .inr ⟨h3, h2⟩
  keep := fun b cs e z hb => by
    obtain ⟨cs1, e1, z1, h1, h2⟩ := h.keep b cs e z hb
    obtain ⟨cs2, e2, z2, h3, h4⟩ := k.keep b cs1 e1 z1 h1
    exact ⟨cs2, e2, z2, h3, h4.trans h2⟩

/-- What a step keeps, for all that is said to stand. -/
structure Keeps (w : World) (X : Nat → Prop) (φ : Loc) (w' : World) (X' : Nat → Prop) (φ' : Loc) : Prop where
  block : ∀ b, b < w.heap.size → ¬ X b → w'.heap[b]? = w.heap[b]?
  size : w.heap.size ≤ w'.heap.size
  excl : ∀ b, X' b → X b ∨ w.heap.size ≤ b
  old : ∀ x v, φ x = some v → φ' x = some v ∨ φ' x = some none
  keep : ∀ (b : Nat) (cs : Array Value) (e : TypeId) (z : Nat × Nat), w.heap[b]? = some (.cells cs e z) → ∃ cs' e' z', w'.heap[b]? = some (.cells cs' e' z') ∧ cs'.size = cs.size

theorem Room.mono {w w' : World} {b sz off len c : Nat} {cap : Option Nat} (hk : ∀ (b : Nat) (cs : Array Value) (e : TypeId) (z : Nat × Nat), w.heap[b]? = some (.cells cs e z) → ∃ cs' e' z', w'.heap[b]? = some (.cells cs' e' z') ∧ cs'.size = cs.size) (h : Room w b sz off len cap c) : Room w' b sz off len cap c := by
  obtain ⟨h1, vs, e, z, h2, h3, h4⟩ := h
  obtain ⟨vs', e', z', h5, h6⟩ := hk b vs e z h2
  refine ⟨h1, vs', e', z', h5, by omega, ?_⟩
  cases cap with
  | none => dsimp only at h4 ⊢; omega
  | some k => exact h4

theorem Keeps.rep {w w' : World} {X X' : Nat → Prop} {φ φ' : Loc} (k : Keeps w X φ w' X' φ') {c : V} {v : Value} (h : Rep w X φ c v) : Rep w' X' φ' c v := by
  have hX : ∀ b, b < w.heap.size → ¬ X b → ¬ X' b := fun b hlt hn hx' => by
    rcases k.excl b hx' with h | h
    · exact hn h
    · omega
  have hd : ∀ {x}, φ x ≠ none → φ' x ≠ none := fun {x} h => by
    cases hx : φ x with
    | none => exact absurd hx h
    | some v => rcases k.old x v hx with h1 | h1 <;> rw [h1] <;> simp
  have hb : ∀ {x b}, φ x ≠ none → φ' x = some (some b) → φ x = some (some b) := fun {x b} h h1 => by
    cases hx : φ x with
    | none => exact absurd hx h
    | some v => rcases k.old x v hx with h2 | h2 <;> rw [h2] at h1
                · exact h1
                · cases h1
  have hcell : ∀ {b o}, b < w.heap.size → ¬ X b → w'.cell? ⟨b, o, none⟩ = w.cell? ⟨b, o, none⟩ := fun {b o} h1 h2 => by simp only [World.cell?, k.block b h1 h2]
  induction h with
  | any v => exact .any v
  | opq v h => exact .opq v h
  | con i v he h => exact .con i v he h
  | raw v h => exact .raw v h
  | str bs t h => exact .str bs t h
  | agg cs vs hl h ih => exact .agg cs vs hl fun i c v h1 h2 => ih i c v h1 h2
  | tup cs vs hl h ih => exact .tup cs vs hl fun i c v h1 h2 => ih i c v h1 h2
  | sl x sz off len cap ad c hs h0 h => exact .sl x sz off len cap ad c hs (hd h0) fun b hb' => let ⟨h1, h2⟩ := h b (hb h0 hb'); ⟨h1, h2.mono k.keep⟩
  | emp ad => exact .emp ad
  | ptr x off ad hs h0 h => exact .ptr x off ad hs (hd h0) fun b hb' => h b (hb h0 hb')
  | mp x r h0 h => exact .mp x r (hd h0) fun b hb' => h b (hb h0 hb')
  | fn f first cap vs us hl hl' h h' ih ih' => exact .fn f first cap vs us hl hl' (fun i c v h1 h2 => ih i c v h1 h2) fun i c v h1 h2 => ih' i c v h1 h2
  | fro sz n g ad cap val hs hx hlt hc hr h1 h hn ih => exact .fro sz n g ad cap val hs (hX _ hlt hx) (Nat.lt_of_lt_of_le hlt k.size) hc (fun j c h1 h2 => (hcell hlt hx).trans (hr j c h1 h2)) h1 ih hn
  | froNil sz g => exact .froNil sz g
  | froZero sz g ad cap => exact .froZero sz g ad cap
  | fpt m g ad val hs hx hlt hr h hn ih => exact .fpt m g ad val hs (hX _ hlt hx) (Nat.lt_of_lt_of_le hlt k.size) (fun c h1 => (hcell hlt hx).trans (hr c h1)) ih hn

/-- A value that names nothing: whatever names stand for. -/
theorem Rep.free {w : World} {X X' : Nat → Prop} {φ φ' : Loc} (hX : ∀ b, b < w.heap.size → ¬ X b → ¬ X' b) {c : V} {v : Value} (h : Rep w X φ c v) : ∀ {d : Nat}, c.nl d = true → Rep w X' φ' c v := by
  induction h with
  | any v => intro d _; exact .any v
  | opq v h => intro d _; exact .opq v h
  | con i v he h => intro d _; exact .con i v he h
  | raw v h => intro d _; exact .raw v h
  | str bs t h => intro d _; exact .str bs t h
  | agg cs vs hl h ih =>
    intro d hd
    cases d with
    | zero => cases hd
    | succ d =>
      simp only [V.nl, List.all_eq_true] at hd
      exact .agg cs vs hl fun i c v h1 h2 => ih i c v h1 h2 (hd c (List.mem_of_getElem? h1))
  | tup cs vs hl h ih =>
    intro d hd
    cases d with
    | zero => cases hd
    | succ d =>
      simp only [V.nl, List.all_eq_true] at hd
      exact .tup cs vs hl fun i c v h1 h2 => ih i c v h1 h2 (hd c (List.mem_of_getElem? h1))
  | sl => intro d hd; cases d <;> cases hd
  | emp ad => intro d _; exact .emp ad
  | ptr => intro d hd; cases d <;> cases hd
  | mp => intro d hd; cases d <;> cases hd
  | fn f first cap vs us hl hl' h h' ih ih' =>
    intro d hd
    cases d with
    | zero => cases hd
    | succ d =>
      simp only [V.nl, Bool.and_eq_true, List.all_eq_true] at hd
      exact .fn f first cap vs us hl hl' (fun i c v h1 h2 => ih i c v h1 h2 (hd.1 c (List.mem_of_getElem? h1))) fun i c v h1 h2 => ih' i c v h1 h2 (hd.2 c (List.mem_of_getElem? h1))
  | fro sz n g ad cap val hs hx hlt hc hr h1 h hn ih => intro d _; exact .fro sz n g ad cap val hs (hX _ hlt hx) hlt hc hr h1 (fun j c h1 h2 => ih j c h1 h2 (hn j c h1 h2)) hn
  | froNil sz g => intro d _; exact .froNil sz g
  | froZero sz g ad cap => intro d _; exact .froZero sz g ad cap
  | fpt m g ad val hs hx hlt hr h hn ih => intro d _; exact .fpt m g ad val hs (hX _ hlt hx) hlt hr (fun c h1 => ih c h1 (hn c h1)) hn

theorem Fwd.keeps {B : Nat → Prop} {pr : List Nat} {φ φ' : Loc} {w w' : World} (F : Fwd pr φ w φ' w') : Keeps w (Excl B φ) φ w' (Excl B φ') φ' where
  block := fun b hb hn => F.block b hb fun x hx => absurd (.inr ⟨x, hx⟩) hn
  size := F.size
  excl := fun b hb => by
    rcases hb with hb | ⟨x, hb⟩
    · exact .inl (.inl hb)
    · rcases F.new x b hb with ⟨y, hy, _⟩ | h
      · exact .inl (.inr ⟨y, hy⟩)
      · exact .inr h
  old := fun x v h => (F.old x v h).imp_right And.left
  keep := F.keep

theorem Fwd.rep {B : Nat → Prop} {pr : List Nat} {φ φ' : Loc} {w w' : World} (F : Fwd pr φ w φ' w') {c : V} {v : Value} (h : Rep w (Excl B φ) φ c v) : Rep w' (Excl B φ') φ' c v := F.keeps.rep h

theorem Keeps.alive {w w' : World} {X X' : Nat → Prop} {φ φ' : Loc} (k : Keeps w X φ w' X' φ') {x : Nat} (h : φ x ≠ none) : φ' x ≠ none ∧ ∀ b, φ' x = some (some b) → φ x = some (some b) := by
  cases hx : φ x with
  | none => exact absurd hx h
  | some v =>
    rcases k.old x v hx with h2 | h2 <;> rw [h2]
    · exact ⟨by simp, fun b h => h⟩
    · exact ⟨by simp, fun b h => by cases h⟩

theorem Keeps.blk {w w' : World} {X X' : Nat → Prop} {φ φ' : Loc} (k : Keeps w X φ w' X' φ') {b : Nat} {bl : Blk} (hb : w'.heap[b]? = w.heap[b]?) (h : BlkAt w X φ b bl) : BlkAt w' X' φ' b bl := by
  cases bl with
  | cells cs =>
    obtain ⟨vs, e, z, h1, hz, h2, h3⟩ := h
    exact ⟨vs, e, z, hb.trans h1, hz, h2, fun i c v g1 g2 => ⟨k.rep (h3 i c v g1 g2).1, (h3 i c v g1 g2).2⟩⟩
  | map es clock =>
    obtain ⟨mes, h1, h2⟩ := h
    exact ⟨mes, hb.trans h1, h2.len, fun i a c n e g1 g2 => ⟨k.rep (h2.rep i a c n e g1 g2).1, k.rep (h2.rep i a c n e g1 g2).2.1, (h2.rep i a c n e g1 g2).2.2⟩⟩
  | it m since seen last =>
    obtain ⟨r, h1, h2⟩ := h
    refine ⟨r, hb.trans h1, ?_⟩
    cases m with
    | none => exact h2
    | some x =>
      obtain ⟨h3, d, h4, h5⟩ := h2
      exact ⟨(k.alive h3).1, d, h4, fun b hb => h5 b ((k.alive h3).2 b hb)⟩

end Go.VM
