/- Part 1 of the proof. HbChecks holds: at every shape of events and every log the law answers true and leaves its arguments as they were. -/
import Derived.Calls
import Derived.Orders
import Derived.Below
import Derived.Laws.Cells
import Derived.Laws.Append
import Derived.KernelRfl
import Derived.OrdersHeld
import Derived.Laws.Tables
import Derived.Laws.MakeOwn
import Derived.Deep.AppendSrc
import Derived.Deep.Upon
import Derived.WalkKit
import Derived.ProofKit
import Derived.OpenShut
import Derived.Carry
import Derived.ChangeSame
import Derived.Test.YtomhajfgokkbfaaProg
set_option linter.unusedVariables false
set_option linter.unusedSimpArgs false
namespace Go.AM
open Go.RowKit
abbrev Name := Nat
/-- Abstract values. -/
inductive AV where
  /-- whatever it is -/
  | any
  /-- one cell's value, known -/
  | raw (v : Value)
  /-- a bool that is not decided -/
  | tst (b : Bool)
  | agg (cs : List AV)
  | tup (vs : List AV)
  /-- a slice of n elements, sz cells each, in memory that nobody writes any more -/
  | fro (sz n : Nat) (f : Nat → Nat → AV)
  /-- an address in such memory, from which k cells may be read -/
  | fpt (k : Nat) (f : Nat → AV)
  /-- a slice of the row named x -/
  | own (x : Name) (sz off len : Nat)
  /-- the address of a cell of the variable named x -/
  | ptr (x : Name) (off : Nat)
  /-- the address of cell c of element j of the row named x -/
  | elt (x : Name) (sz j c : Nat)
  /-- row j of the rows named x; the address of its cell c -/
  | row (x : Name) (j len : Nat)
  | relt (x : Name) (j c : Nat)
  | mp (x : Name)
  | fn (f : Fn) (first cap : List AV)
  deriving Inhabited
/-- What a name stands for: nothing; a nil row; a block. Place 0: the thing itself; place j + 1: its row j. -/
abbrev Loc := Name → Nat → Option (Option Nat)
/-- A value whose memory is frozen: it lies outside of X. -/
inductive Fr (w : World) (X : Nat → Prop) : AV → Value → Prop
  | any (v : Value) : Fr w X .any v
  | raw (v : Value) (h : v.oneCell' = true) : Fr w X (.raw v) v
  | tst (b : Bool) : Fr w X (.tst b) (.bool b)
  | agg (cs : List AV) (vs : List Value) (hl : cs.length = vs.length) (h : ∀ (i : Nat) (c : AV) (v : Value), cs[i]? = some c → vs[i]? = some v → Fr w X c v) : Fr w X (.agg cs) (.agg vs.toArray)
  | tup (cs : List AV) (vs : List Value) (hl : cs.length = vs.length) (h : ∀ (i : Nat) (c : AV) (v : Value), cs[i]? = some c → vs[i]? = some v → Fr w X c v) : Fr w X (.tup cs) (.tuple vs.toArray)
  | fro (sz n : Nat) (f : Nat → Nat → AV) (a : Addr) (cap : Nat) (g : Nat → Nat → Value) (hs : a.spot = none) (hx : ¬ X a.block) (hlt : a.block < w.heap.size) (hc : n ≤ cap)
      (hr : ∀ j c, j < n → c < sz → w.cell? ⟨a.block, a.off + (j * sz + c), none⟩ = some (g j c)) (h1 : ∀ j c, j < n → c < sz → (g j c).oneCell' = true) (h : ∀ j c, j < n → c < sz → Fr w X (f j c) (g j c)) : Fr w X (.fro sz n f) (.slice (some a) n cap)
  | froNil (sz : Nat) (f : Nat → Nat → AV) : Fr w X (.fro sz 0 f) (.slice none 0 0)
  | froZero (sz : Nat) (f : Nat → Nat → AV) (a : Addr) (cap : Nat) : Fr w X (.fro sz 0 f) (.slice (some a) 0 cap)
  | fpt (k : Nat) (f : Nat → AV) (a : Addr) (g : Nat → Value) (hs : a.spot = none) (hx : ¬ X a.block) (hlt : a.block < w.heap.size)
      (hr : ∀ c, c < k → w.cell? ⟨a.block, a.off + c, none⟩ = some (g c)) (h : ∀ c, c < k → Fr w X (f c) (g c)) : Fr w X (.fpt k f) (.pointer (some a))
  | fn (f : Fn) (first cap : List AV) (vs us : List Value) (hl : first.length = vs.length) (hl' : cap.length = us.length) (h : ∀ (i : Nat) (c : AV) (v : Value), first[i]? = some c → vs[i]? = some v → Fr w X c v)
      (h' : ∀ (i : Nat) (c : AV) (v : Value), cap[i]? = some c → us[i]? = some v → Fr w X c v) : Fr w X (.fn f first cap) (.func f vs.toArray us.toArray)
/-- A value that may name rows and variables of the call's own. -/
inductive Rep (w : World) (X : Nat → Prop) (φ : Loc) : AV → Value → Prop
  | fr (c : AV) (v : Value) (h : Fr w X c v) : Rep w X φ c v
  | agg (cs : List AV) (vs : List Value) (hl : cs.length = vs.length) (h : ∀ (i : Nat) (c : AV) (v : Value), cs[i]? = some c → vs[i]? = some v → Rep w X φ c v) : Rep w X φ (.agg cs) (.agg vs.toArray)
  | tup (cs : List AV) (vs : List Value) (hl : cs.length = vs.length) (h : ∀ (i : Nat) (c : AV) (v : Value), cs[i]? = some c → vs[i]? = some v → Rep w X φ c v) : Rep w X φ (.tup cs) (.tuple vs.toArray)
  | fn (f : Fn) (first cap : List AV) (vs us : List Value) (hl : first.length = vs.length) (hl' : cap.length = us.length) (h : ∀ (i : Nat) (c : AV) (v : Value), first[i]? = some c → vs[i]? = some v → Rep w X φ c v)
      (h' : ∀ (i : Nat) (c : AV) (v : Value), cap[i]? = some c → us[i]? = some v → Rep w X φ c v) : Rep w X φ (.fn f first cap) (.func f vs.toArray us.toArray)
  | own (x : Name) (sz off len cap b : Nat) (cs : Array Value) (e : TypeId) (z : Nat × Nat) (hb : φ x 0 = some (some b)) (hh : w.heap[b]? = some (.cells cs e z)) (hc : len ≤ cap) (hz : (off + cap) * sz ≤ cs.size) :
      Rep w X φ (.own x sz off len) (.slice (some ⟨b, off * sz, none⟩) len cap)
  | ownNil (x : Name) (sz : Nat) (hb : φ x 0 = some none) : Rep w X φ (.own x sz 0 0) (.slice none 0 0)
  | ptr (x : Name) (off b : Nat) (hb : φ x 0 = some (some b)) : Rep w X φ (.ptr x off) (.pointer (some ⟨b, off, none⟩))
  | elt (x : Name) (sz j c b : Nat) (hb : φ x 0 = some (some b)) : Rep w X φ (.elt x sz j c) (.pointer (some ⟨b, j * sz + c, none⟩))
  | row (x : Name) (j len cap b : Nat) (cs : Array Value) (e : TypeId) (z : Nat × Nat) (hb : φ x (j + 1) = some (some b)) (hh : w.heap[b]? = some (.cells cs e z)) (hc : len ≤ cap) (hz : cap ≤ cs.size) :
      Rep w X φ (.row x j len) (.slice (some ⟨b, 0, none⟩) len cap)
  | rowNil (x : Name) (j : Nat) (hb : φ x (j + 1) = some none) : Rep w X φ (.row x j 0) (.slice none 0 0)
  | relt (x : Name) (j c b : Nat) (hb : φ x (j + 1) = some (some b)) : Rep w X φ (.relt x j c) (.pointer (some ⟨b, c, none⟩))
  | mp (x : Name) (b : Nat) (hb : φ x 0 = some (some b)) : Rep w X φ (.mp x) (.map (some b))
/-- Rows and variables of the call's own. -/
inductive Blk where
  /-- a variable: its cells -/
  | box (cs : List AV)
  /-- a row of n elements, sz cells each, whose cells name nothing -/
  | arr (sz n : Nat) (f : Nat → Nat → AV)
  /-- a row of n rows of the call's own, of one cell an element; row j has len j -/
  | mat (n : Nat) (len : Nat → Nat) (f : Nat → Nat → AV)
  /-- a map of ints to ints, to bools -/
  | mapI (f : Int → Option Int)
  | mapB (f : Int → Option Bool)
  /-- nothing of its own: the thing named x is block b -/
  | pin (x : Name) (b : Option Nat)
  deriving Inhabited
/-- A map's entries: its keys, each once, are the ints for which there is something, and that is what they hold. -/
structure MapAt (mes : Array MapEntry) (clock : Nat) (R : Int → Value → Prop) : Prop where
  key : ∀ (i : Nat) (e : MapEntry), mes[i]? = some e → ∃ k, e.key = .int .i64 k ∧ R k e.val
  all : ∀ k v, R k v → ∃ (i : Nat) (e : MapEntry), mes[i]? = some e ∧ e.key = .int .i64 k
  once : ∀ (i j : Nat) (e e' : MapEntry), mes[i]? = some e → mes[j]? = some e' → e.key = e'.key → i = j
  born : ∀ (i j : Nat) (e e' : MapEntry), mes[i]? = some e → mes[j]? = some e' → e.born = e'.born → i = j
  clock : ∀ (i : Nat) (e : MapEntry), mes[i]? = some e → e.born < clock
def BlkAt (w : World) (X : Nat → Prop) (φ : Loc) (x : Name) : Blk → Prop
  | .box cs => ∃ b vs e, φ x 0 = some (some b) ∧ w.heap[b]? = some (.cells vs e (0, 0)) ∧ vs.size = cs.length ∧ ∀ (i : Nat) (c : AV) (v : Value), cs[i]? = some c → vs[i]? = some v → Rep w X φ c v
  | .arr sz n f => 0 < sz ∧ ((∃ b vs e, φ x 0 = some (some b) ∧ w.heap[b]? = some (.cells vs e (0, 0)) ∧ n * sz ≤ vs.size ∧ ∀ j c, j < n → c < sz → ∃ v, vs[j * sz + c]? = some v ∧ v.oneCell' = true ∧ Fr w X (f j c) v) ∨ (φ x 0 = some none ∧ n = 0))
  | .mat n len f => ((∃ b vs e, φ x 0 = some (some b) ∧ w.heap[b]? = some (.cells vs e (0, 0)) ∧ n ≤ vs.size ∧ ∀ j, j < n → ∃ v, vs[j]? = some v ∧ Rep w X φ (.row x j (len j)) v) ∨ (φ x 0 = some none ∧ n = 0)) ∧
      ∀ j, j < n → (∃ b vs e, φ x (j + 1) = some (some b) ∧ w.heap[b]? = some (.cells vs e (0, 0)) ∧ len j ≤ vs.size ∧ ∀ c, c < len j → ∃ v, vs[c]? = some v ∧ v.oneCell' = true ∧ Fr w X (f j c) v) ∨ (φ x (j + 1) = some none ∧ len j = 0)
  | .mapI f => ∃ b mes clock, φ x 0 = some (some b) ∧ w.heap[b]? = some (.map mes clock) ∧ MapAt mes clock fun k v => ∃ n, f k = some n ∧ v = .int .i64 n
  | .mapB f => ∃ b mes clock, φ x 0 = some (some b) ∧ w.heap[b]? = some (.map mes clock) ∧ MapAt mes clock fun k v => ∃ t, f k = some t ∧ v = .bool t
  | .pin y b => φ x 0 = some none ∧ φ y 0 = some b
/-- Abstract states: slots, rows and variables, and the least name that is free. -/
structure AS where
  env : List (Nat × AV)
  st : List (Name × Blk)
  nx : Nat
def look {α : Type} (l : List (Nat × α)) (t : Nat) : Option α :=
  match l with
  | [] => none
  | (k, v) :: r => match Nat.beq k t with
    | true => some v
    | false => look r t
/-- sorted: a place is written, or made; told by what is done with the list -/
def updK {α β : Type} (l : List (Nat × α)) (t : Nat) (x : α) (q : List (Nat × α) → β) : β :=
  match l with
  | [] => q [(t, x)]
  | (k, v) :: r => match Nat.beq k t with
    | true => q ((t, x) :: r)
    | false => match Nat.blt t k with
      | true => q ((t, x) :: (k, v) :: r)
      | false => updK r t x fun r' => q ((k, v) :: r')
def upd {α : Type} (l : List (Nat × α)) (t : Nat) (x : α) : List (Nat × α) :=
  match l with
  | [] => [(t, x)]
  | (k, v) :: r => if k = t then (t, x) :: r else if t < k then (t, x) :: (k, v) :: r else (k, v) :: upd r t x
theorem look_cons {α : Type} (k : Nat) (v : α) (r : List (Nat × α)) (t : Nat) : look ((k, v) :: r) t = if k = t then some v else look r t := by
  simp only [look]
  cases h : Nat.beq k t with
  | true => rw [if_pos (Nat.eq_of_beq_eq_true h)]
  | false => rw [if_neg (Nat.ne_of_beq_eq_false h)]
theorem updK_eq {α β : Type} (l : List (Nat × α)) (t : Nat) (x : α) (q : List (Nat × α) → β) : updK l t x q = q (upd l t x) := by
  induction l generalizing q with
  | nil => rfl
  | cons p r ih =>
    obtain ⟨k, v⟩ := p
    simp only [updK, upd]
    cases h : Nat.beq k t with
    | true => rw [if_pos (Nat.eq_of_beq_eq_true h)]
    | false =>
      rw [if_neg (Nat.ne_of_beq_eq_false h)]
      have hb : Nat.blt t k = decide (t < k) := by
        by_cases hlt : t < k
        · rw [decide_eq_true hlt]; exact Nat.ble_eq_true_of_le hlt
        · rw [decide_eq_false hlt]
          cases hh : Nat.blt t k with
          | true => exact absurd (Nat.le_of_ble_eq_true hh) hlt
          | false => rfl
      rw [hb]
      by_cases hlt : t < k
      · simp [hlt]
      · simp only [hlt, decide_false, if_false]; exact ih _
theorem look_upd {α : Type} (l : List (Nat × α)) (t u : Nat) (x y : α) (h : look (upd l t x) u = some y) : (u = t ∧ x = y) ∨ (u ≠ t ∧ look l u = some y) := by
  induction l with
  | nil =>
    simp only [upd, look_cons] at h
    split at h
    · injection h with h; exact .inl ⟨by omega, h⟩
    · cases h
  | cons p r ih =>
    obtain ⟨k, v⟩ := p
    simp only [upd] at h
    split at h
    · rename_i hk
      subst hk
      simp only [look_cons] at h ⊢
      split at h
      · injection h with h; exact .inl ⟨by omega, h⟩
      · rename_i hk; exact .inr ⟨by omega, by simp [hk, h]⟩
    · rename_i hk
      split at h
      · simp only [look_cons] at h ⊢
        split at h
        · injection h with h; exact .inl ⟨by omega, h⟩
        · rename_i hk'; exact .inr ⟨by omega, h⟩
      · simp only [look_cons] at h ⊢
        split at h
        · rename_i hk'
          exact .inr ⟨by omega, by simp [hk', h]⟩
        · rename_i hk'
          rcases ih h with h | h
          · exact .inl h
          · exact .inr ⟨h.1, by simp [hk', h.2]⟩
theorem look_upd_same {α : Type} (l : List (Nat × α)) (t : Nat) (x : α) : look (upd l t x) t = some x := by
  induction l with
  | nil => simp [upd, look_cons]
  | cons p r ih =>
    obtain ⟨k, v⟩ := p
    simp only [upd]
    split
    · simp [look_cons]
    · split
      · simp [look_cons]
      · rename_i h _; simp [look_cons, h, ih]
theorem look_upd_ne {α : Type} (l : List (Nat × α)) (t u : Nat) (x : α) (h : u ≠ t) : look (upd l t x) u = look l u := by
  induction l with
  | nil => simp only [upd, look_cons, look]; rw [if_neg (by omega)]
  | cons p r ih =>
    obtain ⟨k, v⟩ := p
    simp only [upd]
    split
    · rename_i hk; subst hk; simp only [look_cons]; rw [if_neg (by omega), if_neg (by omega)]
    · split
      · simp only [look_cons]; rw [if_neg (by omega)]
      · simp only [look_cons, ih]
/-- The blocks that frozen memory keeps clear of. -/
def Excl (B : Nat → Prop) (φ : Loc) : Nat → Prop := fun b => B b ∨ ∃ x i, φ x i = some (some b)
/-- What an abstract state says of a frame's slots and of the world. N: how many slots; B: blocks that belong to others; fr: names that are free. -/
structure RelAt (N : Nat) (B : Nat → Prop) (fr : Name → Prop) (φ : Loc) (s : AS) (a : Act) (w : World) : Prop where
  size : a.tmps.size = N
  defers : a.defers = []
  env : ∀ t c, look s.env t = some c → t < N ∧ Rep w (Excl B φ) φ c (a.tmps.getD t undef)
  st : ∀ x k, look s.st x = some k → BlkAt w (Excl B φ) φ x k
  inj : ∀ x y i j b, φ x i = some (some b) → φ y j = some (some b) → x = y ∧ i = j
  lt : ∀ x i b, φ x i = some (some b) → b < w.heap.size ∧ ¬ B b
  ltB : ∀ b, B b → b < w.heap.size
  free : ∀ x, fr x → ∀ i, φ x i = none
/-- From one world to a later one: what is named may be written, all else stays. -/
structure Fwd (φ : Loc) (w : World) (φ' : Loc) (w' : World) (W : Name → Nat → Prop := fun _ _ => True) : Prop where
  os : w'.os = w.os
  tape : w'.tape = w.tape
  output : w'.output = w.output
  size : w.heap.size ≤ w'.heap.size
  block : ∀ b, b < w.heap.size → (∀ x i, W x i → φ x i ≠ some (some b)) → w'.heap[b]? = w.heap[b]?
  new : ∀ x i b, φ' x i = some (some b) → (∃ y j, φ y j = some (some b) ∧ ((y = x ∧ j = i) ∨ (W x i ∧ W y j))) ∨ w.heap.size ≤ b
  keep : ∀ (b : Nat) (cs : Array Value) (e : TypeId) (z : Nat × Nat), w.heap[b]? = some (.cells cs e z) → ∃ cs' e' z', w'.heap[b]? = some (.cells cs' e' z') ∧ cs.size ≤ cs'.size
/-- nothing is written -/
abbrev NoW : Name → Nat → Prop := fun _ _ => False
/-- one place is written -/
abbrev OneW (x : Name) (i : Nat) : Name → Nat → Prop := fun y j => y = x ∧ j = i
theorem Fwd.refl {W : Name → Nat → Prop} (φ : Loc) (w : World) : Fwd φ w φ w W := ⟨rfl, rfl, rfl, Nat.le_refl _, fun _ _ _ => rfl, fun x i _ h => .inl ⟨x, i, h, .inl ⟨rfl, rfl⟩⟩, fun b cs e z h => ⟨cs, e, z, h, Nat.le_refl _⟩⟩
theorem Fwd.mono {φ φ' : Loc} {w w' : World} {W W' : Name → Nat → Prop} (h : Fwd φ w φ' w' W) (hw : ∀ x i, W x i → W' x i) : Fwd φ w φ' w' W' :=
  ⟨h.os, h.tape, h.output, h.size, fun b hb hn => h.block b hb fun x i hx => hn x i (hw x i hx), fun x i b hx => (h.new x i b hx).imp_left fun ⟨y, j, h1, h2⟩ => ⟨y, j, h1, h2.imp_right fun h => ⟨hw _ _ h.1, hw _ _ h.2⟩⟩, h.keep⟩
theorem Fwd.any {φ φ' : Loc} {w w' : World} {W : Name → Nat → Prop} (h : Fwd φ w φ' w' W) : Fwd φ w φ' w' := h.mono fun _ _ _ => trivial
theorem Fwd.ofNo {φ φ' : Loc} {w w' : World} {W : Name → Nat → Prop} (h : Fwd φ w φ' w' NoW) : Fwd φ w φ' w' W := h.mono fun _ _ h => h.elim
theorem Fwd.trans {W : Name → Nat → Prop} {φ φ₁ φ₂ : Loc} {w w₁ w₂ : World} (h : Fwd φ w φ₁ w₁ W) (k : Fwd φ₁ w₁ φ₂ w₂ W) : Fwd φ w φ₂ w₂ W :=
  ⟨k.os.trans h.os, k.tape.trans h.tape, k.output.trans h.output, Nat.le_trans h.size k.size,
    fun b hb hn => (k.block b (Nat.lt_of_lt_of_le hb h.size) fun x i hW hx => by
      rcases h.new x i b hx with ⟨y, j, hy, ⟨rfl, rfl⟩ | ⟨_, h2⟩⟩ | hge
      · exact hn y j hW hy
      · exact hn y j h2 hy
      · omega).trans (h.block b hb hn),
    fun x i b hx => by
      rcases k.new x i b hx with ⟨y, j, hy, hyx⟩ | hge
      · rcases h.new y j b hy with ⟨z, l, hz, hzy⟩ | hge
        · refine .inl ⟨z, l, hz, ?_⟩
          rcases hyx with ⟨rfl, rfl⟩ | ⟨h1, h2⟩
          · exact hzy
          · rcases hzy with ⟨rfl, rfl⟩ | ⟨h3, h4⟩
            · exact .inr ⟨h1, h2⟩
            · exact .inr ⟨h1, h4⟩
        · exact .inr hge
      · exact .inr (Nat.le_trans h.size hge),
    fun b cs e z hb => by
      obtain ⟨cs1, e1, z1, h1, h2⟩ := h.keep b cs e z hb
      obtain ⟨cs2, e2, z2, h3, h4⟩ := k.keep b cs1 e1 z1 h1
      exact ⟨cs2, e2, z2, h3, Nat.le_trans h2 h4⟩⟩
theorem heap_lt {w : World} {b : Nat} {o : Obj} (h : w.heap[b]? = some o) : b < w.heap.size := by
  rcases Nat.lt_or_ge b w.heap.size with h1 | h1
  · exact h1
  · rw [Array.getElem?_eq_none h1] at h; cases h
theorem keep_of {w w' : World} (hb : ∀ b, b < w.heap.size → w'.heap[b]? = w.heap[b]?) (b : Nat) (cs : Array Value) (e : TypeId) (z : Nat × Nat) (h : w.heap[b]? = some (.cells cs e z)) : ∃ cs' e' z', w'.heap[b]? = some (.cells cs' e' z') ∧ cs.size ≤ cs'.size :=
  ⟨cs, e, z, (hb b (heap_lt h)).trans h, Nat.le_refl _⟩
theorem Fr.mono {w w' : World} {X X' : Nat → Prop} (hb : ∀ b, b < w.heap.size → ¬ X b → w'.heap[b]? = w.heap[b]?) (hs : w.heap.size ≤ w'.heap.size) (hx : ∀ b, X' b → X b ∨ w.heap.size ≤ b)
    {c : AV} {v : Value} (h : Fr w X c v) : Fr w' X' c v := by
  have hX : ∀ b, b < w.heap.size → ¬ X b → ¬ X' b := fun b hlt hn hx' => by
    rcases hx b hx' with h | h
    · exact hn h
    · omega
  induction h with
  | any v => exact .any v
  | raw v h => exact .raw v h
  | tst b => exact .tst b
  | agg cs vs hl h ih => exact .agg cs vs hl fun i c v h1 h2 => ih i c v h1 h2
  | tup cs vs hl h ih => exact .tup cs vs hl fun i c v h1 h2 => ih i c v h1 h2
  | fro sz n f a cap g hs' hxa hlt hc hr h1 h ih =>
    refine .fro sz n f a cap g hs' (hX _ hlt hxa) (by omega) hc (fun j c h1 h2 => ?_) h1 fun j c h1 h2 => ih j c h1 h2
    rw [← hr j c h1 h2]
    simp only [World.cell?, hb _ hlt hxa]
  | froNil sz f => exact .froNil sz f
  | froZero sz f a cap => exact .froZero sz f a cap
  | fpt k f a g hs' hxa hlt hr h ih =>
    refine .fpt k f a g hs' (hX _ hlt hxa) (by omega) (fun c h1 => ?_) fun c h1 => ih c h1
    rw [← hr c h1]
    simp only [World.cell?, hb _ hlt hxa]
  | fn f first cap vs us hl hl' h h' ih ih' => exact .fn f first cap vs us hl hl' (fun i c v h1 h2 => ih i c v h1 h2) fun i c v h1 h2 => ih' i c v h1 h2
mutual
/-- The names in a value. -/
def AV.names : AV → List Name
  | .agg cs => namesL cs
  | .tup cs => namesL cs
  | .fn _ f c => namesL f ++ namesL c
  | .own x _ _ _ => [x]
  | .ptr x _ => [x]
  | .elt x _ _ _ => [x]
  | .row x _ _ => [x]
  | .relt x _ _ => [x]
  | .mp x => [x]
  | _ => []
def namesL : List AV → List Name
  | [] => []
  | c :: r => c.names ++ namesL r
end
theorem mem_namesL {x : Name} {cs : List AV} {i : Nat} {c : AV} (h : cs[i]? = some c) (hx : x ∈ c.names) : x ∈ namesL cs := by
  induction cs generalizing i with
  | nil => cases h
  | cons d r ih =>
    simp only [namesL, List.mem_append]
    cases i with
    | zero => simp at h; subst h; exact .inl hx
    | succ i => exact .inr (ih (by simpa using h))
/-- A step that keeps what a value says: what it names stays where it is. -/
theorem Rep.mono {w w' : World} {X X' : Nat → Prop} {φ φ' : Loc} (hb : ∀ b, b < w.heap.size → ¬ X b → w'.heap[b]? = w.heap[b]?) (hs : w.heap.size ≤ w'.heap.size) (hx : ∀ b, X' b → X b ∨ w.heap.size ≤ b)
    {c : AV} {v : Value} (hn : ∀ x ∈ c.names, φ' x = φ x ∧ ∀ i b cs e z, φ x i = some (some b) → w.heap[b]? = some (.cells cs e z) → ∃ cs' e' z', w'.heap[b]? = some (.cells cs' e' z') ∧ cs.size ≤ cs'.size)
    (h : Rep w X φ c v) : Rep w' X' φ' c v := by
  induction h with
  | fr c v h => exact .fr c v (h.mono hb hs hx)
  | agg cs vs hl h ih => exact .agg cs vs hl fun i c v h1 h2 => ih i c v h1 h2 fun x hx' => hn x (by simpa [AV.names] using mem_namesL h1 hx')
  | tup cs vs hl h ih => exact .tup cs vs hl fun i c v h1 h2 => ih i c v h1 h2 fun x hx' => hn x (by simpa [AV.names] using mem_namesL h1 hx')
  | fn f first cap vs us hl hl' h h' ih ih' =>
    exact .fn f first cap vs us hl hl' (fun i c v h1 h2 => ih i c v h1 h2 fun x hx' => hn x (by simp [AV.names, mem_namesL h1 hx']))
      fun i c v h1 h2 => ih' i c v h1 h2 fun x hx' => hn x (by simp [AV.names, mem_namesL h1 hx'])
  | own x sz off len cap b cs e z hb' hh hc hz =>
    obtain ⟨h1, h2⟩ := hn x (by simp [AV.names])
    obtain ⟨cs', e', z', h3, h4⟩ := h2 0 b cs e z hb' hh
    exact .own x sz off len cap b cs' e' z' ((congrFun h1 0).trans hb') h3 hc (Nat.le_trans hz h4)
  | ownNil x sz hb' => exact .ownNil x sz ((congrFun (hn x (by simp [AV.names])).1 0).trans hb')
  | ptr x off b hb' => exact .ptr x off b ((congrFun (hn x (by simp [AV.names])).1 0).trans hb')
  | elt x sz j c b hb' => exact .elt x sz j c b ((congrFun (hn x (by simp [AV.names])).1 0).trans hb')
  | mp x b hb' => exact .mp x b ((congrFun (hn x (by simp [AV.names])).1 0).trans hb')
  | row x j len cap b cs e z hb' hh hc hz =>
    obtain ⟨h1, h2⟩ := hn x (by simp [AV.names])
    obtain ⟨cs', e', z', h3, h4⟩ := h2 _ b cs e z hb' hh
    exact .row x j len cap b cs' e' z' ((congrFun h1 _).trans hb') h3 hc (Nat.le_trans hz h4)
  | rowNil x j hb' => exact .rowNil x j ((congrFun (hn x (by simp [AV.names])).1 _).trans hb')
  | relt x j c b hb' => exact .relt x j c b ((congrFun (hn x (by simp [AV.names])).1 _).trans hb')
/-- An operation, its types looked up. -/
inductive COp where
  | mv (x : Operand)
  | pick (c a b : Operand)
  | alloc (zs : List Value)
  | box (k : Nat) (x : Operand)
  | build (zs : List Value) (ps : List (Nat × Nat × Operand))
  /-- mode 1: parts of the call's own are frozen; 2: they stay the call's own -/
  | lit (mode : Nat) (sz len : Nat) (ps : List (Nat × Operand))
  | load (agg : Bool) (k : Nat) (a : Operand)
  | store (k : Nat) (a x : Operand)
  | nilck (x : Operand)
  /-- kd: what is compared: 1 bools, 2 pointers, 3 slices, 0 numbers or texts -/
  | bin (kd : Nat) (op : BinOp) (x y : Operand)
  /-- slices (0) or arrays (1) compared -/
  | cmp (kd : Nat) (op : BinOp) (x y : Operand)
  | un (op : UnOp) (x : Operand)
  | conv (k : IntKind) (x : Operand)
  | mkfn (f : Fn) (first cap : List Operand)
  | mkmap (isBool : Bool)
  /-- mode 1: rows of the call's own -/
  | mksl (mode : Nat) (bytes : Nat) (z : Value) (len : Operand)
  | slc (sz : Nat) (x : Operand) (lo hi : Option Operand)
  | fad (off : Nat) (x : Operand)
  | fld (agg : Bool) (off k : Nat) (x : Operand)
  | idx (sz : Nat) (x i : Operand)
  | six (x i : Operand)
  | aix (n sz : Nat) (x i : Operand)
  | ext (x : Operand) (i : Nat)
  /-- isB: a map of bools -/
  | look (isB : Bool) (m k : Operand) (ok : Bool)
  | mup (isB : Bool) (m k v : Operand)
  | del (m k : Operand)
  /-- kd: 0 a text, 1 a slice -/
  | len (kd : Nat) (x : Operand)
  | app (sz bytes : Nat) (s x : Operand)
  | call (f : Operand) (args : List Operand)
  deriving Inhabited
structure COper where
  dst : Option Tmp
  op : COp
  guard : Option (Tmp × Bool)
  deriving Inhabited
/-- A schedule of a region whose order is drawn: take number i first; or whichever of those comes up. -/
inductive Sch where
  | done
  | take (i : Nat) (r : Sch)
  | alt (i : Nat) (r rest : Sch)
  | alt0
  deriving Inhabited
inductive CCode where
  | skip
  | region (ops : List COper) (sch : Option Sch)
  | seq (a b : CCode)
  | cond (c : Operand) (a b : CCode)
  | block (id : Nat) (c : CCode)
  | loop (c : CCode)
  | exit (id : Nat)
  | ret
  deriving Inhabited
def tZero (P : Program) (t : TypeId) : Option (List Value) := ((P.info? t).bind (·.zero)).map fun z => z.cells.toList
def tSize (P : Program) (t : TypeId) : Option Nat := (P.info? t).map (·.size)
def tAgg (P : Program) (t : TypeId) : Option Bool := (P.underlying t).map fun | .struct _ | .array _ _ => true | _ => false
def tElem (P : Program) (t : TypeId) : Option TypeId := match P.underlying t with | some (.slice e) => some e | _ => none
def tPlaces (P : Program) (fs : Array Field) : Option (List (Nat × Nat)) := fs.toList.mapM fun f => (P.info? f.type).map fun i => (f.offset, i.size)
def tParts (place : Nat → Option (Nat × Nat)) : List (Nat × Operand) → Option (List (Nat × Nat × Operand))
  | [] => some []
  | (i, x) :: r =>
    match place i, tParts place r with
    | some (o, k), some r => some ((o, k, x) :: r)
    | _, _ => none
def trCall (P : Program) (c : Call) : Option COp :=
  match c.callee with
  | .value f => some (.call f c.args.toList)
  | .builtin .len => match c.args.toList, c.argTypes.toList with
    | [x], [t] => match P.underlying t with
      | some .string => some (.len 0 x)
      | some (.slice _) => some (.len 1 x)
      | _ => none
    | _, _ => none
  | .builtin .append => match c.args.toList, c.argTypes.toList with
    | [s, x], [t, t'] => match tElem P t with
      | some e => match P.info? e with
        | some i => if t = t' ∧ 0 < i.size ∧ 0 < i.bytes ∧ (i.zero.map (·.cells.size)) = some i.size then some (.app i.size i.bytes s x) else none
        | none => none
      | none => none
    | _, _ => none
  | .builtin .delete => match c.args.toList, c.argTypes.toList with
    | [m, k], [t, _] => match P.underlying t with
      | some (.map kt _) => match P.underlying kt with
        | some (.int .i64) => some (.del m k)
        | _ => none
      | _ => none
    | _, _ => none
  | _ => none
def isArr : TypeDesc → Bool
  | .array _ _ => true
  | _ => false
def trOp (P : Program) (op : Op) (ty : TypeId) : Option COp :=
  match op with
  | .move x | .assign x => some (.mv x)
  | .pick c a b => some (.pick c a b)
  | .alloc e => (tZero P e).map .alloc
  | .box e x => (tSize P e).map (.box · x)
  | .build t ps =>
    match tZero P t, P.underlying t with
    | some zs, some (.struct fs) => match tPlaces P fs with
      | some pl => (tParts (fun i => pl[i]?) ps.toList).map (.build zs ·)
      | none => none
    | some zs, some (.array _ e) => match tSize P e with
      | some k => (tParts (fun i => some (i * k, k)) ps.toList).map (.build zs ·)
      | none => none
    | _, _ => none
  | .buildSlice t len ps =>
    match tElem P t with
    | some e => match tSize P e, tZero P e with
      | some k, some zs => if zs.length = k ∧ len * k ≤ 16777216 ∧ 0 < k then some (.lit 0 k len ps.toList) else none
      | _, _ => none
    | none => none
  | .load t a => match tAgg P t, tSize P t with
    | some g, some k => some (.load g k a)
    | _, _ => none
  | .store t a x => (tSize P t).map (.store · a x)
  | .nilCheck x => some (.nilck x)
  | .binOp op t x y _ => match P.underlying t with
    | some (.int _) | some .string => some (.bin 0 op x y)
    | some .bool => some (.bin 1 op x y)
    | some (.pointer _) => some (.bin 2 op x y)
    | some (.slice _) => some (.cmp 0 op x y)
    | some d => if isArr d then some (.cmp 1 op x y) else none
    | none => none
  | .unOp op _ x => some (.un op x)
  | .convert t d x => match P.underlying t, P.underlying d with | some _, some (.int k) => some (.conv k x) | _, _ => none
  | .makeFunc f first cap => some (.mkfn f first.toList cap.toList)
  | .makeMap t r => match r, P.underlying t with
    | none, some (.map kt e) => match P.underlying kt, P.underlying e with
      | some (.int .i64), some (.int .i64) => some (.mkmap false)
      | some (.int .i64), some .bool => some (.mkmap true)
      | _, _ => none
    | _, _ => none
  | .makeSlice t l c => match tElem P t with
    | some e => match P.info? e, tZero P e with
      | some i, some [z] => if i.size = 1 ∧ 0 < i.bytes then
          match l, c with
          | .tmp l', .tmp c' => if l' = c' then some (.mksl 0 i.bytes z l) else none
          | .const (.int .i64 a), .const (.int .i64 b) => if a = b then some (.mksl 0 i.bytes z l) else none
          | _, _ => none
        else none
      | _, _ => none
    | none => none
  | .slice t x lo hi mx => match mx, P.underlying t with
    | none, some (.slice e) => match tSize P e with
      | some k => some (.slc k x lo hi)
      | none => none
    | _, _ => none
  | .fieldAddr t x i => match P.underlying t with
    | some (.struct fs) => match fs[i]? with
      | some f => match tSize P f.type with
        | some 0 => none
        | some _ => some (.fad f.offset x)
        | none => none
      | none => none
    | _ => none
  | .field t x i => match P.underlying t with
    | some (.struct fs) => match fs[i]? with
      | some f => match tAgg P f.type, tSize P f.type with
        | some g, some k => some (.fld g f.offset k x)
        | _, _ => none
      | none => none
    | _ => none
  | .indexAddr t x i => match P.underlying t with
    | some (.slice e) => (tSize P e).map fun k => .idx k x i
    | _ => none
  | .index t x i => match P.underlying t with
    | some .string => some (.six x i)
    | _ => none
  | .extract x i => some (.ext x i)
  | .lookup t m k ok => match P.underlying t with
    | some (.map kt e) => match P.underlying kt, P.underlying e, (P.info? e).bind (·.zero) with
      | some (.int .i64), some (.int .i64), some (.int .i64 0) => some (.look false m k ok)
      | some (.int .i64), some .bool, some (.bool false) => some (.look true m k ok)
      | _, _, _ => none
    | _ => none
  | .mapUpdate t m k v => match P.underlying t with
    | some (.map kt e) => match P.underlying kt, P.underlying e with
      | some (.int .i64), some (.int .i64) => some (.mup false m k v)
      | some (.int .i64), some .bool => some (.mup true m k v)
      | _, _ => none
    | _ => none
  | .call c => trCall P c
  | _ => none
def dstOk (N : Nat) : Option Tmp → Bool
  | some d => Nat.blt d N
  | none => true
def trOper (P : Program) (N : Nat) (ops : Array Oper) (o : Oper) : Option COper :=
  match dstOk N o.dst, trOp P o.op o.type with
  | true, some c => match o.guard with
    | none => some ⟨o.dst, c, none⟩
    | some (j, b) => match (ops[j]?).bind (·.dst) with
      | some t => some ⟨o.dst, c, some (t, b)⟩
      | none => none
  | _, _ => none
def trOpers (P : Program) (N : Nat) (ops : Array Oper) : List Oper → Option (List COper)
  | [] => some []
  | o :: r => do
    let c ← trOper P N ops o
    let r ← trOpers P N ops r
    some (c :: r)
/-- the types of elements that are stored -/
def elemStores (ops : Array Oper) : List TypeId := ops.toList.filterMap fun o => match o.op with
  | .store t (.tmp a) _ => if ops.any (fun o' => match o'.dst, o'.op with | some d, .indexAddr _ _ _ => Nat.beq d a | _, _ => false) then some t else none
  | _ => none
def mapWrites (ops : Array Oper) : Bool := ops.any fun o => match o.op with | .mapUpdate _ _ _ _ => true | _ => false
def schCand (ops : Array Oper) (ph : Bool) (i : Nat) : Bool :=
  match ops[i]? with
  | some o => match o.op with
    | .move _ | .assign _ | .pick _ _ _ | .build _ _ | .nilCheck _ | .binOp _ _ _ _ _ | .unOp _ _ _ | .convert _ _ _ | .makeFunc _ _ _ | .slice _ _ _ _ _ | .fieldAddr _ _ _ | .field _ _ _ | .indexAddr _ _ _ | .index _ _ _ | .extract _ _ => true
    | .load t _ => ph && !((elemStores ops).contains t)
    | .lookup _ _ _ _ => ph && !(mapWrites ops)
    | .call c => match c.callee with
      | .builtin .len => true
      | _ => false
    | _ => false
  | none => false
def mkSch (ops : Array Oper) : Nat → Array Bool → Bool → Option Sch
  | 0, listed, _ => match Region.ready .any ops listed with
    | [] => some .done
    | _ => none
  | fuel + 1, listed, ph =>
    match Region.ready .any ops listed with
    | [] => some .done
    | j :: rs => match (j :: rs).find? fun i => schCand ops ph i && Region.free .any ops listed i with
      | some i => (mkSch ops fuel (listed.setIfInBounds i true) ph).map (.take i ·)
      | none => (j :: rs).foldr (fun i acc => match mkSch ops fuel (listed.setIfInBounds i true) false, acc with
        | some r, some t => some (.alt i r t)
        | _, _ => none) (some .alt0)
def trCode (P : Program) (N : Nat) : Code → Option CCode
  | .skip => some .skip
  | .region _ ops false => (trOpers P N ops ops.toList).map (.region · none)
  | .region _ ops true => match P.follows .mixedOrders && Region.noSelect ops, mkSch ops ops.size (Array.replicate ops.size false) true with
    | true, some sch => (trOpers P N ops ops.toList).map (.region · (some sch))
    | _, _ => none
  | .seq a b => do some (.seq (← trCode P N a) (← trCode P N b))
  | .cond c a b => do some (.cond c (← trCode P N a) (← trCode P N b))
  | .block id c => (trCode P N c).map (.block id ·)
  | .loop c => (trCode P N c).map .loop
  | .exit id => some (.exit id)
  | .ret => some .ret
  | _ => none
def AV.cells : AV → List AV
  | .agg cs => cs
  | c => [c]
def AV.isAgg : AV → Bool
  | .agg _ => true
  | _ => false
/-- one cell, and known to be one -/
def AV.one : AV → Bool
  | .any | .agg _ | .tup _ => false
  | _ => true
/-- a bool that is known is told as one that is not: so what is stored is of one form -/
def AV.nrm : AV → AV
  | .raw (.bool b) => .tst b
  | c => c
def opd (s : AS) : Operand → Option AV
  | .tmp t => look s.env t
  | .const v => if v.oneCell' then some (.raw v) else none
  | .func f => some (.fn (.func f) [] [])
  | .global _ => none
def opds (s : AS) : List Operand → Option (List AV)
  | [] => some []
  | x :: r => do
    let c ← opd s x
    let r ← opds s r
    some (c :: r)
def asBool : AV → Option Bool
  | .tst b => some b
  | .raw (.bool b) => some b
  | _ => none
def intv (op : BinOp) (k : IntKind) (a b : Int) : Option (Option Prop × AV) :=
  match op with
  | .add => some (none, .raw (.int k (k.wrap (a + b))))
  | .sub => some (none, .raw (.int k (k.wrap (a - b))))
  | .mul => some (none, .raw (.int k (k.wrap (a * b))))
  | .quo => some (some (b ≠ 0), .raw (.int k (k.wrap (a.tdiv b))))
  | .rem => some (some (b ≠ 0), .raw (.int k (a.tmod b)))
  | .and => some (none, .raw (.int k (k.wrap (BitVec.ofInt k.bits a &&& BitVec.ofInt k.bits b).toNat)))
  | .or => some (none, .raw (.int k (k.wrap (BitVec.ofInt k.bits a ||| BitVec.ofInt k.bits b).toNat)))
  | .xor => some (none, .raw (.int k (k.wrap (BitVec.ofInt k.bits a ^^^ BitVec.ofInt k.bits b).toNat)))
  | .andNot => some (none, .raw (.int k (k.wrap (BitVec.ofInt k.bits a &&& ~~~(BitVec.ofInt k.bits b)).toNat)))
  | .eql => some (none, .tst (a == b))
  | .neq => some (none, .tst (a != b))
  | .lss => some (none, .tst (decide (a < b)))
  | .leq => some (none, .tst (decide (a ≤ b)))
  | .gtr => some (none, .tst (decide (a > b)))
  | .geq => some (none, .tst (decide (a ≥ b)))
  | _ => none
def shv (op : BinOp) (k : IntKind) (a b : Int) : Option (Option Prop × AV) :=
  match op with
  | .shl => some (some (0 ≤ b), .raw (.int k (k.wrap (a * 2 ^ (min b.toNat k.bits)))))
  | .shr => some (some (0 ≤ b), .raw (.int k (a.fdiv (2 ^ (min b.toNat k.bits)))))
  | _ => none
def strv (op : BinOp) (a b : ByteArray) : Option (Option Prop × AV) :=
  match op with
  | .add => some (some (a.size + b.size ≤ 9223372036854775807), .raw (.string (a ++ b)))
  | .eql => some (none, .tst (a.toList == b.toList))
  | .neq => some (none, .tst (!(a.toList == b.toList)))
  | _ => none
def eqNil (op : BinOp) (isNil : Bool) : Option (Option Prop × AV) :=
  match op with
  | .eql => some (none, .raw (.bool isNil))
  | .neq => some (none, .raw (.bool !isNil))
  | _ => none
def binv (kd : Nat) (op : BinOp) : AV → AV → Option (Option Prop × AV)
  | .raw (.int k a), .raw (.int k' b) => if op = .shl ∨ op = .shr then shv op k a b else if k = k' then intv op k a b else none
  | .raw (.string a), .raw (.string b) => strv op a b
  | .raw (.bool a), .raw (.bool b) | .tst a, .raw (.bool b) | .raw (.bool a), .tst b | .tst a, .tst b =>
    match kd, op with
    | 1, .eql => some (none, .tst (a == b))
    | 1, .neq => some (none, .tst (!(a == b)))
    | _, _ => none
  | .raw (.pointer none), .raw (.pointer none) => match kd with | 2 => eqNil op true | _ => none
  | .ptr _ _, .raw (.pointer none) | .elt _ _ _ _, .raw (.pointer none) | .fpt _ _, .raw (.pointer none) => match kd with | 2 => eqNil op false | _ => none
  | .raw (.pointer none), .ptr _ _ | .raw (.pointer none), .elt _ _ _ _ | .raw (.pointer none), .fpt _ _ => match kd with | 2 => eqNil op false | _ => none
  | .raw (.slice none 0 0), .raw (.slice none 0 0) => match kd with | 3 => eqNil op true | _ => none
  | _, _ => none
def unv (op : UnOp) : AV → Option AV
  | .tst b => match op with | .not => some (.tst (!b)) | _ => none
  | .raw (.bool b) => match op with | .not => some (.raw (.bool !b)) | _ => none
  | .raw (.int k n) => match op with
    | .neg => some (.raw (.int k (k.wrap (0 - n))))
    | .xor => some (.raw (.int k (k.wrap (BitVec.ofInt k.bits (if k.signed then -1 else k.max) ^^^ BitVec.ofInt k.bits n).toNat)))
    | _ => none
  | _ => none
/-- cells written into a list of cells -/
def putCells (cs : List AV) (off : Nat) : List AV → List AV
  | [] => cs
  | v :: r => putCells (cs.set off v) (off + 1) r
def buildv (s : AS) (cs : List AV) : List (Nat × Nat × Operand) → Option (List AV)
  | [] => some cs
  | (off, k, x) :: r =>
    match opd s x with
    | none => none
    | some v => match Nat.beq v.cells.length k && Nat.ble (off + k) cs.length && v.cells.all AV.one with | true => buildv s (putCells cs off v.cells) r | false => none
/-- a literal's elements, one behind the other -/
def litv (s : AS) (sz : Nat) : Nat → List (Nat × Operand) → Option (List (List AV))
  | _, [] => some []
  | n, (i, x) :: r => match Nat.beq i n, opd s x, litv s sz (n + 1) r with
    | true, some c, some l => match Nat.beq c.cells.length sz && c.cells.all AV.one with
      | true => some (c.cells.map AV.nrm :: l)
      | false => none
    | _, _, _ => none
/-- the cells of a load -/
def cellsAt (f : Nat → AV) : Nat → Nat → List AV
  | _, 0 => []
  | o, k + 1 => f o :: cellsAt f (o + 1) k
def loadv (agg : Bool) (k : Nat) (f : Nat → AV) : Option AV :=
  match agg with
  | true => some (.agg (cellsAt f 0 k))
  | false => match Nat.beq k 1 with | true => some (f 0) | false => none
def i64? : AV → Option Int
  | .raw (.int .i64 n) => some n
  | _ => none
/-- What a quiet operation comes to: what is asked, the value, what is made (named nm). -/
def yv (s : AS) (nm : Name) : COp → Option (Option Prop × AV × Option Blk)
  | .mv x => (opd s x).map fun c => (none, c, none)
  | .pick c a b =>
    match opd s c with
    | some (.raw (.bool true)) => (opd s a).map fun c => (none, c, none)
    | some (.raw (.bool false)) => (opd s b).map fun c => (none, c, none)
    | some (.tst t) => match (opd s a).bind asBool, (opd s b).bind asBool with
      | some x, some y => some (none, .tst (if t then x else y), none)
      | _, _ => none
    | _ => none
  | .alloc zs => match zs.all Value.oneCell' with | true => some (none, .ptr nm 0, some (.box (zs.map fun z => (AV.raw z).nrm))) | false => none
  | .box k x => match opd s x with
    | some c => match Nat.beq c.cells.length k && c.cells.all AV.one with | true => some (none, .ptr nm 0, some (.box (c.cells.map AV.nrm))) | false => none
    | none => none
  | .build zs ps => match zs.all Value.oneCell' with
    | true => match buildv s (zs.map AV.raw) ps with | some cs => some (none, .agg cs, none) | none => none
    | false => none
  | .lit 0 sz len ps => match litv s sz 0 ps with
    | some ls => match Nat.beq ls.length len && (namesL ls.flatten).isEmpty with
      | true => some (none, .own nm sz 0 len, some (.arr sz len fun j i => ((ls.getD j []).getD i .any)))
      | false => none
    | none => none
  | .load agg k a => match opd s a with
    | some (.fpt m f) => match Nat.ble k m with
      | true => match loadv agg k f with | some c => some (none, c, none) | none => none
      | false => none
    | some (.ptr x o) => match look s.st x with
      | some (.box cs) => match Nat.ble (o + k) cs.length with
        | true => match loadv agg k fun i => cs.getD (i + o) .any with | some c => some (none, c, none) | none => none
        | false => none
      | _ => none
    | some (.elt x sz j c) => match look s.st x with
      | some (.arr sz' n f) => match Nat.beq sz sz' && Nat.ble (c + k) sz with
        | true => match loadv agg k fun i => f j (i + c) with | some v => some (some (j < n), v, none) | none => none
        | false => none
      | some (.mat n len f) => match agg, k, sz, c with
        | false, 1, 1, 0 => some (some (j < n), .row x j (len j), none)
        | _, _, _, _ => none
      | _ => none
    | some (.relt x j c) => match look s.st x with
      | some (.mat n len f) => match agg, k with
        | false, 1 => some (some (j < n ∧ c < len j), f j c, none)
        | _, _ => none
      | _ => none
    | _ => none
  | .nilck x => match opd s x with
    | some (.fpt m f) => some (none, .fpt m f, none)
    | some (.ptr x o) => some (none, .ptr x o, none)
    | some (.elt x sz j c) => some (none, .elt x sz j c, none)
    | _ => none
  | .bin kd op x y => match opd s x, opd s y with
    | some a, some b => match binv kd op a b with | some (p, c) => some (p, c, none) | none => none
    | _, _ => none
  | .un op x => ((opd s x).bind (unv op)).map fun c => (none, c, none)
  | .conv k x => match opd s x with
    | some (.raw (.int _ n)) => some (none, .raw (.int k (k.wrap n)), none)
    | _ => none
  | .mkfn f first cap => match opds s first, opds s cap with
    | some a, some b => some (none, .fn f a b, none)
    | _, _ => none
  | .mkmap b => some (none, .mp nm, some (if b then .mapB fun _ => none else .mapI fun _ => none))
  | .mksl 0 bytes z l => match (opd s l).bind i64? with
    | some n => if z.oneCell' then some (some (0 ≤ n ∧ n * bytes ≤ 140737488355328), .own nm 1 0 n.toNat, some (.arr 1 n.toNat fun _ _ => (AV.raw z).nrm)) else none
    | none => none
  | .slc sz x lo hi => match opd s x, lo.map (opd s), hi.map (opd s) with
    | some (.fro sz' n f), none, some (some (.raw (.int .i64 h))) => match Nat.beq sz sz' with | true => some (some (0 ≤ h ∧ h ≤ n), .fro sz h.toNat f, none) | false => none
    | some (.fro sz' n f), some (some (.raw (.int .i64 l))), none => match Nat.beq sz sz' with | true => some (some (0 ≤ l ∧ l ≤ n), .fro sz (n - l.toNat) (fun j c => f (j + l.toNat) c), none) | false => none
    | some (.own x sz' 0 n), none, some (some (.raw (.int .i64 h))) => match Nat.beq sz sz' with | true => some (some (0 ≤ h ∧ h ≤ n), .own x sz 0 h.toNat, none) | false => none
    | _, _, _ => none
  | .fad off x => match opd s x with
    | some (.fpt m f) => match Nat.blt off m with | true => some (none, .fpt (m - off) (fun c => f (c + off)), none) | false => none
    | some (.ptr x o) => some (none, .ptr x (o + off), none)
    | some (.elt x sz j c) => some (none, .elt x sz j (c + off), none)
    | _ => none
  | .fld agg off k x => match opd s x with
    | some (.agg cs) => match Nat.ble (off + k) cs.length with
      | true => match loadv agg k fun i => cs.getD (i + off) .any with | some c => some (none, c, none) | none => none
      | false => none
    | _ => none
  | .idx sz x i => match opd s x, (opd s i).bind i64? with
    | some (.fro sz' n f), some i => match Nat.beq sz sz' with | true => some (some (0 ≤ i ∧ i < n), .fpt sz (f i.toNat), none) | false => none
    | some (.own x sz' off n), some i => match Nat.beq sz sz' with | true => some (some (0 ≤ i ∧ i < n), .elt x sz (i.toNat + off) 0, none) | false => none
    | some (.row x j n), some i => match Nat.beq sz 1 with | true => some (some (0 ≤ i ∧ i < n), .relt x j i.toNat, none) | false => none
    | _, _ => none
  | .six x i => match opd s x, (opd s i).bind i64? with
    | some (.raw (.string t)), some i => some (some (0 ≤ i ∧ i < t.size), .raw (.int .u8 (t.data.getD i.toNat 0).toNat), none)
    | _, _ => none
  | .ext x i => match opd s x with
    | some (.tup cs) => (cs[i]?).map fun c => (none, c, none)
    | _ => none
  | .look isB m k ok => match opd s m, (opd s k).bind i64? with
    | some (.mp x), some k => match isB, look s.st x with
      | false, some (.mapI f) => match ok with | true => some (none, .tup [.raw (.int .i64 ((f k).getD 0)), .tst (f k).isSome], none) | false => some (none, .raw (.int .i64 ((f k).getD 0)), none)
      | true, some (.mapB f) => match ok with | true => some (none, .tup [.tst ((f k).getD false), .tst (f k).isSome], none) | false => some (none, .tst ((f k).getD false), none)
      | _, _ => none
    | _, _ => none
  | .len kd x => match kd, opd s x with
    | 1, some (.fro _ n _) => some (none, .raw (.int .i64 n), none)
    | 1, some (.own _ _ _ n) => some (none, .raw (.int .i64 n), none)
    | 1, some (.row _ _ n) => some (none, .raw (.int .i64 n), none)
    | 0, some (.raw (.string t)) => some (none, .raw (.int .i64 t.size), none)
    | 1, some (.raw (.slice none 0 0)) => some (none, .raw (.int .i64 0), none)
    | _, _ => none
  | _ => none
def updO (env : List (Nat × AV)) (dst : Option Tmp) (c : AV) : List (Nat × AV) := match dst with | some d => upd env d c | none => env
def updS (st : List (Name × Blk)) (nm : Name) (new : Option Blk) : List (Name × Blk) := match new with | some b => upd st nm b | none => st
def AS.outK (s : AS) (dst : Option Tmp) (nm : Name) (c : AV) (new : Option Blk) (K : AS → Prop) : Prop :=
  match s with
  | ⟨env, st, nx⟩ => match dst, new with
    | some d, some b => updK env d c fun e => updK st nm b fun t => K ⟨e, t, nx⟩
    | some d, none => updK env d c fun e => K ⟨e, st, nx⟩
    | none, some b => updK st nm b fun t => K ⟨env, t, nx⟩
    | none, none => K ⟨env, st, nx⟩
/-- A contract: from frozen arguments to a result, and to rows and variables that the call has made for it (canonical names, below 8); 'fresh': what of the result is frozen lies in new memory. -/
def FC (P : Program) (f : FuncId) (args : List AV) (r : AV) (st : List (Name × Blk)) (fresh : Bool) : Prop :=
  (∃ fn, P.funcs[f]? = some fn ∧ (fn.name == "runtime.NumGoroutine") = false ∧ fn.body.isNone = false) ∧
  ∀ (B : Nat → Prop) (w : World) (vals : List Value), (∀ b, B b → b < w.heap.size) → args.length = vals.length → (∀ (i : Nat) (c : AV) (v : Value), args[i]? = some c → vals[i]? = some v → Fr w B c v) →
    Calls P f vals.toArray w fun e w' => ∃ v φ', e = .returned v ∧ Below w.heap.size w w' ∧
      (∀ x i b, φ' x i = some (some b) → w.heap.size ≤ b ∧ b < w'.heap.size) ∧ (∀ x y i j b, φ' x i = some (some b) → φ' y j = some (some b) → x = y ∧ i = j) ∧ (∀ x, 8 ≤ x → ∀ i, φ' x i = none) ∧
      Rep w' (fun b => Excl B φ' b ∨ (fresh = true ∧ b < w.heap.size)) φ' r v ∧ (∀ p ∈ st, BlkAt w' (fun b => Excl B φ' b ∨ (fresh = true ∧ b < w.heap.size)) φ' p.1 p.2)
mutual
/-- names moved up -/
def AV.up (k : Nat) : AV → AV
  | .own x a b c => .own (x + k) a b c
  | .ptr x o => .ptr (x + k) o
  | .elt x a b c => .elt (x + k) a b c
  | .row x a b => .row (x + k) a b
  | .relt x a b => .relt (x + k) a b
  | .mp x => .mp (x + k)
  | .agg cs => .agg (upL k cs)
  | .tup cs => .tup (upL k cs)
  | .fn f a b => .fn f (upL k a) (upL k b)
  | c => c
def upL (k : Nat) : List AV → List AV
  | [] => []
  | c :: r => c.up k :: upL k r
end
def Blk.up (k : Nat) : Blk → Blk
  | .box cs => .box (upL k cs)
  | .pin x b => .pin (x + k) b
  | b => b
/-- what a callee may see of a value: names are lent, as frozen memory -/
def lend (st : List (Name × Blk)) : Nat → AV → Option AV
  | 0, _ => none
  | d + 1, c =>
    match c.names.isEmpty, c with
    | true, _ => some c
    | false, .own x sz off n => match look st x with
      | some (.arr sz' _ f) => match Nat.beq sz sz' with | true => some (.fro sz n fun j i => f (j + off) i) | false => none
      | some (.mat _ len f) => match off with | 0 => some (.fro 1 n fun j _ => .fro 1 (len j) fun c _ => f j c) | _ => none
      | _ => none
    | false, .row x j n => match look st x with
      | some (.mat _ _ f) => some (.fro 1 n fun c _ => f j c)
      | _ => none
    | false, .ptr x o => match look st x with
      | some (.box cs) => some (.fpt (cs.length - o) fun i => ((lend st d (cs.getD (i + o) .any))).getD .any)
      | _ => none
    | false, .fn f a b => match (a.mapM (lend st d)), (b.mapM (lend st d)) with
      | some a, some b => some (.fn f a b)
      | _, _ => none
    | false, .agg cs => (cs.mapM (lend st d)).map .agg
    | false, _ => none
/-- what is asked where names are lent -/
def lendC (st : List (Name × Blk)) : Nat → AV → List Prop
  | 0, _ => []
  | d + 1, c =>
    match c.names.isEmpty, c with
    | true, _ => []
    | false, .own x sz off n => match look st x with
      | some (.arr _ n' _) => [n + off ≤ n']
      | some (.mat n' _ _) => [n ≤ n']
      | _ => []
    | false, .row x j n => match look st x with
      | some (.mat n' len _) => [j < n' ∧ n ≤ len j]
      | _ => []
    | false, .ptr x _ => match look st x with
      | some (.box cs) => cs.flatMap (lendC st d)
      | _ => []
    | false, .fn _ a b => a.flatMap (lendC st d) ++ b.flatMap (lendC st d)
    | false, .agg cs => cs.flatMap (lendC st d)
    | false, _ => []
def allP : List Prop → Prop
  | [] => True
  | [p] => p
  | p :: r => p ∧ allP r
mutual
/-- no memory in it -/
def AV.flat : AV → Bool
  | .raw v => match v with | .int _ _ | .bool _ | .string _ => true | _ => false
  | .tst _ => true
  | .agg cs => flatL cs
  | .tup cs => flatL cs
  | _ => false
def flatL : List AV → Bool
  | [] => true
  | c :: r => c.flat && flatL r
end
/-- slots whose values fall are forgotten -/
def killK {β : Type} (p : AV → Bool) (l : List (Nat × AV)) (q : List (Nat × AV) → β) : β :=
  match l with
  | [] => q []
  | (k, c) :: r => match p c with
    | true => killK p r fun r' => q ((k, .any) :: r')
    | false => killK p r fun r' => q ((k, c) :: r')
def killL (p : AV → Bool) : List AV → List AV
  | [] => []
  | c :: r => (match p c with | true => .any | false => c) :: killL p r
def killS {β : Type} (p : AV → Bool) (l : List (Name × Blk)) (q : List (Name × Blk) → β) : β :=
  match l with
  | [] => q []
  | (k, .box cs) :: r => killS p r fun r' => q ((k, .box (killL p cs)) :: r')
  | (k, .pin x b) :: r => match p (.ptr x 0) with
    | true => killS p r fun r' => q ((k, .arr 1 0 fun _ _ => .any) :: r')
    | false => killS p r fun r' => q ((k, .pin x b) :: r')
  | (k, b) :: r => killS p r fun r' => q ((k, b) :: r')
/-- what is appended: what is asked, how many, and the cells -/
def srcOf (st : List (Name × Blk)) (sz : Nat) : AV → Option (Prop × Nat × (Nat → Nat → AV))
  | .own y sz' off m => match look st y with
    | some (.arr sz'' n g) => match Nat.beq sz sz' && Nat.beq sz sz'' with | true => some (m + off ≤ n, m, fun j c => g (j + off) c) | false => none
    | _ => none
  | .fro sz' m g => match Nat.beq sz sz' with | true => some (True, m, g) | false => none
  | .row y j m => match look st y with
    | some (.mat n len g) => match sz with | 1 => some (j < n ∧ m ≤ len j, m, fun c _ => g j c) | _ => none
    | _ => none
  | .raw (.slice none 0 0) => some (True, 0, fun _ _ => .any)
  | _ => none
/-- One operation. -/
def evOp1 (P : Program) (s : AS) (nm : Name) (dst : Option Tmp) (K : AS → Prop) (o : COp) : Prop :=
  match s with
  | ⟨env, st, nx⟩ => match o with
  | .store k a x => match opd ⟨env, st, nx⟩ a, opd ⟨env, st, nx⟩ x with
    | some (.ptr y o), some c => match look st y with
      | some (.box cs) => match Nat.ble (o + k) cs.length && Nat.beq c.cells.length k && c.cells.all AV.one with
        | true => updK st y (.box (putCells cs o (c.cells.map AV.nrm))) fun t => AS.outK ⟨env, t, nx⟩ dst nm .any none K
        | false => False
      | _ => False
    | some (.elt y sz j i), some c => match look st y with
      | some (.arr sz' n f) => match Nat.beq sz sz' && Nat.beq i 0 && Nat.beq k sz && Nat.beq c.cells.length k && c.cells.all AV.one && (namesL c.cells).isEmpty with
        | true => j < n ∧ updK st y (.arr sz n fun j' i' => if j' = j then (c.cells.map AV.nrm).getD i' .any else f j' i') fun t => AS.outK ⟨env, t, nx⟩ dst nm .any none K
        | false => False
      | _ => False
    | some (.relt y j i), some c => match look st y with
      | some (.mat n len f) => match Nat.beq k 1 && c.one && c.names.isEmpty with
        | true => (j < n ∧ i < len j) ∧ updK st y (.mat n len fun j' i' => if j' = j ∧ i' = i then c.nrm else f j' i') fun t => AS.outK ⟨env, t, nx⟩ dst nm .any none K
        | false => False
      | _ => False
    | _, _ => False
  | .mup isB m k v => match opd ⟨env, st, nx⟩ m, (opd ⟨env, st, nx⟩ k).bind i64?, opd ⟨env, st, nx⟩ v with
    | some (.mp x), some k, some c => match isB, look st x with
      | false, some (.mapI f) => match i64? c with
        | some v => updK st x (.mapI fun k' => if k' = k then some v else f k') fun t => AS.outK ⟨env, t, nx⟩ dst nm .any none K
        | none => False
      | true, some (.mapB f) => match asBool c with
        | some v => updK st x (.mapB fun k' => if k' = k then some v else f k') fun t => AS.outK ⟨env, t, nx⟩ dst nm .any none K
        | none => False
      | _, _ => False
    | _, _, _ => False
  | .del m k => match opd ⟨env, st, nx⟩ m, (opd ⟨env, st, nx⟩ k).bind i64? with
    | some (.mp x), some k => match look st x with
      | some (.mapI f) => updK st x (.mapI fun k' => if k' = k then none else f k') fun t => AS.outK ⟨env, t, nx⟩ dst nm .any none K
      | some (.mapB f) => updK st x (.mapB fun k' => if k' = k then none else f k') fun t => AS.outK ⟨env, t, nx⟩ dst nm .any none K
      | _ => False
    | _, _ => False
  | .app sz bytes a b => match opd ⟨env, st, nx⟩ a, opd ⟨env, st, nx⟩ b with
    | some (.raw (.slice none 0 0)), some c => match srcOf st sz c with
      | some (p, m, g) => (p ∧ m * bytes ≤ 140737488355328) ∧ AS.outK ⟨env, st, nx⟩ dst nm (.own nm sz 0 m) (some (.arr sz m g)) K
      | none => False
    | some (.own x sz' 0 len), some c => match look st x, srcOf st sz c with
      | some (.arr sz'' n f), some (p, m, g) => match Nat.beq sz sz' && Nat.beq sz sz'' with
        | true => (p ∧ (len + m) * bytes ≤ 140737488355328 ∧ len ≤ n) ∧ killK (fun c => c.names.contains x) env fun env => killS (fun c => c.names.contains x) st fun st =>
            updK st x (.arr sz (len + m) fun j i => if j < len then f j i else g (j - len) i) fun t => AS.outK ⟨env, t, nx⟩ dst nm (.own x sz 0 (len + m)) none K
        | false => False
      | _, _ => False
    | _, _ => False
  | .call f args => match opd ⟨env, st, nx⟩ f, opds ⟨env, st, nx⟩ args with
    | some (.fn (.func g) first cap), some cs => match ((first ++ cs ++ cap).mapM (lend st 4)) with
      | some cs' => allP ((first ++ cs ++ cap).flatMap (lendC st 4)) ∧ ∃ r st' fresh, FC P g cs' r st' fresh ∧ ((namesL (first ++ cs ++ cap)).isEmpty = true ∨ (r.flat && st'.isEmpty) = true ∨ fresh = true) ∧
          AS.outK ⟨env, st'.foldl (fun l p => upd l (p.1 + nm) (p.2.up nm)) st, nx⟩ dst nm (r.up nm) none K
      | none => False
    | _, _ => False
  | o => match yv ⟨env, st, nx⟩ nm o with
    | some (none, c, new) => AS.outK ⟨env, st, nx⟩ dst nm c new K
    | some (some p, c, new) => p ∧ AS.outK ⟨env, st, nx⟩ dst nm c new K
    | none => False
/-- what is said behind a piece of work: it went on from what was -/
def After (N : Nat) (B : Nat → Prop) (fr : Name → Prop) (φ : Loc) (w : World) (W : Name → Nat → Prop) (K : AS → Prop) (a' : Act) (w' : World) : Prop := ∃ s' φ', K s' ∧ RelAt N B fr φ' s' a' w' ∧ Fwd φ w φ' w' W
/-- what a region may write -/
def Wr (base : Name) (W0 WR : List Name) : Name → Nat → Prop := fun x i => base ≤ x ∨ (i = 0 ∧ x ∈ W0) ∨ (0 < i ∧ x ∈ WR)
/-- An operation, from whatever the state stands for. -/
def SemOp (P : Program) (Wc : Name → Nat → Prop) (s : AS) (nm : Name) (dst : Option Tmp) (o : COp) (K : AS → Prop) : Prop :=
  ∀ (oper : Oper), trOp P oper.op oper.type = some o → oper.dst = dst → ∀ (N : Nat) (B : Nat → Prop) (fr : Name → Prop) (φ : Loc) (a : Act) (w : World), (∀ i, i < 8 → fr (nm + i)) → (∀ d, dst = some d → d < N) → RelAt N B fr φ s a w →
    ∀ Q : Exit → Act → World → Prop, oper.wp P a w (After N B (fun x => fr x ∧ ¬ (nm ≤ x ∧ x < nm + 8)) φ w Wc K) Q
/-- operations with a rule of their own -/
def evOp (P : Program) (Wc : Name → Nat → Prop) (s : AS) (nm : Name) (dst : Option Tmp) (K : AS → Prop) (o : COp) : Prop :=
  match o with
  | .store k a x => SemOp P Wc s nm dst (.store k a x) K
  | .mup b m k v => SemOp P Wc s nm dst (.mup b m k v) K
  | .del m k => SemOp P Wc s nm dst (.del m k) K
  | .app sz bytes a b => SemOp P Wc s nm dst (.app sz bytes a b) K
  | .lit mode sz len ps => SemOp P Wc s nm dst (.lit mode sz len ps) K
  | .mksl mode bytes z l => SemOp P Wc s nm dst (.mksl mode bytes z l) K
  | .call f args => SemOp P Wc s nm dst (.call f args) K
  | .cmp kd op x y => SemOp P Wc s nm dst (.cmp kd op x y) K
  | o => evOp1 P s nm dst K o
/-- operations that hang on their operands alone -/
def COp.pure : COp → Bool
  | .mv _ | .pick _ _ _ | .build _ _ | .nilck _ | .bin _ _ _ _ | .un _ _ | .conv _ _ | .mkfn _ _ _ | .slc _ _ _ _ | .fad _ _ | .fld _ _ _ _ | .idx _ _ _ | .six _ _ | .ext _ _ | .len _ _ => true
  | _ => false
/-- what of what is named an operation may write -/
def foot (s : AS) : COp → Name → Nat → Prop
  | .store _ a _ => match opd s a with
    | some (.ptr y _) => OneW y 0
    | some (.elt y _ _ _) => OneW y 0
    | some (.relt y j _) => OneW y (j + 1)
    | _ => NoW
  | .mup _ m _ _ | .del m _ => match opd s m with
    | some (.mp y) => OneW y 0
    | _ => NoW
  | .app _ _ a _ => match opd s a with
    | some (.own y _ _ _) => OneW y 0
    | _ => NoW
  | _ => NoW
/-- An operation with its guard; a bool that is not decided is decided here. -/
def evG (P : Program) (Wc : Name → Nat → Prop) (s : AS) (nm : Name) (dst : Option Tmp) (o : COp) (g : Option (Tmp × Bool)) (K : AS → Prop) : Prop :=
  match s with
  | ⟨env, st, nx⟩ => match g with
  | none => evOp P Wc ⟨env, st, nx⟩ nm dst K o
  | some (t, want) =>
    match look env t with
    | some (.raw (.bool b)) => match b == want with
      | true => evOp P Wc ⟨env, st, nx⟩ nm dst K o
      | false => AS.outK ⟨env, st, nx⟩ dst nm (.tup []) none K
    | some (.tst b) =>
      (b = want → updK env t (.raw (.bool want)) fun e => evOp P Wc ⟨e, st, nx⟩ nm dst K o) ∧
      (b = !want → updK env t (.raw (.bool !want)) fun e => AS.outK ⟨e, st, nx⟩ dst nm (.tup []) none K)
    | some (.tup []) => AS.outK ⟨env, st, nx⟩ dst nm (.tup []) none K
    | _ => False
/-- The same, where the operation meets what is asked. -/
def evGC (P : Program) (Wc : Name → Nat → Prop) (chk : AS → COp → Bool) (s : AS) (nm : Name) (dst : Option Tmp) (o : COp) (g : Option (Tmp × Bool)) (K : AS → Prop) : Prop :=
  match s with
  | ⟨env, st, nx⟩ => match g with
  | none => chk ⟨env, st, nx⟩ o = true ∧ evOp P Wc ⟨env, st, nx⟩ nm dst K o
  | some (t, want) =>
    match look env t with
    | some (.raw (.bool b)) => match b == want with
      | true => chk ⟨env, st, nx⟩ o = true ∧ evOp P Wc ⟨env, st, nx⟩ nm dst K o
      | false => AS.outK ⟨env, st, nx⟩ dst nm (.tup []) none K
    | some (.tst b) =>
      (b = want → updK env t (.raw (.bool want)) fun e => chk ⟨e, st, nx⟩ o = true ∧ evOp P Wc ⟨e, st, nx⟩ nm dst K o) ∧
      (b = !want → updK env t (.raw (.bool !want)) fun e => AS.outK ⟨e, st, nx⟩ dst nm (.tup []) none K)
    | some (.tup []) => AS.outK ⟨env, st, nx⟩ dst nm (.tup []) none K
    | _ => False
/-- may it be taken first? -/
def takeOk (cl : Bool) (W0 WR : List Name) (s : AS) : COp → Bool
  | .load _ _ a => match opd s a with
    | some (.fpt _ _) => cl
    | some (.ptr y _) => cl && !(W0.contains y)
    | some (.elt y _ _ _) => cl && !(W0.contains y)
    | some (.relt y _ _) => cl && !(WR.contains y)
    | _ => false
  | .look _ m _ _ => match opd s m with
    | some (.mp y) => cl && !(W0.contains y)
    | _ => false
  | o => o.pure
/-- does it write only what is said to be written? -/
def footOk (base : Name) (W0 WR : List Name) (s : AS) : COp → Bool
  | .store _ a _ => match opd s a with
    | some (.ptr y _) => Nat.ble base y || W0.contains y
    | some (.elt y _ _ _) => Nat.ble base y || W0.contains y
    | some (.relt y _ _) => Nat.ble base y || WR.contains y
    | _ => false
  | .mup _ m _ _ | .del m _ => match opd s m with
    | some (.mp y) => Nat.ble base y || W0.contains y
    | _ => false
  | .app _ _ a _ => match opd s a with
    | some (.own y _ _ _) => Nat.ble base y || W0.contains y
    | _ => true
  | _ => true
/-- A region whose order is drawn, by a schedule. -/
def evD (P : Program) (base : Name) (W0 WR : List Name) (ops : List COper) : Sch → Bool → AS → (AS → Prop) → Prop
  | .done, _, s, K => K s
  | .take i r, cl, s, K => match ops[i]? with
    | some ⟨d, o, g⟩ => evGC P (Wr base W0 WR) (takeOk cl W0 WR) s (base + 8 * i) d o g fun s' => evD P base W0 WR ops r cl s' K
    | none => False
  | .alt i r rest, cl, s, K => (match ops[i]? with
    | some ⟨d, o, g⟩ => evGC P (Wr base W0 WR) (fun _ _ => true) s (base + 8 * i) d o g fun s' => evD P base W0 WR ops r false s' K
    | none => False) ∧ evD P base W0 WR ops rest cl s K
  | .alt0, _, _, _ => True
def evR (P : Program) (base : Name) : Nat → List COper → AS → (AS → Prop) → Prop
  | _, [], s, K => K s
  | i, ⟨d, o, g⟩ :: r, s, K => evG P (fun _ _ => True) s (base + 8 * i) d o g fun s' => evR P base (i + 1) r s' K
/-- what is kept -/
def AS.keep (s : AS) (live : List Nat) (names : List Name) (nx : Nat) : AS :=
  { env := s.env.filter fun p => live.contains p.1, st := s.st.filter fun p => names.contains p.1, nx := nx }
section inv
variable {w : World} {X : Nat → Prop} {φ : Loc}
theorem rep_raw {v u : Value} (h : Rep w X φ (.raw v) u) : u = v ∧ v.oneCell' = true := by
  cases h with
  | fr _ _ h => cases h with
    | raw _ h => exact ⟨rfl, h⟩
theorem rep_tst {b : Bool} {u : Value} (h : Rep w X φ (.tst b) u) : u = .bool b := by
  cases h with
  | fr _ _ h => cases h with
    | tst _ => rfl
theorem rep_agg {cs : List AV} {u : Value} (h : Rep w X φ (.agg cs) u) : ∃ vs : List Value, u = .agg vs.toArray ∧ cs.length = vs.length ∧ ∀ (i : Nat) (c : AV) (v : Value), cs[i]? = some c → vs[i]? = some v → Rep w X φ c v := by
  cases h with
  | fr _ _ h => cases h with
    | agg _ vs hl h => exact ⟨vs, rfl, hl, fun i c v h1 h2 => .fr _ _ (h i c v h1 h2)⟩
  | agg _ vs hl h => exact ⟨vs, rfl, hl, h⟩
theorem rep_tup {cs : List AV} {u : Value} (h : Rep w X φ (.tup cs) u) : ∃ vs : List Value, u = .tuple vs.toArray ∧ cs.length = vs.length ∧ ∀ (i : Nat) (c : AV) (v : Value), cs[i]? = some c → vs[i]? = some v → Rep w X φ c v := by
  cases h with
  | fr _ _ h => cases h with
    | tup _ vs hl h => exact ⟨vs, rfl, hl, fun i c v h1 h2 => .fr _ _ (h i c v h1 h2)⟩
  | tup _ vs hl h => exact ⟨vs, rfl, hl, h⟩
theorem rep_fro {sz n : Nat} {f : Nat → Nat → AV} {u : Value} (h : Rep w X φ (.fro sz n f) u) : Fr w X (.fro sz n f) u := by
  cases h with
  | fr _ _ h => exact h
theorem rep_fpt {k : Nat} {f : Nat → AV} {u : Value} (h : Rep w X φ (.fpt k f) u) : ∃ (a : Addr) (g : Nat → Value), u = .pointer (some a) ∧ a.spot = none ∧ ¬ X a.block ∧ a.block < w.heap.size ∧
    (∀ c, c < k → w.cell? ⟨a.block, a.off + c, none⟩ = some (g c)) ∧ ∀ c, c < k → Fr w X (f c) (g c) := by
  cases h with
  | fr _ _ h => cases h with
    | fpt _ _ a g hs hx hlt hr h => exact ⟨a, g, rfl, hs, hx, hlt, hr, h⟩
theorem rep_ptr {x : Name} {o : Nat} {u : Value} (h : Rep w X φ (.ptr x o) u) : ∃ b, φ x 0 = some (some b) ∧ u = .pointer (some ⟨b, o, none⟩) := by
  cases h with
  | fr _ _ h => cases h
  | ptr _ _ b hb => exact ⟨b, hb, rfl⟩
theorem rep_elt {x : Name} {sz j c : Nat} {u : Value} (h : Rep w X φ (.elt x sz j c) u) : ∃ b, φ x 0 = some (some b) ∧ u = .pointer (some ⟨b, j * sz + c, none⟩) := by
  cases h with
  | fr _ _ h => cases h
  | elt _ _ _ _ b hb => exact ⟨b, hb, rfl⟩
theorem rep_relt {x : Name} {j c : Nat} {u : Value} (h : Rep w X φ (.relt x j c) u) : ∃ b, φ x (j + 1) = some (some b) ∧ u = .pointer (some ⟨b, c, none⟩) := by
  cases h with
  | fr _ _ h => cases h
  | relt _ _ _ b hb => exact ⟨b, hb, rfl⟩
theorem rep_mp {x : Name} {u : Value} (h : Rep w X φ (.mp x) u) : ∃ b, φ x 0 = some (some b) ∧ u = .map (some b) := by
  cases h with
  | fr _ _ h => cases h
  | mp _ b hb => exact ⟨b, hb, rfl⟩
theorem rep_own {x : Name} {sz off len : Nat} {u : Value} (h : Rep w X φ (.own x sz off len) u) :
    (∃ cap b cs e z, φ x 0 = some (some b) ∧ w.heap[b]? = some (.cells cs e z) ∧ len ≤ cap ∧ (off + cap) * sz ≤ cs.size ∧ u = .slice (some ⟨b, off * sz, none⟩) len cap) ∨ (φ x 0 = some none ∧ off = 0 ∧ len = 0 ∧ u = .slice none 0 0) := by
  cases h with
  | fr _ _ h => cases h
  | own _ _ _ _ cap b cs e z hb hh hc hz => exact .inl ⟨cap, b, cs, e, z, hb, hh, hc, hz, rfl⟩
  | ownNil _ _ hb => exact .inr ⟨hb, rfl, rfl, rfl⟩
theorem rep_row {x : Name} {j len : Nat} {u : Value} (h : Rep w X φ (.row x j len) u) :
    (∃ cap b cs e z, φ x (j + 1) = some (some b) ∧ w.heap[b]? = some (.cells cs e z) ∧ len ≤ cap ∧ cap ≤ cs.size ∧ u = .slice (some ⟨b, 0, none⟩) len cap) ∨ (φ x (j + 1) = some none ∧ len = 0 ∧ u = .slice none 0 0) := by
  cases h with
  | fr _ _ h => cases h
  | row _ _ _ cap b cs e z hb hh hc hz => exact .inl ⟨cap, b, cs, e, z, hb, hh, hc, hz, rfl⟩
  | rowNil _ _ hb => exact .inr ⟨hb, rfl, rfl⟩
theorem rep_fn {f : Fn} {p q : List AV} {u : Value} (h : Rep w X φ (.fn f p q) u) : ∃ vs us : List Value, u = .func f vs.toArray us.toArray ∧ p.length = vs.length ∧ q.length = us.length ∧
    (∀ (i : Nat) (c : AV) (v : Value), p[i]? = some c → vs[i]? = some v → Rep w X φ c v) ∧ ∀ (i : Nat) (c : AV) (v : Value), q[i]? = some c → us[i]? = some v → Rep w X φ c v := by
  cases h with
  | fr _ _ h => cases h with
    | fn _ _ _ vs us hl hl' h h' => exact ⟨vs, us, rfl, hl, hl', fun i c v h1 h2 => .fr _ _ (h i c v h1 h2), fun i c v h1 h2 => .fr _ _ (h' i c v h1 h2)⟩
  | fn _ _ _ vs us hl hl' h h' => exact ⟨vs, us, rfl, hl, hl', h, h'⟩
/-- one cell: one cell's value -/
theorem rep_one {c : AV} {v : Value} (h : Rep w X φ c v) (ho : c.one = true) : v.oneCell' = true := by
  cases h with
  | fr _ _ h => cases h <;> first | assumption | rfl | cases ho
  | agg => cases ho
  | tup => cases ho
  | _ => rfl
theorem rep_nrm {c : AV} {v : Value} (h : Rep w X φ c v) : Rep w X φ c.nrm v := by
  unfold AV.nrm
  split
  · obtain ⟨rfl, _⟩ := rep_raw h
    exact .fr _ _ (.tst _)
  · exact h
theorem rep_asBool {c : AV} {b : Bool} {v : Value} (h : Rep w X φ c v) (hb : asBool c = some b) : v = .bool b := by
  unfold asBool at hb
  split at hb
  · injection hb with hb; subst hb; exact rep_tst h
  · injection hb with hb; subst hb; exact (rep_raw h).1
  · cases hb
theorem rep_i64 {c : AV} {n : Int} {v : Value} (h : Rep w X φ c v) (hb : i64? c = some n) : v = .int .i64 n := by
  unfold i64? at hb
  split at hb
  · injection hb with hb; subst hb; exact (rep_raw h).1
  · cases hb
/-- a value's cells -/
theorem rep_cells {c : AV} {v : Value} (h : Rep w X φ c v) (ho : c.cells.all AV.one = true) : c.cells.length = v.cells.size ∧ ∀ (i : Nat) (d : AV) (u : Value), c.cells[i]? = some d → v.cells[i]? = some u → Rep w X φ d u ∧ u.oneCell' = true := by
  have key : ∀ {c : AV} {v : Value}, Rep w X φ c v → c.one = true → v.cells = #[v] := by
    intro c v h ho
    have := rep_one h ho
    cases v <;> first | rfl | cases this
  unfold AV.cells at ho ⊢
  split
  · rename_i cs
    obtain ⟨vs, rfl, hl, hh⟩ := rep_agg h
    refine ⟨by simp [Value.cells, hl], fun i d u h1 h2 => ?_⟩
    have hd : Rep w X φ d u := hh i d u h1 (by simpa [Value.cells] using h2)
    exact ⟨hd, rep_one hd (by simp only [List.all_eq_true] at ho; exact ho d (List.mem_of_getElem? h1))⟩
  · rename_i hna
    simp only [List.all_cons, List.all_nil, Bool.and_true] at ho
    rw [key h ho]
    refine ⟨rfl, fun i d u h1 h2 => ?_⟩
    cases i with
    | zero => simp at h1 h2; subst h1; subst h2; exact ⟨h, rep_one h ho⟩
    | succ i => simp at h1
end inv
section
variable {P : Program} {N : Nat} {B : Nat → Prop} {fr : Name → Prop} {φ : Loc} {s : AS} {a : Act} {w : World}
theorem RelAt.opd (R : RelAt N B fr φ s a w) {x : Operand} {c : AV} (h : AM.opd s x = some c) : Rep w (Excl B φ) φ c (a.eval x) := by
  cases x with
  | tmp t => exact (R.env t c h).2
  | const v =>
    simp only [AM.opd] at h
    split at h
    · rename_i hv; injection h with h; subst h; exact .fr _ _ (.raw _ hv)
    · cases h
  | func f =>
    simp only [AM.opd] at h
    injection h with h
    subst h
    exact .fr _ _ (.fn _ [] [] [] [] rfl rfl (fun i c v h1 => by cases h1) fun i c v h1 => by cases h1)
  | global g => cases h
theorem RelAt.opds (R : RelAt N B fr φ s a w) : ∀ {xs : List Operand} {cs : List AV}, AM.opds s xs = some cs → cs.length = xs.length ∧ ∀ (i : Nat) (c : AV) (v : Value), cs[i]? = some c → (xs.map a.eval)[i]? = some v → Rep w (Excl B φ) φ c v
  | [], cs, h => by simp only [AM.opds] at h; injection h with h; subst h; exact ⟨rfl, fun i c v h1 => by cases h1⟩
  | x :: r, cs, h => by
    simp only [AM.opds, Option.bind_eq_bind, Option.bind_eq_some_iff] at h
    obtain ⟨c, hc, d, hd, he⟩ := h
    injection he with he
    subst he
    obtain ⟨h1, h2⟩ := RelAt.opds R hd
    refine ⟨by simp [h1], fun i e v h3 h4 => ?_⟩
    cases i with
    | zero => simp at h3 h4; subst h3; subst h4; exact R.opd hc
    | succ i => exact h2 i e v (by simpa using h3) (by simpa using h4)
theorem RelAt.less (R : RelAt N B fr φ s a w) {fr' : Name → Prop} (h : ∀ x, fr' x → fr x) : RelAt N B fr' φ s a w :=
  { R with free := fun x hx => R.free x (h x hx) }
/-- a slot is written -/
theorem RelAt.put {env : List (Nat × AV)} {st : List (Name × Blk)} {nx : Nat} (R : RelAt N B fr φ ⟨env, st, nx⟩ a w) {d : Nat} (hd : d < N) {c : AV} {v : Value} (h : Rep w (Excl B φ) φ c v) : RelAt N B fr φ ⟨upd env d c, st, nx⟩ (a.put (some d) v) w :=
  { R with
    size := by simp [Act.put, R.size]
    defers := by simp [Act.put, R.defers]
    env := fun t e he => by
      rcases look_upd _ _ _ _ _ he with ⟨rfl, rfl⟩ | ⟨hne, he⟩
      · refine ⟨hd, ?_⟩
        have : (a.put (some t) v).tmps.getD t undef = v := by
          have hs : t < a.tmps.size := by rw [R.size]; exact hd
          simp [Act.put, Array.getD, hs]
        rw [this]; exact h
      · obtain ⟨h1, h2⟩ := R.env t e he
        refine ⟨h1, ?_⟩
        have : (a.put (some d) v).tmps.getD t undef = a.tmps.getD t undef := by
          simp [Act.put, Array.getD_eq_getD_getElem?, Array.getElem?_setIfInBounds_ne (Ne.symm hne)]
        rw [this]; exact h2 }
theorem RelAt.putDst {env : List (Nat × AV)} {st : List (Name × Blk)} {nx : Nat} (R : RelAt N B fr φ ⟨env, st, nx⟩ a w) {dst : Option Tmp} (hd : ∀ d, dst = some d → d < N) {c : AV} {v : Value} (h : Rep w (Excl B φ) φ c v) :
    RelAt N B fr φ ⟨updO env dst c, st, nx⟩ (a.put dst v) w := by
  cases dst with
  | none => exact R
  | some d => exact R.put (hd d rfl) h
end
theorem addr_add (a : Addr) (h : a.spot = none) (n : Nat) : a.add n = ⟨a.block, a.off + n, none⟩ := by
  unfold Addr.add
  split
  · rename_i h0; subst h0; cases a; simp_all
  · rfl
/-- k cells from an address on -/
def CellsAt (w : World) (X : Nat → Prop) (φ : Loc) (b o k : Nat) (f : Nat → AV) : Prop := ∀ c, c < k → ∃ v, w.cell? ⟨b, o + c, none⟩ = some v ∧ Rep w X φ (f c) v
theorem tAgg_run {P : Program} {t : TypeId} {g : Bool} (h : tAgg P t = some g) (w : World) : (isAgg t).run P w = .ok g w := by
  unfold tAgg at h
  obtain ⟨d, hd, he⟩ := Option.map_eq_some_iff.1 h
  subst he
  unfold isAgg
  simp only [Sem.run_bind, run_underlying hd, Result.andThen_ok]
  cases d <;> rfl
theorem tSize_run {P : Program} {t : TypeId} {k : Nat} (h : tSize P t = some k) (w : World) : (sizeOf t).run P w = .ok k w := by
  unfold tSize at h
  obtain ⟨i, hi, he⟩ := Option.map_eq_some_iff.1 h
  subst he
  simp [sizeOf, typeInfo, hi]
theorem cellsAt_get (f : Nat → AV) : ∀ (k o i : Nat) (c : AV), (cellsAt f o k)[i]? = some c → i < k ∧ c = f (o + i)
  | 0, o, i, c, h => by cases h
  | k + 1, o, i, c, h => by
    cases i with
    | zero => simp [cellsAt] at h; exact ⟨by omega, h.symm⟩
    | succ i =>
      simp [cellsAt] at h
      obtain ⟨h1, h2⟩ := cellsAt_get f k (o + 1) i c h
      exact ⟨by omega, by rw [h2]; congr 1; omega⟩
theorem cellsAt_len (f : Nat → AV) : ∀ (k o : Nat), (cellsAt f o k).length = k
  | 0, o => rfl
  | k + 1, o => by simp [cellsAt, cellsAt_len f k]
theorem load_of_cells {P : Program} {w : World} {X : Nat → Prop} {φ : Loc} {b o k : Nat} {f : Nat → AV} {t : TypeId} {agg : Bool} {c : AV} (hg : tAgg P t = some agg) (hk : tSize P t = some k) (h : CellsAt w X φ b o k f) (hl : loadv agg k f = some c) :
    ∃ v, (∀ w' : World, w'.heap[b]? = w.heap[b]? → (loadVar t ⟨b, o, none⟩).run P w' = .ok v w') ∧ Rep w X φ c v := by
  have hch : ∃ g : Nat → Value, ∀ i, i < k → w.cell? ⟨b, o + i, none⟩ = some (g i) ∧ Rep w X φ (f i) (g i) := by
    refine ⟨fun i => (w.cell? ⟨b, o + i, none⟩).getD undef, fun i hi => ?_⟩
    obtain ⟨v, hv, hr⟩ := h i hi
    have e : (w.cell? ⟨b, o + i, none⟩).getD undef = v := by rw [hv]; rfl
    exact ⟨by show _ = some ((w.cell? ⟨b, o + i, none⟩).getD undef); rw [e]; exact hv, by show Rep w X φ (f i) ((w.cell? ⟨b, o + i, none⟩).getD undef); rw [e]; exact hr⟩
  obtain ⟨g, hg'⟩ := hch
  have hcell : ∀ w' : World, w'.heap[b]? = w.heap[b]? → ∀ i, w'.cell? ⟨b, i, none⟩ = w.cell? ⟨b, i, none⟩ := fun w' h i => by simp only [World.cell?, h]
  unfold loadVar
  simp only [Sem.run_bind, tAgg_run hg, Result.andThen_ok]
  unfold loadv at hl
  cases agg with
  | true =>
    simp only [Option.some.injEq] at hl
    subst hl
    have hlc := fun (w' : World) (hw : w'.heap[b]? = w.heap[b]?) => run_loadCells (P := P) w' ⟨b, o, none⟩ k g (fun j hj => by rw [addr_add _ rfl]; exact (hcell w' hw _).trans (hg' j hj).1)
    refine ⟨.agg ((List.range k).map g).toArray, fun w' hw => ?_, .agg _ _ (by simp [cellsAt_len]) fun i c v h1 h2 => ?_⟩
    · simp only [if_true, Sem.run_bind, tSize_run hk, Result.andThen_ok, hlc w' hw, Sem.run_pure]
    · obtain ⟨h3, rfl⟩ := cellsAt_get f k 0 i c h1
      simp only [List.getElem?_map, List.getElem?_range h3, Option.map_some, Option.some.injEq] at h2
      subst h2
      simpa using (hg' i h3).2
  | false =>
    cases hk1 : Nat.beq k 1 with
    | false => rw [hk1] at hl; cases hl
    | true =>
      rw [hk1] at hl
      have hk1 : k = 1 := Nat.eq_of_beq_eq_true hk1
      subst hk1
      simp only [Option.some.injEq] at hl
      subst hl
      refine ⟨g 0, fun w' hw => ?_, (hg' 0 (by omega)).2⟩
      have := (hg' 0 (by omega)).1
      simp only [Nat.add_zero] at this
      have := (hcell w' hw _).trans this
      simp [this]
section
variable {P : Program} {N : Nat} {B : Nat → Prop} {fr : Name → Prop} {φ : Loc} {s : AS} {a : Act} {w : World}
theorem cell_of_heap {w : World} {b : Nat} {vs : Array Value} {e : TypeId} {z : Nat × Nat} (h : w.heap[b]? = some (.cells vs e z)) (i : Nat) : w.cell? ⟨b, i, none⟩ = vs[i]? := by
  simp [World.cell?, h]
/-- the cells of a variable -/
theorem RelAt.box (R : RelAt N B fr φ s a w) {x : Name} {cs : List AV} (h : look s.st x = some (.box cs)) {b : Nat} (hb : φ x 0 = some (some b)) (o k : Nat) (hk : o + k ≤ cs.length) : CellsAt w (Excl B φ) φ b o k fun i => cs.getD (i + o) .any := by
  obtain ⟨b', vs, e, hb', hh, hs, hr⟩ := R.st x _ h
  rw [hb] at hb'
  injection hb' with hb'
  injection hb' with hb'
  subst hb'
  intro c hc
  have h1 : o + c < vs.size := by omega
  refine ⟨vs[o + c], by rw [cell_of_heap hh]; simp [h1], ?_⟩
  have := hr (c + o) (cs.getD (c + o) .any) (vs[o + c]) (by simp [List.getD_eq_getElem?_getD, show c + o < cs.length by omega]) (by rw [show c + o = o + c from by omega]; simp [h1])
  exact this
theorem RelAt.arr (R : RelAt N B fr φ s a w) {x : Name} {sz n : Nat} {f : Nat → Nat → AV} (h : look s.st x = some (.arr sz n f)) {b : Nat} (hb : φ x 0 = some (some b)) {j : Nat} (hj : j < n) (c k : Nat) (hk : c + k ≤ sz) : CellsAt w (Excl B φ) φ b (j * sz + c) k fun i => f j (i + c) := by
  obtain ⟨h0, h⟩ := R.st x _ h
  rcases h with ⟨b', vs, e, hb', hh, hs, hr⟩ | ⟨hn, _⟩
  · rw [hb] at hb'
    injection hb' with hb'
    injection hb' with hb'
    subst hb'
    intro i hi
    obtain ⟨v, hv, _, hf⟩ := hr j (i + c) hj (by omega)
    exact ⟨v, by rw [cell_of_heap hh, ← hv]; congr 1; omega, .fr _ _ hf⟩
  · rw [hb] at hn; cases hn
theorem sureAddr_run (ad : Addr) (w : World) : (Instr.sureAddr (.pointer (some ad))).run P w = .ok ad w := rfl
theorem ex_load {o : Oper} {t : TypeId} {x : Operand} (ho : o.op = .load t x) {ad : Addr} {v : Value} (hx : a.eval x = .pointer (some ad)) (hl : (loadVar t ad).run P w = .ok v w) : (execOp a.eval o).run P w = .ok (.value v) w := by
  simp [execOp, ho, Instr.loadAt, hx, sureAddr_run, hl]
/-- A load. -/
theorem sound_load {o : Oper} {t : TypeId} {x : Operand} (ho : o.op = .load t x) {agg : Bool} {k : Nat} (hg : tAgg P t = some agg) (hk : tSize P t = some k) {nm : Name} {pre : Option Prop} {c : AV} {new : Option Blk} (hy : yv s nm (.load agg k x) = some (pre, c, new)) (hp : ∀ p, pre = some p → p) (R : RelAt N B fr φ s a w) :
    new = none ∧ ∃ v b, (∀ w' : World, w'.heap[b]? = w.heap[b]? → (execOp a.eval o).run P w' = .ok (.value v) w') ∧ Rep w (Excl B φ) φ c v ∧
      ((∃ m f, opd s x = some (.fpt m f) ∧ ¬ Excl B φ b ∧ b < w.heap.size) ∨ (∃ y o, opd s x = some (.ptr y o) ∧ φ y 0 = some (some b)) ∨ (∃ y sz j i, opd s x = some (.elt y sz j i) ∧ φ y 0 = some (some b)) ∨ ∃ y j i, opd s x = some (.relt y j i) ∧ φ y (j + 1) = some (some b)) := by
  simp only [yv] at hy
  split at hy
  · -- fpt
    rename_i m f hx
    split at hy
    · rename_i hkm
      split at hy
      · rename_i c' hl
        injection hy with hy; injection hy with h1 h2; injection h2 with h2 h3
        subst h1; subst h2
        refine ⟨h3.symm, ?_⟩
        obtain ⟨ad, g, hv, hs, hxx, hlt, hr, hf⟩ := rep_fpt (R.opd hx)
        have hkm' : k ≤ m := Nat.le_of_ble_eq_true hkm
        obtain ⟨v, h4, h5⟩ := load_of_cells (w := w) (X := Excl B φ) (φ := φ) (b := ad.block) (o := ad.off) hg hk (fun i hi => ⟨g i, hr i (by omega), .fr _ _ (hf i (by omega))⟩) hl
        have he : ad = ⟨ad.block, ad.off, none⟩ := by cases ad; simp_all
        exact ⟨v, ad.block, fun w' hw => ex_load ho hv (by rw [he]; exact h4 w' hw), h5, .inl ⟨m, f, hx, hxx, hlt⟩⟩
      · cases hy
    · cases hy
  · -- ptr
    rename_i y off hx
    split at hy
    · rename_i cs hs
      split at hy
      · rename_i hkm
        split at hy
        · rename_i c' hl
          injection hy with hy; injection hy with h1 h2; injection h2 with h2 h3
          subst h1; subst h2
          refine ⟨h3.symm, ?_⟩
          obtain ⟨b, hb, hv⟩ := rep_ptr (R.opd hx)
          obtain ⟨v, h4, h5⟩ := load_of_cells hg hk (R.box hs hb off k (Nat.le_of_ble_eq_true hkm)) hl
          exact ⟨v, b, fun w' hw => ex_load ho hv (h4 w' hw), h5, .inr (.inl ⟨y, off, hx, hb⟩)⟩
        · cases hy
      · cases hy
    · cases hy
  · -- elt
    rename_i y sz j i hx
    split at hy
    · rename_i sz' n f hs
      split at hy
      · rename_i hc
        split at hy
        · rename_i c' hl
          injection hy with hy; injection hy with h1 h2; injection h2 with h2 h3
          subst h1; subst h2
          refine ⟨h3.symm, ?_⟩
          simp only [Bool.and_eq_true] at hc
          have hsz : sz = sz' := Nat.eq_of_beq_eq_true hc.1
          subst hsz
          have hj : j < n := hp _ rfl
          obtain ⟨b, hb, hv⟩ := rep_elt (R.opd hx)
          obtain ⟨v, h4, h5⟩ := load_of_cells hg hk (R.arr hs hb hj i k (Nat.le_of_ble_eq_true hc.2)) hl
          exact ⟨v, b, fun w' hw => ex_load ho hv (h4 w' hw), h5, .inr (.inr (.inl ⟨y, _, j, _, hx, hb⟩))⟩
        · cases hy
      · cases hy
    · rename_i n len f hs
      split at hy
      · injection hy with hy; injection hy with h1 h2; injection h2 with h2 h3
        subst h1; subst h2
        refine ⟨h3.symm, ?_⟩
        have hj : j < n := hp _ rfl
        obtain ⟨b, hb, hv⟩ := rep_elt (R.opd hx)
        obtain ⟨h, _⟩ := R.st y _ hs
        rcases h with ⟨b', vs, e, hb', hh, hs', hr⟩ | ⟨hn, _⟩
        · rw [hb] at hb'; injection hb' with hb'; injection hb' with hb'; subst hb'
          obtain ⟨v, hv', hr'⟩ := hr j hj
          refine ⟨v, b, fun w' hw => ex_load ho hv ?_, hr', .inr (.inr (.inl ⟨y, _, j, _, hx, hb⟩))⟩
          unfold loadVar
          simp [tAgg_run hg, World.cell?, hw, hh, hv']
        · rw [hb] at hn; cases hn
      · cases hy
    · cases hy
  · -- relt
    rename_i y j i hx
    split at hy
    · rename_i n len f hs
      split at hy
      · injection hy with hy; injection hy with h1 h2; injection h2 with h2 h3
        subst h1; subst h2
        refine ⟨h3.symm, ?_⟩
        obtain ⟨hj, hi⟩ := hp _ rfl
        obtain ⟨b, hb, hv⟩ := rep_relt (R.opd hx)
        obtain ⟨_, h⟩ := R.st y _ hs
        rcases h j hj with ⟨b', vs, e, hb', hh, hs', hr⟩ | ⟨hn, _⟩
        · rw [hb] at hb'; injection hb' with hb'; injection hb' with hb'; subst hb'
          obtain ⟨v, hv', _, hr'⟩ := hr i hi
          refine ⟨v, b, fun w' hw => ex_load ho hv ?_, .fr _ _ hr', .inr (.inr (.inr ⟨y, j, i, hx, hb⟩))⟩
          unfold loadVar
          simp [tAgg_run hg, World.cell?, hw, hh, hv']
        · rw [hb] at hn; cases hn
      · cases hy
    · cases hy
  · cases hy
end
section
variable {P : Program} {N : Nat} {B : Nat → Prop} {fr : Name → Prop} {φ : Loc} {s : AS} {a : Act} {w : World}
theorem intv_run {op : BinOp} {k : IntKind} {x y : Int} {p : Option Prop} {c : AV} (h : intv op k x y = some (p, c)) (hp : ∀ q, p = some q → q) (hs : ¬ (op = .shl ∨ op = .shr)) (t : TypeId) (w : World) (X : Nat → Prop) (φ : Loc) :
    ∃ v, (∀ w', (binOp op t (.int k x) (.int k y)).run P w' = .ok v w') ∧ Rep w X φ c v := by
  cases op <;> simp only [intv] at h <;> first
    | (cases h; done)
    | (injection h with h; injection h with h1 h2; subst h1; subst h2
       first
         | (refine ⟨_, fun w' => ?_, .fr _ _ (.raw _ rfl)⟩; simp [binOp, Op.intArith, Op.intBits, Op.intCmp]; done)
         | (refine ⟨_, fun w' => ?_, .fr _ _ (.tst _)⟩; simp [binOp, Op.intArith, Op.intBits, Op.intCmp]; done)
         | (have h0 : ¬ y = 0 := hp _ rfl
            refine ⟨_, fun w' => ?_, .fr _ _ (.raw _ rfl)⟩
            simp [binOp, Op.intDiv, h0]))
theorem shv_run {op : BinOp} {k k' : IntKind} {x y : Int} {p : Option Prop} {c : AV} (h : shv op k x y = some (p, c)) (hp : ∀ q, p = some q → q) (t : TypeId) (w : World) (X : Nat → Prop) (φ : Loc) :
    ∃ v, (∀ w', (binOp op t (.int k x) (.int k' y)).run P w' = .ok v w') ∧ Rep w X φ c v := by
  cases op <;> simp only [shv] at h <;> first
    | (cases h; done)
    | (injection h with h; injection h with h1 h2; subst h1; subst h2
       have h0 : ¬ y < 0 := by have := hp _ rfl; omega
       exact ⟨_, fun w' => by simp [binOp, Op.shift, h0], .fr _ _ (.raw _ rfl)⟩)
theorem strv_run {op : BinOp} {x y : ByteArray} {p : Option Prop} {c : AV} (h : strv op x y = some (p, c)) (hp : ∀ q, p = some q → q) (t : TypeId) (w : World) (X : Nat → Prop) (φ : Loc) :
    ∃ v, (∀ w', (binOp op t (.string x) (.string y)).run P w' = .ok v w') ∧ Rep w X φ c v := by
  cases op <;> simp only [strv] at h <;> first
    | (cases h; done)
    | (injection h with h; injection h with h1 h2; subst h1; subst h2
       first
         | (refine ⟨_, fun w' => ?_, .fr _ _ (.tst _)⟩; simp [binOp, Op.stringOp]; done)
         | (have h0 := hp _ rfl
            refine ⟨.string (x ++ y), fun w' => ?_, .fr _ _ (.raw _ rfl)⟩
            have h1 : ¬ ((IntKind.i64.max : Int) < (x.size : Int) + (y.size : Int)) := by
              have : (IntKind.i64.max : Int) = 9223372036854775807 := by decide
              omega
            have h2 : (x.size : Int) + (y.size : Int) ≤ IntKind.i64.max := by omega
            simp only [binOp, Op.stringOp]
            rw [if_neg (by simpa using h2)]
            rfl))
theorem eqNil_run {op : BinOp} {isNil : Bool} {p : Option Prop} {c : AV} {t : TypeId} {x y : Value} (h : eqNil op isNil = some (p, c)) (w : World) (X : Nat → Prop) (φ : Loc)
    (hx : ∀ op', op' = BinOp.eql ∨ op' = BinOp.neq → ∀ w, (binOp op' t x y).run P w = .ok (.bool (if op' = BinOp.eql then isNil else !isNil)) w) : ∃ v, (∀ w', (binOp op t x y).run P w' = .ok v w') ∧ Rep w X φ c v := by
  cases op <;> simp only [eqNil] at h <;> first
    | (cases h; done)
    | (injection h with h; injection h with h1 h2; subst h1; subst h2
       exact ⟨_, hx _ (by simp), .fr _ _ (.raw _ rfl)⟩)
theorem eqIn_ptr_nil {t e : TypeId} (ht : P.underlying t = some (.pointer e)) (d : Nat) (ad : Option Addr) (w : World) : (Op.equalIn (d + 1) t (.pointer ad) (.pointer none)).run P w = .ok ad.isNone w ∧ (Op.equalIn (d + 1) t (.pointer none) (.pointer ad)).run P w = .ok ad.isNone w := by
  cases ad <;> simp [Op.equalIn, run_underlying ht]
theorem equal_ptr_nil {t e : TypeId} (ht : P.underlying t = some (.pointer e)) (ad : Option Addr) (w : World) : (Op.equal t (.pointer ad) (.pointer none)).run P w = .ok ad.isNone w ∧ (Op.equal t (.pointer none) (.pointer ad)).run P w = .ok ad.isNone w :=
  eqIn_ptr_nil ht 9999 ad w
theorem bin_ptr_nil {t e : TypeId} (ht : P.underlying t = some (.pointer e)) (ad : Option Addr) (w : World) (op : BinOp) (ho : op = .eql ∨ op = .neq) :
    (binOp op t (.pointer ad) (.pointer none)).run P w = .ok (.bool (if op = BinOp.eql then ad.isNone else !ad.isNone)) w ∧ (binOp op t (.pointer none) (.pointer ad)).run P w = .ok (.bool (if op = BinOp.eql then ad.isNone else !ad.isNone)) w := by
  obtain ⟨h1, h2⟩ := equal_ptr_nil ht ad w
  rcases ho with rfl | rfl <;> simp [binOp, h1, h2]
theorem eqIn_slice_nil {t e : TypeId} (ht : P.underlying t = some (.slice e)) (d : Nat) (w : World) : (Op.equalIn (d + 1) t (.slice none 0 0) (.slice none 0 0)).run P w = .ok true w := by
  simp [Op.equalIn, run_underlying ht]
theorem equal_slice_nil {t e : TypeId} (ht : P.underlying t = some (.slice e)) (w : World) : (Op.equal t (.slice none 0 0) (.slice none 0 0)).run P w = .ok true w := eqIn_slice_nil ht 9999 w
theorem bin_slice_nil {t e : TypeId} (ht : P.underlying t = some (.slice e)) (w : World) (op : BinOp) (ho : op = .eql ∨ op = .neq) :
    (binOp op t (.slice none 0 0) (.slice none 0 0)).run P w = .ok (.bool (if op = BinOp.eql then true else !true)) w := by
  have h := equal_slice_nil ht w
  rcases ho with rfl | rfl <;> simp [binOp, h]
theorem eqIn_bool {t : TypeId} (ht : P.underlying t = some .bool) (d : Nat) (w : World) (x y : Bool) : (Op.equalIn (d + 1) t (.bool x) (.bool y)).run P w = .ok (x == y) w := by
  simp [Op.equalIn, run_underlying ht]
theorem equal_bool {t : TypeId} (ht : P.underlying t = some .bool) (w : World) (x y : Bool) : (Op.equal t (.bool x) (.bool y)).run P w = .ok (x == y) w := eqIn_bool ht 9999 w x y
theorem bin_bool {t : TypeId} (ht : P.underlying t = some .bool) (w : World) (x y : Bool) :
    (binOp .eql t (.bool x) (.bool y)).run P w = .ok (.bool (x == y)) w ∧ (binOp .neq t (.bool x) (.bool y)).run P w = .ok (.bool (!(x == y))) w := by
  have h := equal_bool ht w x y
  constructor <;> simp [binOp, h]
/-- Two values of a type that may be compared. -/
theorem sound_binv {kd : Nat} {op : BinOp} {x y : AV} {u v : Value} {p : Option Prop} {c : AV} {t : TypeId} {X : Nat → Prop} (h : binv kd op x y = some (p, c)) (hp : ∀ q, p = some q → q) (hx : Rep w X φ x u) (hy : Rep w X φ y v)
    (ht : (kd = 1 → P.underlying t = some .bool) ∧ (kd = 2 → ∃ e, P.underlying t = some (.pointer e)) ∧ (kd = 3 → ∃ e, P.underlying t = some (.slice e))) :
    ∃ r, (∀ w', (binOp op t u v).run P w' = .ok r w') ∧ Rep w X φ c r := by
  obtain ⟨hb, hq, hsl⟩ := ht
  unfold binv at h
  split at h
  · obtain ⟨rfl, _⟩ := rep_raw hx
    obtain ⟨rfl, _⟩ := rep_raw hy
    split at h
    · exact shv_run h hp t w X φ
    · rename_i hs
      split at h
      · rename_i hk; subst hk; exact intv_run h hp hs t w X φ
      · cases h
  · obtain ⟨rfl, _⟩ := rep_raw hx
    obtain ⟨rfl, _⟩ := rep_raw hy
    exact strv_run h hp t w X φ
  all_goals first
    | (have hu := rep_asBool hx rfl
       have hv := rep_asBool hy rfl
       subst hu; subst hv
       split at h <;> first
         | (cases h; done)
         | (injection h with h; injection h with h1 h2; subst h2
            have hbb := fun w' => bin_bool (hb rfl) w'
            first
              | exact ⟨_, fun w' => (hbb w' _ _).1, .fr _ _ (.tst _)⟩
              | exact ⟨_, fun w' => (hbb w' _ _).2, .fr _ _ (.tst _)⟩))
    | skip
  · obtain ⟨rfl, _⟩ := rep_raw hx
    obtain ⟨rfl, _⟩ := rep_raw hy
    split at h
    · obtain ⟨e, he⟩ := hq rfl
      exact eqNil_run h w X φ fun op' ho w' => (bin_ptr_nil he none w' op' ho).1
    · cases h
  · obtain ⟨b, _, rfl⟩ := rep_ptr hx
    obtain ⟨rfl, _⟩ := rep_raw hy
    split at h
    · obtain ⟨e, he⟩ := hq rfl
      exact eqNil_run h w X φ fun op' ho w' => (bin_ptr_nil he (some _) w' op' ho).1
    · cases h
  · obtain ⟨b, _, rfl⟩ := rep_elt hx
    obtain ⟨rfl, _⟩ := rep_raw hy
    split at h
    · obtain ⟨e, he⟩ := hq rfl
      exact eqNil_run h w X φ fun op' ho w' => (bin_ptr_nil he (some _) w' op' ho).1
    · cases h
  · obtain ⟨b, _, rfl, _⟩ := rep_fpt hx
    obtain ⟨rfl, _⟩ := rep_raw hy
    split at h
    · obtain ⟨e, he⟩ := hq rfl
      exact eqNil_run h w X φ fun op' ho w' => (bin_ptr_nil he (some _) w' op' ho).1
    · cases h
  · obtain ⟨b, _, rfl⟩ := rep_ptr hy
    obtain ⟨rfl, _⟩ := rep_raw hx
    split at h
    · obtain ⟨e, he⟩ := hq rfl
      exact eqNil_run h w X φ fun op' ho w' => (bin_ptr_nil he (some _) w' op' ho).2
    · cases h
  · obtain ⟨b, _, rfl⟩ := rep_elt hy
    obtain ⟨rfl, _⟩ := rep_raw hx
    split at h
    · obtain ⟨e, he⟩ := hq rfl
      exact eqNil_run h w X φ fun op' ho w' => (bin_ptr_nil he (some _) w' op' ho).2
    · cases h
  · obtain ⟨b, _, rfl, _⟩ := rep_fpt hy
    obtain ⟨rfl, _⟩ := rep_raw hx
    split at h
    · obtain ⟨e, he⟩ := hq rfl
      exact eqNil_run h w X φ fun op' ho w' => (bin_ptr_nil he (some _) w' op' ho).2
    · cases h
  · obtain ⟨rfl, _⟩ := rep_raw hx
    obtain ⟨rfl, _⟩ := rep_raw hy
    split at h
    · obtain ⟨e, he⟩ := hsl rfl
      exact eqNil_run h w X φ fun op' ho w' => bin_slice_nil he w' op' ho
    · cases h
  · cases h
theorem sound_unv {op : UnOp} {x c : AV} {u : Value} {X : Nat → Prop} (h : unv op x = some c) (hx : Rep w X φ x u) : ∃ r, (∀ w', (Op.unary op u).run P w' = .ok r w') ∧ Rep w X φ c r := by
  unfold unv at h
  split at h
  · obtain rfl := rep_tst hx
    split at h
    · injection h with h; subst h; exact ⟨_, fun w' => by simp [Op.unary], .fr _ _ (.tst _)⟩
    · cases h
  · obtain ⟨rfl, _⟩ := rep_raw hx
    split at h
    · injection h with h; subst h; exact ⟨_, fun w' => by simp [Op.unary], .fr _ _ (.raw _ rfl)⟩
    · cases h
  · obtain ⟨rfl, _⟩ := rep_raw hx
    split at h
    · injection h with h; subst h; exact ⟨_, fun w' => by simp [Op.unary, Op.intArith], .fr _ _ (.raw _ rfl)⟩
    · injection h with h; subst h; exact ⟨_, fun w' => by simp [Op.unary, Op.intBits], .fr _ _ (.raw _ rfl)⟩
    · cases h
  · cases h
end
theorem rep_names {w : World} {X : Nat → Prop} {φ : Loc} {c : AV} {v : Value} (h : Rep w X φ c v) : ∀ x ∈ c.names, ∃ i, φ x i ≠ none := by
  have lists : ∀ {cs : List AV} {vs : List Value}, cs.length = vs.length → (∀ (i : Nat) (c : AV) (v : Value), cs[i]? = some c → vs[i]? = some v → ∀ x ∈ c.names, ∃ i, φ x i ≠ none) → ∀ x ∈ namesL cs, ∃ i, φ x i ≠ none := by
    intro cs
    induction cs with
    | nil => intro vs _ _ x hx; cases hx
    | cons d r ih =>
      intro vs hl h x hx
      cases vs with
      | nil => cases hl
      | cons u us =>
        simp only [namesL, List.mem_append] at hx
        rcases hx with hx | hx
        · exact h 0 d u rfl rfl x hx
        · exact ih (by simpa using hl) (fun i c v h1 h2 => h (i + 1) c v (by simpa using h1) (by simpa using h2)) x hx
  have frz : ∀ {c : AV} {v : Value}, Fr w X c v → ∀ x ∈ c.names, ∃ i, φ x i ≠ none := by
    intro c v h
    induction h with
    | agg cs vs hl h ih => exact lists hl ih
    | tup cs vs hl h ih => exact lists hl ih
    | fn f first cap vs us hl hl' h h' ih ih' =>
      intro x hx
      simp only [AV.names, List.mem_append] at hx
      rcases hx with hx | hx
      · exact lists hl ih x hx
      · exact lists hl' ih' x hx
    | _ => intro x hx; cases hx
  induction h with
  | fr c v h => exact frz h
  | agg cs vs hl h ih => exact lists hl ih
  | tup cs vs hl h ih => exact lists hl ih
  | fn f first cap vs us hl hl' h h' ih ih' =>
    intro x hx
    simp only [AV.names, List.mem_append] at hx
    rcases hx with hx | hx
    · exact lists hl ih x hx
    · exact lists hl' ih' x hx
  | own x sz off len cap b cs e z hb => intro y hy; simp only [AV.names, List.mem_singleton] at hy; subst hy; exact ⟨0, by simp [hb]⟩
  | ownNil x sz hb => intro y hy; simp only [AV.names, List.mem_singleton] at hy; subst hy; exact ⟨0, by simp [hb]⟩
  | ptr x o b hb => intro y hy; simp only [AV.names, List.mem_singleton] at hy; subst hy; exact ⟨0, by simp [hb]⟩
  | elt x sz j c b hb => intro y hy; simp only [AV.names, List.mem_singleton] at hy; subst hy; exact ⟨0, by simp [hb]⟩
  | row x j len cap b cs e z hb => intro y hy; simp only [AV.names, List.mem_singleton] at hy; subst hy; exact ⟨_, by rw [hb]; simp⟩
  | rowNil x j hb => intro y hy; simp only [AV.names, List.mem_singleton] at hy; subst hy; exact ⟨_, by rw [hb]; simp⟩
  | relt x j c b hb => intro y hy; simp only [AV.names, List.mem_singleton] at hy; subst hy; exact ⟨_, by rw [hb]; simp⟩
  | mp x b hb => intro y hy; simp only [AV.names, List.mem_singleton] at hy; subst hy; exact ⟨0, by simp [hb]⟩
/-- What a step has to keep, for all that is said to stand. -/
structure Keeps (w : World) (X : Nat → Prop) (φ : Loc) (w' : World) (X' : Nat → Prop) (φ' : Loc) : Prop where
  block : ∀ b, b < w.heap.size → ¬ X b → w'.heap[b]? = w.heap[b]?
  size : w.heap.size ≤ w'.heap.size
  excl : ∀ b, X' b → X b ∨ w.heap.size ≤ b
theorem Keeps.rep {w w' : World} {X X' : Nat → Prop} {φ φ' : Loc} (k : Keeps w X φ w' X' φ') {c : AV} {v : Value} (hn : ∀ x ∈ c.names, φ' x = φ x ∧ ∀ i b cs e z, φ x i = some (some b) → w.heap[b]? = some (.cells cs e z) → ∃ cs' e' z', w'.heap[b]? = some (.cells cs' e' z') ∧ cs.size ≤ cs'.size) (h : Rep w X φ c v) : Rep w' X' φ' c v :=
  h.mono k.block k.size k.excl hn
theorem Keeps.fr {w w' : World} {X X' : Nat → Prop} {φ φ' : Loc} (k : Keeps w X φ w' X' φ') {c : AV} {v : Value} (h : Fr w X c v) : Fr w' X' c v := h.mono k.block k.size k.excl
/-- the names in a block -/
def Blk.names : Blk → List Name
  | .box cs => namesL cs
  | .pin x _ => [x]
  | _ => []
theorem Keeps.blk {w w' : World} {X X' : Nat → Prop} {φ φ' : Loc} (k : Keeps w X φ w' X' φ') {x : Name} {bl : Blk}
    (hx : φ' x = φ x ∧ ∀ i b, φ x i = some (some b) → w'.heap[b]? = w.heap[b]?)
    (hn : ∀ y ∈ bl.names, φ' y = φ y ∧ ∀ i b cs e z, φ y i = some (some b) → w.heap[b]? = some (.cells cs e z) → ∃ cs' e' z', w'.heap[b]? = some (.cells cs' e' z') ∧ cs.size ≤ cs'.size) (h : BlkAt w X φ x bl) : BlkAt w' X' φ' x bl := by
  have hx' : φ' x = φ x ∧ ∀ i b cs e z, φ x i = some (some b) → w.heap[b]? = some (.cells cs e z) → ∃ cs' e' z', w'.heap[b]? = some (.cells cs' e' z') ∧ cs.size ≤ cs'.size :=
    ⟨hx.1, fun i b cs e z h3 h4 => ⟨cs, e, z, (hx.2 i b h3).trans h4, Nat.le_refl _⟩⟩
  cases bl with
  | box cs =>
    obtain ⟨b, vs, e, hb, hh, hs, hr⟩ := h
    refine ⟨b, vs, e, by rw [hx.1]; exact hb, (hx.2 0 b hb).trans hh, hs, fun i c v h1 h2 => k.rep (fun y hy => ?_) (hr i c v h1 h2)⟩
    exact hn y (mem_namesL h1 hy)
  | arr sz n f =>
    obtain ⟨h0, h⟩ := h
    refine ⟨h0, ?_⟩
    rcases h with ⟨b, vs, e, hb, hh, hs, hr⟩ | ⟨hb, h1⟩
    · refine .inl ⟨b, vs, e, by rw [hx.1]; exact hb, (hx.2 0 b hb).trans hh, hs, fun j c h1 h2 => ?_⟩
      obtain ⟨v, hv, ho, hf⟩ := hr j c h1 h2
      exact ⟨v, hv, ho, k.fr hf⟩
    · exact .inr ⟨by rw [hx.1]; exact hb, h1⟩
  | mat n len f =>
    obtain ⟨h, h'⟩ := h
    refine ⟨?_, fun j hj => ?_⟩
    · rcases h with ⟨b, vs, e, hb, hh, hs, hr⟩ | ⟨hb, h1⟩
      · refine .inl ⟨b, vs, e, by rw [hx.1]; exact hb, (hx.2 0 b hb).trans hh, hs, fun j hj => ?_⟩
        obtain ⟨v, hv, hf⟩ := hr j hj
        exact ⟨v, hv, k.rep (fun y hy => by simp only [AV.names, List.mem_singleton] at hy; subst hy; exact hx') hf⟩
      · exact .inr ⟨by rw [hx.1]; exact hb, h1⟩
    · rcases h' j hj with ⟨b, vs, e, hb, hh, hs, hr⟩ | ⟨hb, h1⟩
      · refine .inl ⟨b, vs, e, by rw [hx.1]; exact hb, (hx.2 _ b hb).trans hh, hs, fun c hc => ?_⟩
        obtain ⟨v, hv, ho, hf⟩ := hr c hc
        exact ⟨v, hv, ho, k.fr hf⟩
      · exact .inr ⟨by rw [hx.1]; exact hb, h1⟩
  | mapI f =>
    obtain ⟨b, mes, clock, hb, hh, hm⟩ := h
    exact ⟨b, mes, clock, by rw [hx.1]; exact hb, (hx.2 0 b hb).trans hh, hm⟩
  | mapB f =>
    obtain ⟨b, mes, clock, hb, hh, hm⟩ := h
    exact ⟨b, mes, clock, by rw [hx.1]; exact hb, (hx.2 0 b hb).trans hh, hm⟩
  | pin y b => exact ⟨by rw [hx.1]; exact h.1, by rw [(hn y (by simp [Blk.names])).1]; exact h.2⟩
theorem blk_names {w : World} {X : Nat → Prop} {φ : Loc} {x : Name} {bl : Blk} (h : BlkAt w X φ x bl) : ∀ y ∈ bl.names, ∃ i, φ y i ≠ none := by
  cases bl with
  | box cs =>
    obtain ⟨b, vs, e, hb, hh, hs, hr⟩ := h
    intro y hy
    have hl : ∀ {cs : List AV} {vs : List Value}, cs.length = vs.length → (∀ (i : Nat) (c : AV) (v : Value), cs[i]? = some c → vs[i]? = some v → Rep w X φ c v) → y ∈ namesL cs → ∃ i, φ y i ≠ none := by
      intro cs
      induction cs with
      | nil => intro vs _ _ hy; cases hy
      | cons d r ih =>
        intro vs hl h hy
        cases vs with
        | nil => cases hl
        | cons u us =>
          simp only [namesL, List.mem_append] at hy
          rcases hy with hy | hy
          · exact rep_names (h 0 d u rfl rfl) y hy
          · exact ih (by simpa using hl) (fun i c v h1 h2 => h (i + 1) c v (by simpa using h1) (by simpa using h2)) hy
    exact hl (vs := vs.toList) (by simp [hs]) (fun i c v h1 h2 => hr i c v h1 (by simpa using h2)) hy
  | pin z b => intro y hy; simp only [Blk.names, List.mem_singleton] at hy; subst hy; exact ⟨0, by rw [h.2]; simp⟩
  | _ => intro y hy; cases hy
theorem blk_dom {w : World} {X : Nat → Prop} {φ : Loc} {x : Name} {bl : Blk} (h : BlkAt w X φ x bl) : φ x 0 ≠ none := by
  cases bl with
  | box cs => obtain ⟨b, vs, e, hb, _⟩ := h; simp [hb]
  | arr sz n f => obtain ⟨_, ⟨b, vs, e, hb, _⟩ | ⟨hb, _⟩⟩ := h <;> simp [hb]
  | mat n len f => obtain ⟨⟨b, vs, e, hb, _⟩ | ⟨hb, _⟩, _⟩ := h <;> simp [hb]
  | mapI f => obtain ⟨b, vs, e, hb, _⟩ := h; simp [hb]
  | mapB f => obtain ⟨b, vs, e, hb, _⟩ := h; simp [hb]
  | pin y b => simp [h.1]
/-- a name more -/
def Loc.ext (φ : Loc) (x : Name) (v : Option Nat) : Loc := fun y i => if y = x then (if i = 0 then some v else none) else φ y i
theorem Loc.ext_same (φ : Loc) (x : Name) (v : Option Nat) : φ.ext x v x 0 = some v := by simp [Loc.ext]
theorem Loc.ext_ne (φ : Loc) (x : Name) (v : Option Nat) {y : Name} (h : y ≠ x) : φ.ext x v y = φ y := by funext i; simp [Loc.ext, h]
section
variable {P : Program} {N : Nat} {B : Nat → Prop} {fr : Name → Prop} {φ : Loc} {s : AS} {a : Act} {w : World}
/-- A world in which nothing of what is there has changed, but there may be more; and a name for a block that is new. -/
theorem RelAt.more (R : RelAt N B fr φ s a w) {w' : World} (hs : w.heap.size ≤ w'.heap.size) (hb : ∀ b, b < w.heap.size → w'.heap[b]? = w.heap[b]?) (ho : w'.os = w.os) (ht : w'.tape = w.tape) (hu : w'.output = w.output)
    {nm : Name} (hf : fr nm) {v : Option Nat} (hv : ∀ b, v = some b → w.heap.size ≤ b ∧ b < w'.heap.size) :
    RelAt N B (fun x => fr x ∧ x ≠ nm) (φ.ext nm v) s a w' ∧ Fwd φ w (φ.ext nm v) w' NoW ∧ (∀ {c : AV} {u : Value}, Rep w (Excl B φ) φ c u → Rep w' (Excl B (φ.ext nm v)) (φ.ext nm v) c u) ∧ (∀ {c : AV} {u : Value}, Fr w (Excl B φ) c u → Fr w' (Excl B (φ.ext nm v)) c u) := by
  have hnone := R.free nm hf
  have hin : ∀ x i b, φ.ext nm v x i = some (some b) → (x ≠ nm ∧ φ x i = some (some b)) ∨ (x = nm ∧ i = 0 ∧ v = some b) := by
    intro x i b h
    unfold Loc.ext at h
    split at h
    · rename_i hx
      split at h
      · rename_i hi; injection h with h; exact .inr ⟨hx, hi, h⟩
      · cases h
    · rename_i hx; exact .inl ⟨hx, h⟩
  have k : Keeps w (Excl B φ) φ w' (Excl B (φ.ext nm v)) (φ.ext nm v) := ⟨fun b h _ => hb b h, hs, fun b h => by
    rcases h with h | ⟨x, i, h⟩
    · exact .inl (.inl h)
    · rcases hin x i b h with ⟨_, h⟩ | ⟨_, _, h⟩
      · exact .inl (.inr ⟨x, i, h⟩)
      · exact .inr (hv b h).1⟩
  have hdom : ∀ y, (∃ i, φ y i ≠ none) → y ≠ nm := fun y ⟨i, hi⟩ e => hi (by subst e; exact hnone i)
  have hrep : ∀ {c : AV} {u : Value}, Rep w (Excl B φ) φ c u → Rep w' (Excl B (φ.ext nm v)) (φ.ext nm v) c u := fun h =>
    k.rep (fun x hx => ⟨φ.ext_ne nm v (hdom x (rep_names h x hx)), fun i b cs e z h1 h2 => ⟨cs, e, z, (hb b (R.lt x i b h1).1).trans h2, Nat.le_refl _⟩⟩) h
  refine ⟨?_, ?_, hrep, fun h => k.fr h⟩
  · exact
    { size := R.size
      defers := R.defers
      env := fun t c hc => ⟨(R.env t c hc).1, hrep (R.env t c hc).2⟩
      st := fun x bl hl => by
        have h := R.st x bl hl
        have hx : x ≠ nm := hdom x ⟨0, blk_dom h⟩
        exact k.blk ⟨φ.ext_ne nm v hx, fun i b h2 => hb b (R.lt x i b h2).1⟩ (fun y hy => ⟨φ.ext_ne nm v (hdom y (blk_names h y hy)), fun i b cs e z h3 h4 => ⟨cs, e, z, (hb b (R.lt y i b h3).1).trans h4, Nat.le_refl _⟩⟩) h
      inj := fun x y i j b h1 h2 => by
        rcases hin x i b h1 with ⟨_, h3⟩ | ⟨e1, e2, h3⟩ <;> rcases hin y j b h2 with ⟨_, h4⟩ | ⟨e3, e4, h4⟩
        · exact R.inj x y i j b h3 h4
        · have := (hv b h4).1; have := (R.lt x i b h3).1; omega
        · have := (hv b h3).1; have := (R.lt y j b h4).1; omega
        · exact ⟨e1.trans e3.symm, e2.trans e4.symm⟩
      lt := fun x i b h => by
        rcases hin x i b h with ⟨_, h⟩ | ⟨_, _, h⟩
        · have := R.lt x i b h; exact ⟨by omega, this.2⟩
        · have := hv b h; exact ⟨this.2, fun hB => by have := R.ltB b hB; omega⟩
      ltB := fun b h => by have := R.ltB b h; omega
      free := fun x hx i => by rw [φ.ext_ne nm v hx.2]; exact R.free x hx.1 i }
  · exact ⟨ho, ht, hu, hs, fun b h _ => hb b h, fun x i b h => by
      rcases hin x i b h with ⟨_, h⟩ | ⟨_, _, h⟩
      · exact .inl ⟨x, i, h, .inl ⟨rfl, rfl⟩⟩
      · exact .inr (hv b h).1, keep_of hb⟩
theorem RelAt.addSt {env : List (Nat × AV)} {st : List (Name × Blk)} {nx : Nat} (R : RelAt N B fr φ ⟨env, st, nx⟩ a w) {x : Name} {bl : Blk} (h : BlkAt w (Excl B φ) φ x bl) : RelAt N B fr φ ⟨env, upd st x bl, nx⟩ a w :=
  { R with
    st := fun y k hk => by
      rcases look_upd _ _ _ _ _ hk with ⟨rfl, rfl⟩ | ⟨_, hk⟩
      · exact h
      · exact R.st y k hk }
/-- A new block. -/
theorem RelAt.alloc (R : RelAt N B fr φ s a w) {nm : Name} (hf : fr nm) (o : Obj) :
    RelAt N B (fun x => fr x ∧ x ≠ nm) (φ.ext nm (some w.heap.size)) s a (w.alloc o) ∧ Fwd φ w (φ.ext nm (some w.heap.size)) (w.alloc o) NoW ∧ (∀ {c : AV} {u : Value}, Rep w (Excl B φ) φ c u → Rep (w.alloc o) (Excl B (φ.ext nm (some w.heap.size))) (φ.ext nm (some w.heap.size)) c u) ∧
      (∀ {c : AV} {u : Value}, Fr w (Excl B φ) c u → Fr (w.alloc o) (Excl B (φ.ext nm (some w.heap.size))) c u) :=
  R.more (w' := w.alloc o) (by simp) (fun b h => Below.heap_alloc w o b h) rfl rfl rfl hf (fun b h => by injection h with h; subst h; simp)
theorem alloc_at (w : World) (o : Obj) : (w.alloc o).heap[w.heap.size]? = some o := by
  show (w.heap.push o)[w.heap.size]? = some o
  simp
end
/-- cells of values, cells of what they are -/
def PW (w : World) (X : Nat → Prop) (φ : Loc) (cs : List AV) (vs : Array Value) : Prop := cs.length = vs.size ∧ ∀ (i : Nat) (c : AV) (v : Value), cs[i]? = some c → vs[i]? = some v → Rep w X φ c v ∧ v.oneCell' = true
theorem PW.set {w : World} {X : Nat → Prop} {φ : Loc} {cs : List AV} {vs : Array Value} (h : PW w X φ cs vs) {c : AV} {v : Value} (hc : Rep w X φ c v) (ho : v.oneCell' = true) (o : Nat) : PW w X φ (cs.set o c) (vs.setIfInBounds o v) := by
  refine ⟨by simp [h.1], fun i d u h1 h2 => ?_⟩
  by_cases hi : o = i
  · subst hi
    have hlt : o < cs.length := by have := (List.getElem?_eq_some_iff.1 h1).1; simpa using this
    simp [hlt] at h1
    have hlt' : o < vs.size := by rw [← h.1]; exact hlt
    simp [hlt'] at h2
    subst h1; subst h2
    exact ⟨hc, ho⟩
  · rw [List.getElem?_set_ne hi] at h1
    rw [Array.getElem?_setIfInBounds_ne hi] at h2
    exact h.2 i d u h1 h2
theorem PW.put {w : World} {X : Nat → Prop} {φ : Loc} : ∀ (ds : List AV) (us : List Value) (cs : List AV) (vs : Array Value) (off j : Nat), PW w X φ cs vs → ds.length = us.length → (∀ (i : Nat) (c : AV) (v : Value), ds[i]? = some c → us[i]? = some v → Rep w X φ c v ∧ v.oneCell' = true) →
    PW w X φ (putCells cs (off + j) ds) ((us.zipIdx j).foldl (fun cs (p : Value × Nat) => cs.setIfInBounds (off + p.2) p.1) vs)
  | [], us, cs, vs, off, j, h, hl, _ => by
    cases us with
    | nil => exact h
    | cons => cases hl
  | d :: ds, us, cs, vs, off, j, h, hl, hh => by
    cases us with
    | nil => cases hl
    | cons u us =>
      obtain ⟨h1, h2⟩ := hh 0 d u rfl rfl
      have := PW.put ds us _ _ off (j + 1) (h.set h1 h2 (off + j)) (by simpa using hl) (fun i c v h3 h4 => hh (i + 1) c v (by simpa using h3) (by simpa using h4))
      simp only [putCells, List.zipIdx_cons, List.foldl_cons]
      exact this
section
variable {P : Program} {N : Nat} {B : Nat → Prop} {fr : Name → Prop} {φ : Loc} {s : AS} {a : Act} {w : World}
theorem PW.fill (R : RelAt N B fr φ s a w) (place : Nat → Option (Nat × Nat)) : ∀ (ps : List (Nat × Operand)) (qs : List (Nat × Nat × Operand)) (cs ds : List AV) (vs : Array Value), tParts place ps = some qs → buildv s cs qs = some ds → PW w (Excl B φ) φ cs vs →
    ∃ us, Instr.fill place vs (ps.map fun p => (p.1, a.eval p.2)) = some us ∧ PW w (Excl B φ) φ ds us
  | [], qs, cs, ds, vs, hq, hb, h => by
    simp only [tParts, Option.some.injEq] at hq
    subst hq
    simp only [buildv, Option.some.injEq] at hb
    subst hb
    exact ⟨vs, rfl, h⟩
  | (i, x) :: ps, qs, cs, ds, vs, hq, hb, h => by
    simp only [tParts] at hq
    split at hq
    · rename_i o k r hpl hr
      injection hq with hq
      subst hq
      simp only [buildv] at hb
      cases hx : AM.opd s x with
      | none => rw [hx] at hb; cases hb
      | some c =>
        rw [hx] at hb
        simp only at hb
        split at hb
        · rename_i hc
          simp only [Bool.and_eq_true] at hc
          have hk : c.cells.length = k := Nat.eq_of_beq_eq_true hc.1.1
          have ho : o + k ≤ cs.length := Nat.le_of_ble_eq_true hc.1.2
          obtain ⟨h1, h2⟩ := rep_cells (R.opd hx) hc.2
          have hp := PW.put c.cells (a.eval x).cells.toList cs vs o 0 h (by simpa using h1) (fun i d u h3 h4 => h2 i d u h3 (by simpa using h4))
          simp only [Nat.add_zero] at hp
          obtain ⟨us, hu, hpu⟩ := PW.fill R place ps r _ ds _ hr hb hp
          refine ⟨us, ?_, hpu⟩
          simp only [List.map_cons, Instr.fill, hpl]
          rw [if_neg (by rw [← h1, hk, ← h.1]; simp; omega)]
          rw [← hu]
          congr 1
          rw [← Array.foldl_toList]
          simp
        · cases hb
    · cases hq
theorem zero_run {t : TypeId} {zs : List Value} (h : tZero P t = some zs) (w : World) : ∃ z i, P.info? t = some i ∧ i.zero = some z ∧ z.cells.toList = zs ∧ (zeroValue t).run P w = .ok z w := by
  unfold tZero at h
  obtain ⟨z, hz, he⟩ := Option.map_eq_some_iff.1 h
  obtain ⟨i, hi, hz⟩ := Option.bind_eq_some_iff.1 hz
  exact ⟨z, i, hi, hz, he, by simp [zeroValue, typeInfo, hi, hz]⟩
theorem pw_zero {w : World} {X : Nat → Prop} {φ : Loc} {zs : List Value} (h : zs.all Value.oneCell' = true) : PW w X φ (zs.map AV.raw) zs.toArray := by
  refine ⟨by simp, fun i c v h1 h2 => ?_⟩
  simp only [List.getElem?_map] at h1
  obtain ⟨u, hu, rfl⟩ := Option.map_eq_some_iff.1 h1
  simp only [List.getElem?_toArray] at h2
  rw [hu] at h2
  injection h2 with h2
  subst h2
  have := List.all_eq_true.1 h u (List.mem_of_getElem? hu)
  exact ⟨.fr _ _ (.raw _ this), this⟩
theorem sound_build {o : Oper} {t : TypeId} {ps : Array (Nat × Operand)} (ho : o.op = .build t ps) {zs : List Value} {qs : List (Nat × Nat × Operand)} (hz : tZero P t = some zs) {place : Nat → Option (Nat × Nat)}
    (hpl : (∃ fs pl, P.underlying t = some (.struct fs) ∧ tPlaces P fs = some pl ∧ place = fun i => pl[i]?) ∨ ∃ n e k, P.underlying t = some (.array n e) ∧ tSize P e = some k ∧ place = fun i => some (i * k, k))
    (hq : tParts place ps.toList = some qs) {c : AV} {nm : Name} {pre : Option Prop} {new : Option Blk} (hy : yv s nm (.build zs qs) = some (pre, c, new)) (R : RelAt N B fr φ s a w) :
    new = none ∧ ∃ v, (∀ w', (execOp a.eval o).run P w' = .ok (.value v) w') ∧ Rep w (Excl B φ) φ c v := by
  simp only [yv] at hy
  split at hy
  · rename_i hone
    split at hy
    · rename_i cs hb
      injection hy with hy; injection hy with h1 h2; injection h2 with h2 h3
      subst h1; subst h2
      refine ⟨h3.symm, ?_⟩
      obtain ⟨z, i, hi, hiz, hzc, _⟩ := zero_run hz w
      obtain ⟨us, hu, hp⟩ := PW.fill R place ps.toList qs _ _ zs.toArray hq hb (pw_zero hone)
      have hzz : z.cells = zs.toArray := by rw [← hzc]
      have hbuilt : P.built t (ps.map fun (i, x) => (i, a.eval x)).toList = some us := by
        unfold Program.built
        rcases hpl with ⟨fs, pl, hu', hpl, rfl⟩ | ⟨n, e, k, hu', hk, rfl⟩
        · unfold tPlaces at hpl
          simp only [hi, hu', hiz, hpl, hzz, Array.toList_map]
          simpa using hu
        · unfold tSize at hk
          obtain ⟨ie, hie, rfl⟩ := Option.map_eq_some_iff.1 hk
          simp only [hi, hu', hiz, hie, hzz, Array.toList_map]
          exact hu
      refine ⟨.agg us, fun w' => by simp [execOp, ho, run_build w' t _ us hbuilt], ?_⟩
      have := Rep.agg cs us.toList (w := w) (X := Excl B φ) (φ := φ) (by simpa using hp.1) (fun i c v h1 h2 => (hp.2 i c v h1 (by simpa using h2)).1)
      simpa using this
    · cases hy
  · cases hy
/-- A new variable. -/
theorem new_box (R : RelAt N B fr φ s a w) {nm : Name} (hf : fr nm) {env : List (Nat × AV)} {st : List (Name × Blk)} {nx : Nat} (hs : s = ⟨env, st, nx⟩) {cs : List AV} {vs : Array Value} (h : PW w (Excl B φ) φ cs vs) (e : TypeId) :
    ∃ φ', RelAt N B (fun x => fr x ∧ x ≠ nm) φ' ⟨env, upd st nm (.box (cs.map AV.nrm)), nx⟩ a (w.alloc (.cells vs e)) ∧ Rep (w.alloc (.cells vs e)) (Excl B φ') φ' (.ptr nm 0) (.pointer (some ⟨w.heap.size, 0, none⟩)) ∧ Fwd φ w φ' (w.alloc (.cells vs e)) NoW := by
  subst hs
  obtain ⟨R', F, hr, _⟩ := R.alloc hf (.cells vs e)
  refine ⟨_, R'.addSt ⟨w.heap.size, vs, e, Loc.ext_same _ _ _, alloc_at _ _, by simp [h.1], fun i c v h1 h2 => ?_⟩, .ptr _ _ _ (Loc.ext_same _ _ _), F⟩
  simp only [List.getElem?_map] at h1
  obtain ⟨d, hd, rfl⟩ := Option.map_eq_some_iff.1 h1
  exact rep_nrm (hr (h.2 i d v hd h2).1)
/-- A new row. -/
theorem new_arr (R : RelAt N B fr φ s a w) {nm : Name} (hf : fr nm) {env : List (Nat × AV)} {st : List (Name × Blk)} {nx : Nat} (hs : s = ⟨env, st, nx⟩) {sz n : Nat} (h0 : 0 < sz) {f : Nat → Nat → AV} {vs : Array Value} (hn : n * sz ≤ vs.size) (h : ∀ j c, j < n → c < sz → ∃ v, vs[j * sz + c]? = some v ∧ v.oneCell' = true ∧ Fr w (Excl B φ) (f j c) v) (e : TypeId) (cap : Nat) (hc : n ≤ cap) (hcap : cap * sz ≤ vs.size) :
    ∃ φ', RelAt N B (fun x => fr x ∧ x ≠ nm) φ' ⟨env, upd st nm (.arr sz n f), nx⟩ a (w.alloc (.cells vs e)) ∧ Rep (w.alloc (.cells vs e)) (Excl B φ') φ' (.own nm sz 0 n) (.slice (some ⟨w.heap.size, 0, none⟩) n cap) ∧ Fwd φ w φ' (w.alloc (.cells vs e)) NoW := by
  subst hs
  obtain ⟨R', F, _, hr⟩ := R.alloc hf (.cells vs e)
  refine ⟨_, R'.addSt ⟨h0, .inl ⟨w.heap.size, vs, e, Loc.ext_same _ _ _, alloc_at _ _, hn, fun j c h1 h2 => ?_⟩⟩, ?_, F⟩
  · obtain ⟨v, hv, ho, hf⟩ := h j c h1 h2
    exact ⟨v, hv, ho, hr hf⟩
  · have := Rep.own (w := w.alloc (.cells vs e)) (X := Excl B (φ.ext nm (some w.heap.size))) (φ := φ.ext nm (some w.heap.size)) nm sz 0 n cap w.heap.size vs e (0, 0) (Loc.ext_same _ _ _) (alloc_at _ _) hc (by simpa using hcap)
    simpa using this
end
section
variable {P : Program} {N : Nat} {B : Nat → Prop} {fr : Name → Prop} {φ : Loc} {s : AS} {a : Act} {w : World}
/-- what is to be shown of an operation -/
def Comes0 (P : Program) (N : Nat) (B : Nat → Prop) (fr : Name → Prop) (φ : Loc) (s : AS) (a : Act) (w : World) (o : Oper) (nm : Name) (c : AV) (new : Option Blk) : Prop :=
  ∃ v w' φ', (execOp a.eval o).run P w = .ok (.value v) w' ∧ RelAt N B (fun x => fr x ∧ x ≠ nm) φ' ⟨s.env, updS s.st nm new, s.nx⟩ a w' ∧ Rep w' (Excl B φ') φ' c v ∧ Fwd φ w φ' w' NoW
theorem Comes0.same (R : RelAt N B fr φ s a w) {o : Oper} {nm : Name} {c : AV} {v : Value} (h : (execOp a.eval o).run P w = .ok (.value v) w) (hr : Rep w (Excl B φ) φ c v) : Comes0 P N B fr φ s a w o nm c none :=
  ⟨v, w, φ, h, R.less fun x hx => hx.1, hr, Fwd.refl φ w⟩
/-- what is to be shown of an operation that hangs on its operands alone -/
def Comes1 (P : Program) (B : Nat → Prop) (φ : Loc) (a : Act) (w : World) (o : Oper) (c : AV) (new : Option Blk) : Prop :=
  new = none ∧ ∃ v, (∀ w', (execOp a.eval o).run P w' = .ok (.value v) w') ∧ Rep w (Excl B φ) φ c v
theorem Comes1.same {o : Oper} {c : AV} {v : Value} (h : ∀ w', (execOp a.eval o).run P w' = .ok (.value v) w') (hr : Rep w (Excl B φ) φ c v) : Comes1 P B φ a w o c none := ⟨rfl, v, h, hr⟩
theorem Comes1.comes0 (R : RelAt N B fr φ s a w) {o : Oper} {nm : Name} {c : AV} {new : Option Blk} (h : Comes1 P B φ a w o c new) : Comes0 P N B fr φ s a w o nm c new := by
  obtain ⟨rfl, v, h, hr⟩ := h
  exact .same R (h w) hr
theorem tElem_eq {t e : TypeId} (h : tElem P t = some e) : P.underlying t = some (.slice e) := by
  unfold tElem at h
  split at h
  · injection h with h; subst h; assumption
  · cases h
theorem yv_mv {o : Oper} {x : Operand} (ho : o.op = .move x ∨ o.op = .assign x) {nm : Name} {pre : Option Prop} {c : AV} {new : Option Blk} (hy : yv s nm (.mv x) = some (pre, c, new)) (R : RelAt N B fr φ s a w) : Comes1 P B φ a w o c new := by
  simp only [yv, Option.map_eq_some_iff] at hy
  obtain ⟨d, hd, he⟩ := hy
  injection he with h1 h2; injection h2 with h2 h3
  subst h2; subst h3
  exact .same (v := a.eval x) (fun w' => by rcases ho with ho | ho <;> simp [execOp, ho]) (R.opd hd)
theorem yv_pick {o : Oper} {x y z : Operand} (ho : o.op = .pick x y z) {nm : Name} {pre : Option Prop} {c : AV} {new : Option Blk} (hy : yv s nm (.pick x y z) = some (pre, c, new)) (R : RelAt N B fr φ s a w) : Comes1 P B φ a w o c new := by
  have hrun : ∀ b, a.eval x = .bool b → ∀ w', (execOp a.eval o).run P w' = .ok (.value (if b then a.eval y else a.eval z)) w' := fun b hb w' => by
    simp [execOp, ho, hb, Go.asBool]
  simp only [yv] at hy
  split at hy
  · rename_i hx
    obtain ⟨d, hd, he⟩ := Option.map_eq_some_iff.1 hy
    injection he with h1 h2; injection h2 with h2 h3
    subst h2; subst h3
    exact .same (hrun _ (rep_raw (R.opd hx)).1) (R.opd hd)
  · rename_i hx
    obtain ⟨d, hd, he⟩ := Option.map_eq_some_iff.1 hy
    injection he with h1 h2; injection h2 with h2 h3
    subst h2; subst h3
    exact .same (hrun _ (rep_raw (R.opd hx)).1) (R.opd hd)
  · rename_i t hx
    split at hy
    · rename_i p q hp hq
      injection hy with hy; injection hy with h1 h2; injection h2 with h2 h3
      subst h2; subst h3
      obtain ⟨cp, hp1, hp2⟩ := Option.bind_eq_some_iff.1 hp
      obtain ⟨cq, hq1, hq2⟩ := Option.bind_eq_some_iff.1 hq
      refine .same (hrun _ (rep_tst (R.opd hx))) ?_
      rw [rep_asBool (R.opd hp1) hp2, rep_asBool (R.opd hq1) hq2]
      cases t <;> exact .fr _ _ (.tst _)
    · cases hy
  · cases hy
theorem yv_alloc {o : Oper} {e : TypeId} (ho : o.op = .alloc e) {zs : List Value} (hz : tZero P e = some zs) {nm : Name} (hf : fr nm) {pre : Option Prop} {c : AV} {new : Option Blk} (hy : yv s nm (.alloc zs) = some (pre, c, new)) (R : RelAt N B fr φ s a w) : Comes0 P N B fr φ s a w o nm c new := by
  simp only [yv] at hy
  split at hy
  · rename_i hone
    injection hy with hy; injection hy with h1 h2; injection h2 with h2 h3
    subst h2; subst h3
    obtain ⟨z, i, hi, hiz, hzc, hzr⟩ := zero_run hz w
    obtain ⟨φ', R', hr, F⟩ := new_box R hf (env := s.env) (st := s.st) (nx := s.nx) rfl (pw_zero hone) e
    have hzz : z.cells = zs.toArray := by rw [← hzc]
    rw [List.map_map] at R'
    refine ⟨_, _, φ', ?_, R', hr, F⟩
    simp [execOp, ho, Instr.alloc, hzr, newVar, newRow, hzz]
  · cases hy
theorem yv_box {o : Oper} {e : TypeId} {x : Operand} (ho : o.op = .box e x) {k : Nat} {nm : Name} (hf : fr nm) {pre : Option Prop} {c : AV} {new : Option Blk} (hy : yv s nm (.box k x) = some (pre, c, new)) (R : RelAt N B fr φ s a w) : Comes0 P N B fr φ s a w o nm c new := by
  simp only [yv] at hy
  split at hy
  · rename_i d hx
    split at hy
    · rename_i hc
      injection hy with hy; injection hy with h1 h2; injection h2 with h2 h3
      subst h2; subst h3
      simp only [Bool.and_eq_true] at hc
      obtain ⟨h1, h2⟩ := rep_cells (R.opd hx) hc.2
      obtain ⟨φ', R', hr, F⟩ := new_box R hf (env := s.env) (st := s.st) (nx := s.nx) rfl (cs := d.cells) (vs := (a.eval x).cells) ⟨h1, h2⟩ e
      exact ⟨_, _, φ', by simp [execOp, ho, Instr.box, newVar, newRow], R', hr, F⟩
    · cases hy
  · cases hy
theorem yv_nilck {o : Oper} {x : Operand} (ho : o.op = .nilCheck x) {nm : Name} {pre : Option Prop} {c : AV} {new : Option Blk} (hy : yv s nm (.nilck x) = some (pre, c, new)) (R : RelAt N B fr φ s a w) : Comes1 P B φ a w o c new := by
  have hrun : ∀ ad, a.eval x = .pointer (some ad) → ∀ w, (execOp a.eval o).run P w = .ok (.value (a.eval x)) w := fun ad h w => by simp [execOp, ho, h]
  simp only [yv] at hy
  split at hy <;> first | (cases hy; done) | skip
  all_goals
    rename_i hx
    injection hy with hy; injection hy with h1 h2; injection h2 with h2 h3
    subst h2; subst h3
    have hr := R.opd hx
  · obtain ⟨ad, g, hv, _⟩ := rep_fpt hr; exact .same (hrun _ hv) hr
  · obtain ⟨b, _, hv⟩ := rep_ptr hr; exact .same (hrun _ hv) hr
  · obtain ⟨b, _, hv⟩ := rep_elt hr; exact .same (hrun _ hv) hr
theorem eqGuard_run {op : BinOp} {t : TypeId} {x y : Operand} {u v : Value} (hu : (∀ z, u ≠ .agg z)) (hv : u ≠ .nilIface) (w : World) : (eqGuard op t x y u v).run P w = .ok () w := by
  unfold eqGuard
  cases op <;> simp only [Bool.not_true, Bool.not_false, if_true, if_false, Bool.false_eq_true, reduceIte] <;> first
    | rfl
    | (cases u <;> first | (cases v <;> rfl) | exact absurd rfl hv | exact absurd rfl (hu _))
theorem yv_bin {o : Oper} {op : BinOp} {t t' : TypeId} {x y : Operand} (ho : o.op = .binOp op t x y t') {kd : Nat} (hk : (kd = 1 → P.underlying t = some .bool) ∧ (kd = 2 → ∃ e, P.underlying t = some (.pointer e)) ∧ (kd = 3 → ∃ e, P.underlying t = some (.slice e)))
    {nm : Name} {pre : Option Prop} {c : AV} {new : Option Blk} (hy : yv s nm (.bin kd op x y) = some (pre, c, new)) (hp : ∀ p, pre = some p → p) (R : RelAt N B fr φ s a w) : Comes1 P B φ a w o c new := by
  simp only [yv] at hy
  split at hy
  · rename_i p q hx hyy
    split at hy
    · rename_i pp cc hb
      injection hy with hy; injection hy with h1 h2; injection h2 with h2 h3
      subst h1; subst h2; subst h3
      obtain ⟨r, hr, hrep⟩ := sound_binv hb hp (R.opd hx) (R.opd hyy) hk
      have hone : (∀ z, a.eval x ≠ .agg z) ∧ a.eval x ≠ .nilIface := by
        have h3 := R.opd hx
        unfold binv at hb
        split at hb <;> first
          | (have := (rep_raw h3).1; rw [this]; exact ⟨fun z h => by (cases h), by intro h; cases h⟩)
          | (have := rep_tst h3; rw [this]; exact ⟨fun z h => by (cases h), by intro h; cases h⟩)
          | (obtain ⟨b, _, hv⟩ := rep_ptr h3; rw [hv]; exact ⟨fun z h => by (cases h), by intro h; cases h⟩)
          | (obtain ⟨b, _, hv⟩ := rep_elt h3; rw [hv]; exact ⟨fun z h => by (cases h), by intro h; cases h⟩)
          | (obtain ⟨ad, g, hv, _⟩ := rep_fpt h3; rw [hv]; exact ⟨fun z h => by (cases h), by intro h; cases h⟩)
          | cases hb
      exact .same (v := r) (fun w' => by simp [execOp, ho, eqGuard_run hone.1 hone.2, hr]) hrep
    · cases hy
  · cases hy
theorem yv_un {o : Oper} {op : UnOp} {t : TypeId} {x : Operand} (ho : o.op = .unOp op t x) {nm : Name} {pre : Option Prop} {c : AV} {new : Option Blk} (hy : yv s nm (.un op x) = some (pre, c, new)) (R : RelAt N B fr φ s a w) : Comes1 P B φ a w o c new := by
  simp only [yv, Option.map_eq_some_iff] at hy
  obtain ⟨d, hd, he⟩ := hy
  injection he with h1 h2; injection h2 with h2 h3
  subst h2; subst h3
  obtain ⟨e, he, hu⟩ := Option.bind_eq_some_iff.1 hd
  obtain ⟨r, hr, hrep⟩ := sound_unv (P := P) hu (R.opd he)
  exact .same (v := r) (fun w' => by simp [execOp, ho, hr]) hrep
theorem yv_conv {o : Oper} {t d : TypeId} {x : Operand} (ho : o.op = .convert t d x) {k : IntKind} (hd : P.underlying d = some (.int k)) (hs : ∃ u, P.underlying t = some u) {nm : Name} {pre : Option Prop} {c : AV} {new : Option Blk} (hy : yv s nm (.conv k x) = some (pre, c, new)) (R : RelAt N B fr φ s a w) : Comes1 P B φ a w o c new := by
  simp only [yv] at hy
  split at hy
  · rename_i k' n hx
    injection hy with hy; injection hy with h1 h2; injection h2 with h2 h3
    subst h2; subst h3
    obtain ⟨u, hu⟩ := hs
    have hv := (rep_raw (R.opd hx)).1
    exact .same (v := .int k (k.wrap n)) (fun w' => by simp [execOp, ho, hv, convert, run_underlying hu, run_underlying hd, Conv.intToInt]) (.fr _ _ (.raw _ rfl))
  · cases hy
theorem yv_mkfn {o : Oper} {f : Fn} {x y : Array Operand} (ho : o.op = .makeFunc f x y) {nm : Name} {pre : Option Prop} {c : AV} {new : Option Blk} (hy : yv s nm (.mkfn f x.toList y.toList) = some (pre, c, new)) (R : RelAt N B fr φ s a w) : Comes1 P B φ a w o c new := by
  simp only [yv] at hy
  split at hy
  · rename_i p q hp hq
    injection hy with hy; injection hy with h1 h2; injection h2 with h2 h3
    subst h2; subst h3
    obtain ⟨h1, h2⟩ := R.opds hp
    obtain ⟨h3, h4⟩ := R.opds hq
    refine .same (v := .func f (x.toList.map a.eval).toArray (y.toList.map a.eval).toArray) ?_ (.fn f p q _ _ (by simpa using h1) (by simpa using h3) h2 h4)
    have e : ∀ z : Array Operand, z.map a.eval = (z.toList.map a.eval).toArray := fun z => by apply Array.ext'; simp
    intro w'
    simp only [execOp, ho, Instr.makeFunc, e]
    simp
  · cases hy
theorem yv_mkmap {o : Oper} {t : TypeId} (ho : o.op = .makeMap t none) {b : Bool} {nm : Name} (hf : fr nm) {pre : Option Prop} {c : AV} {new : Option Blk} (hy : yv s nm (.mkmap b) = some (pre, c, new)) (R : RelAt N B fr φ s a w) : Comes0 P N B fr φ s a w o nm c new := by
  simp only [yv] at hy
  injection hy with hy; injection hy with h1 h2; injection h2 with h2 h3
  subst h2; subst h3
  obtain ⟨R', F, _, _⟩ := R.alloc hf (.map #[] 0)
  have hm : ∀ {T : Int → Value → Prop}, (∀ k v, ¬ T k v) → MapAt #[] 0 T := fun hT => ⟨fun i e h => by simp at h, fun k v h => absurd h (hT k v), fun i j e e' h => by simp at h, fun i j e e' h => by simp at h, fun i e h => by simp at h⟩
  refine ⟨.map (some w.heap.size), _, _, by simp [execOp, ho, Instr.makeMap], R'.addSt ?_, .mp _ _ (Loc.ext_same _ _ _), F⟩
  cases b
  · exact ⟨w.heap.size, #[], 0, Loc.ext_same _ _ _, alloc_at _ _, hm fun k v ⟨n, h, _⟩ => by cases h⟩
  · exact ⟨w.heap.size, #[], 0, Loc.ext_same _ _ _, alloc_at _ _, hm fun k v ⟨n, h, _⟩ => by cases h⟩
theorem made_get (z : Value) (n j : Nat) (h : j < n) : (madeCells #[z] n)[j]? = some z := by
  simp [madeCells, h, Nat.mod_one]
theorem fr_nrm {X : Nat → Prop} {c : AV} {v : Value} (h : Fr w X c v) : Fr w X c.nrm v := by
  unfold AV.nrm
  split
  · cases h; exact .tst _
  · exact h
theorem yv_mksl {o : Oper} {t e : TypeId} {l c' : Operand} (ho : o.op = .makeSlice t l c') (ht : P.underlying t = some (.slice e)) {i : TypeInfo} (hi : P.info? e = some i) (hsz : i.size = 1) (hbp : 0 < i.bytes) {z : Value} (hz : tZero P e = some [z]) (hlc : a.eval l = a.eval c')
    {nm : Name} (hf : fr nm) {pre : Option Prop} {c : AV} {new : Option Blk} (hy : yv s nm (.mksl 0 i.bytes z l) = some (pre, c, new)) (hp : ∀ p, pre = some p → p) (R : RelAt N B fr φ s a w) : Comes0 P N B fr φ s a w o nm c new := by
  simp only [yv] at hy
  split at hy
  · rename_i n hn
    obtain ⟨d, hd, hn⟩ := Option.bind_eq_some_iff.1 hn
    split at hy
    · rename_i hone
      injection hy with hy; injection hy with h1 h2; injection h2 with h2 h3
      subst h1; subst h2; subst h3
      obtain ⟨hn0, hnb⟩ := hp _ rfl
      have hv := rep_i64 (R.opd hd) hn
      obtain ⟨z', i', hi', hiz, hzc, _⟩ := zero_run hz w
      rw [hi] at hi'
      injection hi' with hi'
      subst hi'
      have hzz : z'.cells = #[z] := by
        have : z'.cells = [z].toArray := by rw [← hzc]
        simpa using this
      have hb0 : 0 ≤ (i.bytes : Int) := by omega
      have hbytes : (i.bytes : Int) * n ≤ 281474976710656 := by rw [Int.mul_comm]; omega
      have h63 : n ≤ 9223372036854775807 := by
        have h1 : 1 ≤ (i.bytes : Int) := by omega
        have : n * 1 ≤ n * (i.bytes : Int) := Int.mul_le_mul_of_nonneg_left h1 hn0
        omega
      have hr := run_make (P := P) w t e i z' ht hi hiz .i64 .i64 n n hn0 (Int.le_refl _) hbytes h63
      rw [hsz, Nat.mul_one, hzz] at hr
      obtain ⟨φ', R', hrep, F⟩ := new_arr R hf (env := s.env) (st := s.st) (nx := s.nx) rfl (sz := 1) (n := n.toNat) (by omega) (f := fun _ _ => (AV.raw z).nrm) (vs := madeCells #[z] n.toNat) (by simp [size_madeCells])
          (fun j c h1 h2 => ⟨z, made_get z _ _ (by omega), hone, fr_nrm (.raw _ hone)⟩) e n.toNat (Nat.le_refl _) (by simp [size_madeCells])
      exact ⟨_, _, φ', by simp [execOp, ho, hv, ← hlc, hr], R', hrep, F⟩
    · cases hy
  · cases hy
end
theorem fold_set : ∀ (us : List Value) (j : Nat) (vs : Array Value) (off : Nat), off + j + us.length ≤ vs.size →
    ((us.zipIdx j).foldl (fun cs (p : Value × Nat) => cs.setIfInBounds (off + p.2) p.1) vs).size = vs.size ∧
    ∀ i, ((us.zipIdx j).foldl (fun cs (p : Value × Nat) => cs.setIfInBounds (off + p.2) p.1) vs)[i]? = if off + j ≤ i ∧ i < off + j + us.length then us[i - (off + j)]? else vs[i]?
  | [], j, vs, off, h => ⟨rfl, fun i => by simp only [List.zipIdx_nil, List.foldl_nil, List.length_nil]; rw [if_neg (by omega)]⟩
  | u :: us, j, vs, off, h => by
    simp only [List.length_cons] at h
    obtain ⟨h1, h2⟩ := fold_set us (j + 1) (vs.setIfInBounds (off + j) u) off (by simp; omega)
    simp only [List.zipIdx_cons, List.foldl_cons]
    refine ⟨by rw [h1]; simp, fun i => ?_⟩
    rw [h2 i]
    by_cases hi : i = off + j
    · subst hi
      rw [if_neg (by omega), if_pos ⟨by omega, by simp⟩]
      simp [show off + j < vs.size by omega]
    · by_cases hr : off + (j + 1) ≤ i ∧ i < off + (j + 1) + us.length
      · rw [if_pos hr, if_pos ⟨by omega, by simp; omega⟩]
        rw [show i - (off + j) = (i - (off + (j + 1))) + 1 from by omega]
        simp
      · rw [if_neg hr, if_neg (by simp; omega), Array.getElem?_setIfInBounds_ne (by omega)]
section
variable {P : Program} {N : Nat} {B : Nat → Prop} {fr : Name → Prop} {φ : Loc} {s : AS} {a : Act} {w : World}
theorem fill_lit (R : RelAt N B fr φ s a w) (k : Nat) : ∀ (ps : List (Nat × Operand)) (n : Nat) (ls : List (List AV)) (vs : Array Value), litv s k n ps = some ls → (n + ps.length) * k ≤ vs.size →
    ls.length = ps.length ∧ ∃ us, Instr.fill (fun i => some (i * k, k)) vs (ps.map fun p => (p.1, a.eval p.2)) = some us ∧ us.size = vs.size ∧ (∀ i, i < n * k → us[i]? = vs[i]?) ∧
      ∀ j c, j < ps.length → c < k → ∃ v, us[(n + j) * k + c]? = some v ∧ v.oneCell' = true ∧ Rep w (Excl B φ) φ ((ls.getD j []).getD c .any) v
  | [], n, ls, vs, h, hs => by
    simp only [litv, Option.some.injEq] at h
    subst h
    exact ⟨rfl, vs, rfl, rfl, fun i _ => rfl, fun j c h => by simp at h⟩
  | (i, x) :: ps, n, ls, vs, h, hs => by
    simp only [litv] at h
    split at h
    · rename_i c l hi hx hl
      split at h
      · rename_i hc
        injection h with h
        subst h
        simp only [Bool.and_eq_true] at hc
        have hk : c.cells.length = k := Nat.eq_of_beq_eq_true hc.1
        have hin : i = n := Nat.eq_of_beq_eq_true hi
        subst hin
        obtain ⟨h1, h2⟩ := rep_cells (R.opd hx) hc.2
        have hvk : (a.eval x).cells.size = k := by omega
        have e1 : (i + (ps.length + 1)) * k = i * k + k + ps.length * k := by rw [Nat.add_mul, Nat.add_mul]; omega
        have e2 : (i + 1 + ps.length) * k = i * k + k + ps.length * k := by rw [Nat.add_mul, Nat.add_mul]; omega
        have e3 : (i + 1) * k = i * k + k := by rw [Nat.add_mul]; omega
        simp only [List.length_cons, e1] at hs
        have hlen : (a.eval x).cells.toList.length = k := by simpa using hvk
        obtain ⟨g1, g2⟩ := fold_set (a.eval x).cells.toList 0 vs (i * k) (by rw [hlen]; omega)
        obtain ⟨q1, us, q2, q3, q4, q5⟩ := fill_lit R k ps (i + 1) l _ hl (by rw [g1, e2]; omega)
        refine ⟨by simp [q1], us, ?_, by rw [q3, g1], fun m hm => ?_, fun j m hj hm => ?_⟩
        · simp only [List.map_cons, Instr.fill]
          rw [if_neg (by simp; omega)]
          rw [← q2]
          congr 1
          rw [← Array.foldl_toList]
          simp
        · rw [q4 m (by rw [e3]; omega), g2 m, if_neg (by omega)]
        · cases j with
          | zero =>
            have hb : i * k + m < i * k + 0 + (a.eval x).cells.toList.length := by rw [hlen]; omega
            have hm' : m < (a.eval x).cells.size := by omega
            refine ⟨(a.eval x).cells[m], ?_, (h2 m (c.cells[m]'(by omega)) (a.eval x).cells[m] (by simp [show m < c.cells.length by omega]) (by simp [hm'])).2, ?_⟩
            · rw [Nat.add_zero, q4 (i * k + m) (by rw [e3]; omega), g2, if_pos ⟨by omega, by omega⟩]
              rw [show i * k + m - (i * k + 0) = m from by omega]
              simp [hm']
            · have hm2 : m < c.cells.length := by omega
              have := rep_nrm (h2 m c.cells[m] (a.eval x).cells[m] (by simp [hm2]) (by simp [hm'])).1
              simpa [List.getD_eq_getElem?_getD, hm2] using this
          | succ j =>
            obtain ⟨v, hv, ho, hr⟩ := q5 j m (by simpa using hj) hm
            exact ⟨v, by rw [← hv, show i + (j + 1) = i + 1 + j from by omega], ho, by simpa [List.getD_eq_getElem?_getD] using hr⟩
      · cases h
    · cases h
theorem fr_of_rep {X : Nat → Prop} {c : AV} {v : Value} (h : Rep w X φ c v) (hn : c.names = []) : Fr w X c v := by
  have lists : ∀ {cs : List AV}, namesL cs = [] → ∀ (i : Nat) (c : AV), cs[i]? = some c → c.names = [] := by
    intro cs
    induction cs with
    | nil => intro _ i c h; cases h
    | cons d r ih =>
      intro h i c hc
      simp only [namesL, List.append_eq_nil_iff] at h
      cases i with
      | zero => simp at hc; subst hc; exact h.1
      | succ i => exact ih h.2 i c (by simpa using hc)
  induction h with
  | fr c v h => exact h
  | agg cs vs hl h ih => exact .agg cs vs hl fun i c v h1 h2 => ih i c v h1 h2 (lists (by simpa [AV.names] using hn) i c h1)
  | tup cs vs hl h ih => exact .tup cs vs hl fun i c v h1 h2 => ih i c v h1 h2 (lists (by simpa [AV.names] using hn) i c h1)
  | fn f first cap vs us hl hl' h h' ih ih' =>
    simp only [AV.names, List.append_eq_nil_iff] at hn
    exact .fn f first cap vs us hl hl' (fun i c v h1 h2 => ih i c v h1 h2 (lists hn.1 i c h1)) fun i c v h1 h2 => ih' i c v h1 h2 (lists hn.2 i c h1)
  | _ => simp [AV.names] at hn
theorem namesL_get : ∀ {cs : List AV}, namesL cs = [] → ∀ (i : Nat), (cs.getD i .any).names = []
  | [], _, i => rfl
  | d :: r, h, i => by
    simp only [namesL, List.append_eq_nil_iff] at h
    cases i with
    | zero => exact h.1
    | succ i => simpa using namesL_get h.2 i
theorem namesL_append (a b : List AV) : namesL (a ++ b) = namesL a ++ namesL b := by
  induction a with
  | nil => rfl
  | cons d r ih => simp [namesL, ih]
theorem namesL_flat : ∀ {ls : List (List AV)}, namesL ls.flatten = [] → ∀ (j : Nat), namesL (ls.getD j []) = []
  | [], _, j => rfl
  | d :: r, h, j => by
    simp only [List.flatten_cons, namesL_append, List.append_eq_nil_iff] at h
    cases j with
    | zero => exact h.1
    | succ j => simpa using namesL_flat h.2 j
theorem yv_lit {o : Oper} {t e : TypeId} {len : Nat} {ps : Array (Nat × Operand)} (ho : o.op = .buildSlice t len ps) (ht : P.underlying t = some (.slice e)) {k : Nat} (hk : tSize P e = some k) {zs : List Value} (hz : tZero P e = some zs) (hzk : zs.length = k) (hcap : len * k ≤ 16777216) (hk0 : 0 < k)
    {nm : Name} (hf : fr nm) {pre : Option Prop} {c : AV} {new : Option Blk} (hy : yv s nm (.lit 0 k len ps.toList) = some (pre, c, new)) (R : RelAt N B fr φ s a w) : Comes0 P N B fr φ s a w o nm c new := by
  simp only [yv] at hy
  split at hy
  · rename_i ls hls
    split at hy
    · rename_i hc
      injection hy with hy; injection hy with h1 h2; injection h2 with h2 h3
      subst h2; subst h3
      simp only [Bool.and_eq_true, List.isEmpty_iff] at hc
      have hlen : ls.length = len := Nat.eq_of_beq_eq_true hc.1
      obtain ⟨z, i, hi, hiz, hzc, hzr⟩ := zero_run hz w
      have hzz : z.cells = zs.toArray := by rw [← hzc]
      obtain ⟨q1, us, q2, q3, q4, q5⟩ := fill_lit R k ps.toList 0 ls ((Array.range (len * k)).map (zs.toArray[· % zs.toArray.size]!)) hls (by simp; rw [← hlen, (fill_lit R k ps.toList 0 ls (Array.replicate (ps.size * k) undef) hls (by simp)).1]; simp)
      have hps : ps.toList.length = len := by rw [← q1]; exact hlen
      have hsz : us.size = len * k := by rw [q3]; simp
      obtain ⟨φ', R', hrep, F⟩ := new_arr R hf (env := s.env) (st := s.st) (nx := s.nx) rfl (sz := k) (n := len) hk0 (f := fun j i => (ls.getD j []).getD i .any) (vs := us) (by omega)
        (fun j c h1 h2 => by
          obtain ⟨v, hv, hone, hr⟩ := q5 j c (by omega) h2
          exact ⟨v, by rw [← hv, Nat.zero_add], hone, fr_of_rep hr (namesL_get (namesL_flat hc.2 j) c)⟩) e len (Nat.le_refl _) (by omega)
      refine ⟨_, _, φ', ?_, R', hrep, F⟩
      have hrun : (Instr.buildSlice t len (ps.map fun (i, x) => (i, a.eval x))).run P w = .ok (.slice (some ⟨w.heap.size, 0, none⟩) len len) (w.alloc (.cells us e)) := by
        have hq2 : Instr.fill (fun i => some (i * k, k)) ((Array.range (len * k)).map (zs.toArray[· % zs.toArray.size]!)) (ps.map fun (i, x) => (i, a.eval x)).toList = some us := by
          rw [← q2]; simp
        unfold Instr.buildSlice
        simp only [Sem.run_bind, run_underlying ht, Result.andThen_ok, tSize_run hk]
        rw [if_neg (by omega)]
        by_cases h0 : len * k = 0
        · have hr0 : (Array.range (len * k)).map (zs.toArray[· % zs.toArray.size]!) = (Array.range (len * k)).map ((#[] : Array Value)[· % (#[] : Array Value).size]!) := by
            rw [h0]; simp [Array.range_zero']
          rw [hr0] at hq2
          simp only [if_pos h0, Sem.run_bind, Sem.run_pure, Result.andThen_ok, hq2, newRow, run_newObj]
          simp
        · rw [← hzz] at hq2
          simp only [if_neg h0, Sem.run_bind, hzr, Sem.run_pure, Result.andThen_ok, hq2, newRow, run_newObj]
          simp
      simp [execOp, ho, hrun]
    · cases hy
  · cases hy
end
section
variable {P : Program} {ty : TypeId} {N : Nat} {B : Nat → Prop} {fr : Name → Prop} {φ : Loc} {s : AS} {a : Act} {w : World}
theorem sb_none_some (n cap : Nat) (h : Int) (h0 : 0 ≤ h) (h1 : h ≤ cap) : (Instr.sliceBounds true n cap none (some (.int .i64 h)) none).run P w = .ok (0, h.toNat, cap) w := by
  simp [Instr.sliceBounds, Instr.sliceBound, asIntOf, h0, h1]
theorem sb_some_none (n cap : Nat) (l : Int) (h0 : 0 ≤ l) (h1 : l ≤ n) : (Instr.sliceBounds true n cap (some (.int .i64 l)) none none).run P w = .ok (l.toNat, n, cap) w := by
  simp [Instr.sliceBounds, Instr.sliceBound, asIntOf, h0, h1]
theorem yv_slc {o : Oper} {t e : TypeId} {x : Operand} {lo hi : Option Operand} (ho : o.op = .slice t x lo hi none) (ht : P.underlying t = some (.slice e)) {k : Nat} (hk : tSize P e = some k) {nm : Name} {pre : Option Prop} {c : AV} {new : Option Blk}
    (hy : yv s nm (.slc k x lo hi) = some (pre, c, new)) (hp : ∀ p, pre = some p → p) (R : RelAt N B fr φ s a w) : Comes1 P B φ a w o c new := by
  have hat : ∀ w v lo' hi', (Instr.sliceAt t v lo' hi' none).run P w = (Instr.slice t v lo' hi' none).run P w := fun w v lo' hi' => by
    unfold Instr.sliceAt
    simp only [Sem.run_bind, run_underlying ht, Result.andThen_ok]
  simp only [yv] at hy
  split at hy <;> first | (cases hy; done) | skip
  · rename_i sz' n f h hx hlo hhi
    cases lo with
    | some lo => simp at hlo
    | none =>
      cases hi with
      | none => cases hhi
      | some hi =>
        simp only [Option.map_some, Option.some.injEq] at hhi
        split at hy
        · rename_i hsz
          injection hy with hy; injection hy with h1 h2; injection h2 with h2 h3
          subst h1; subst h2; subst h3
          obtain ⟨h0, hn⟩ := hp _ rfl
          have hsz : k = sz' := Nat.eq_of_beq_eq_true hsz
          subst hsz
          have hv := (rep_raw (R.opd hhi)).1
          have hF := rep_fro (R.opd hx)
          cases hF' : a.eval x with
          | slice ad len cap =>
            rw [hF'] at hF
            cases hF with
            | fro _ _ _ ad cap g hs hxx hlt hc hr hg1 hf =>
              refine .same (v := .slice (some (if cap = 0 then ad else ad.add (0 * k))) h.toNat cap) ?_ ?_
              · intro w'
                simp only [execOp, ho, Option.map_some, Option.map_none, hv, hF']
                simp only [Sem.run_bind, hat, Instr.slice, run_underlying ht, Result.andThen_ok, sb_none_some n cap h h0 (by omega), tSize_run hk]
                split <;> simp
              · have he : (if cap = 0 then ad else ad.add (0 * k)) = ad := by
                  split
                  · rfl
                  · simp [Addr.add]
                rw [he]
                exact .fr _ _ (.fro _ _ _ ad cap g hs hxx hlt (by omega) (fun j c h1 h2 => hr j c (by omega) h2) (fun j c h1 h2 => hg1 j c (by omega) h2) fun j c h1 h2 => hf j c (by omega) h2)
            | froNil _ _ =>
              have hh : h = 0 := by omega
              subst hh
              refine .same (v := .slice none 0 0) ?_ (.fr _ _ (.froNil _ _))
              intro w'
              simp only [execOp, ho, Option.map_some, Option.map_none, hv, hF']
              simp only [Sem.run_bind, hat, Instr.slice, run_underlying ht, Result.andThen_ok, sb_none_some 0 0 0 (by omega) (by omega), tSize_run hk]
              simp
            | froZero _ _ ad cap =>
              have hh : h = 0 := by omega
              subst hh
              refine .same (v := .slice (some (if cap = 0 then ad else ad.add (0 * k))) 0 cap) ?_ (.fr _ _ (.froZero _ _ _ _))
              intro w'
              simp only [execOp, ho, Option.map_some, Option.map_none, hv, hF']
              simp only [Sem.run_bind, hat, Instr.slice, run_underlying ht, Result.andThen_ok, sb_none_some 0 cap 0 (by omega) (by omega), tSize_run hk]
              split <;> simp
          | _ => rw [hF'] at hF; cases hF
        · cases hy
  · rename_i sz' n f l hx hlo hhi
    cases hi with
    | some hi => simp at hhi
    | none =>
      cases lo with
      | none => cases hlo
      | some lo =>
        simp only [Option.map_some, Option.some.injEq] at hlo
        split at hy
        · rename_i hsz
          injection hy with hy; injection hy with h1 h2; injection h2 with h2 h3
          subst h1; subst h2; subst h3
          obtain ⟨h0, hn⟩ := hp _ rfl
          have hsz : k = sz' := Nat.eq_of_beq_eq_true hsz
          subst hsz
          have hv := (rep_raw (R.opd hlo)).1
          have hF := rep_fro (R.opd hx)
          cases hF' : a.eval x with
          | slice ad len cap =>
            rw [hF'] at hF
            cases hF with
            | fro _ _ _ ad cap g hs hxx hlt hc hr hg1 hf =>
              refine .same (v := .slice (some (if cap = l.toNat then ad else ad.add (l.toNat * k))) (n - l.toNat) (cap - l.toNat)) ?_ ?_
              · intro w'
                simp only [execOp, ho, Option.map_some, Option.map_none, hv, hF']
                simp only [Sem.run_bind, hat, Instr.slice, run_underlying ht, Result.andThen_ok, sb_some_none n cap l h0 (by omega), tSize_run hk]
                split <;> simp
              · by_cases hcl : cap = l.toNat
                · rw [if_pos hcl]
                  exact .fr _ _ (.fro _ _ _ ad _ (fun j c => g (j + l.toNat) c) hs hxx hlt (by omega) (fun j c h1 h2 => by omega) (fun j c h1 h2 => by omega) fun j c h1 h2 => by omega)
                · rw [if_neg hcl, addr_add _ hs]
                  refine .fr _ _ (.fro _ _ _ ⟨ad.block, ad.off + l.toNat * k, none⟩ _ (fun j c => g (j + l.toNat) c) rfl hxx hlt (by omega) (fun j c h1 h2 => ?_) (fun j c h1 h2 => hg1 (j + l.toNat) c (by omega) h2) fun j c h1 h2 => hf (j + l.toNat) c (by omega) h2)
                  rw [← hr (j + l.toNat) c (by omega) h2, Nat.add_mul, show ad.off + l.toNat * k + (j * k + c) = ad.off + (j * k + l.toNat * k + c) from by omega]
            | froNil _ _ =>
              have hh : l = 0 := by omega
              subst hh
              refine .same (v := .slice none 0 0) ?_ (.fr _ _ (by simpa using Fr.froNil k _))
              intro w'
              simp only [execOp, ho, Option.map_some, Option.map_none, hv, hF']
              simp only [Sem.run_bind, hat, Instr.slice, run_underlying ht, Result.andThen_ok, sb_some_none 0 0 0 (by omega) (by omega), tSize_run hk]
              simp
            | froZero _ _ ad cap =>
              have hh : l = 0 := by omega
              subst hh
              refine .same (v := .slice (some (if cap = (0 : Int).toNat then ad else ad.add ((0 : Int).toNat * k))) (0 - (0 : Int).toNat) (cap - (0 : Int).toNat)) ?_ (.fr _ _ (Fr.froZero k _ _ cap))
              intro w'
              simp only [execOp, ho, Option.map_some, Option.map_none, hv, hF']
              simp only [Sem.run_bind, hat, Instr.slice, run_underlying ht, Result.andThen_ok, sb_some_none 0 cap 0 (by omega) (by omega), tSize_run hk]
              split <;> simp
          | _ => rw [hF'] at hF; cases hF
        · cases hy
  · rename_i y sz' n h hx hlo hhi
    cases lo with
    | some lo => simp at hlo
    | none =>
      cases hi with
      | none => cases hhi
      | some hi =>
        simp only [Option.map_some, Option.some.injEq] at hhi
        split at hy
        · rename_i hsz
          injection hy with hy; injection hy with h1 h2; injection h2 with h2 h3
          subst h1; subst h2; subst h3
          obtain ⟨h0, hn⟩ := hp _ rfl
          have hsz : k = sz' := Nat.eq_of_beq_eq_true hsz
          subst hsz
          have hv := (rep_raw (R.opd hhi)).1
          rcases rep_own (R.opd hx) with ⟨cap, b, cs, e', z, hb, hh, hc, hz, hF'⟩ | ⟨hb, _, hn0, hF'⟩
          · refine .same (v := .slice (some ⟨b, 0 * k, none⟩) h.toNat cap) ?_ (.own y k 0 h.toNat cap b cs e' z hb hh (by omega) hz)
            intro w'
            simp only [execOp, ho, Option.map_some, Option.map_none, hv, hF']
            simp only [Sem.run_bind, hat, Instr.slice, run_underlying ht, Result.andThen_ok, sb_none_some n cap h h0 (by omega), tSize_run hk]
            split <;> simp [Addr.add]
          · subst hn0
            have hh : h = 0 := by omega
            subst hh
            refine .same (v := .slice none 0 0) ?_ (.ownNil y k hb)
            intro w'
            simp only [execOp, ho, Option.map_some, Option.map_none, hv, hF']
            simp only [Sem.run_bind, hat, Instr.slice, run_underlying ht, Result.andThen_ok, sb_none_some 0 0 0 (by omega) (by omega), tSize_run hk]
            simp
        · cases hy
theorem fieldAt_run {t : TypeId} {fs : Array Field} (ht : P.underlying t = some (.struct fs)) {i : Nat} {f : Field} (hf : fs[i]? = some f) {k : Nat} (hk : tSize P f.type = some (k + 1)) (ad : Addr) (hs : ad.spot = none) :
    (Instr.fieldAt t (.pointer (some ad)) i).run P w = .ok (.pointer (some ⟨ad.block, ad.off + f.offset, none⟩)) w := by
  unfold Instr.fieldAt
  simp only [Sem.run_bind, run_underlying ht, Result.andThen_ok, hf, sureAddr_run, fieldPlace, tSize_run hk]
  simp [addr_add _ hs]
theorem yv_fad {o : Oper} {t : TypeId} {x : Operand} {i : Nat} (ho : o.op = .fieldAddr t x i) {fs : Array Field} (ht : P.underlying t = some (.struct fs)) {f : Field} (hf : fs[i]? = some f) {k : Nat} (hk : tSize P f.type = some (k + 1))
    {nm : Name} {pre : Option Prop} {c : AV} {new : Option Blk} (hy : yv s nm (.fad f.offset x) = some (pre, c, new)) (R : RelAt N B fr φ s a w) : Comes1 P B φ a w o c new := by
  have hrun : ∀ ad, ad.spot = none → a.eval x = .pointer (some ad) → ∀ w, (execOp a.eval o).run P w = .ok (.value (.pointer (some ⟨ad.block, ad.off + f.offset, none⟩))) w := fun ad hs h w => by
    simp [execOp, ho, h, fieldAt_run ht hf hk ad hs]
  simp only [yv] at hy
  split at hy <;> first | (cases hy; done) | skip
  · rename_i m g hx
    split at hy
    · rename_i hm
      injection hy with hy; injection hy with h1 h2; injection h2 with h2 h3
      subst h2; subst h3
      obtain ⟨ad, g', hv, hs, hxx, hlt, hr, hg⟩ := rep_fpt (R.opd hx)
      have hm : f.offset < m := Nat.le_of_ble_eq_true hm
      refine .same (hrun ad hs hv) (.fr _ _ (.fpt _ _ ⟨ad.block, ad.off + f.offset, none⟩ (fun c => g' (c + f.offset)) rfl hxx hlt (fun c hc => ?_) fun c hc => hg (c + f.offset) (by omega)))
      rw [← hr (c + f.offset) (by omega), show ad.off + f.offset + c = ad.off + (c + f.offset) from by omega]
    · cases hy
  · rename_i y off hx
    injection hy with hy; injection hy with h1 h2; injection h2 with h2 h3
    subst h2; subst h3
    obtain ⟨b, hb, hv⟩ := rep_ptr (R.opd hx)
    exact .same (hrun _ rfl hv) (.ptr _ _ _ hb)
  · rename_i y sz j c' hx
    injection hy with hy; injection hy with h1 h2; injection h2 with h2 h3
    subst h2; subst h3
    obtain ⟨b, hb, hv⟩ := rep_elt (R.opd hx)
    refine .same (hrun _ rfl hv) ?_
    have := Rep.elt (w := w) (X := Excl B φ) y sz j (c' + f.offset) b hb
    rwa [← Nat.add_assoc] at this
theorem part_run {t : TypeId} {agg : Bool} {k : Nat} (hg : tAgg P t = some agg) (hk : tSize P t = some k) {X : Nat → Prop} {cs : List AV} {vs : List Value} (hl : cs.length = vs.length) (h : ∀ (i : Nat) (c : AV) (v : Value), cs[i]? = some c → vs[i]? = some v → Rep w X φ c v) {off : Nat} (ho : off + k ≤ cs.length) {c : AV}
    (hc : loadv agg k (fun i => cs.getD (i + off) .any) = some c) : ∃ v, (∀ w', (part t vs.toArray off).run P w' = .ok v w') ∧ Rep w X φ c v := by
  unfold part
  simp only [Sem.run_bind, tAgg_run hg, Result.andThen_ok]
  unfold loadv at hc
  have get : ∀ i, i < k → ∃ v, vs[off + i]? = some v ∧ Rep w X φ (cs.getD (i + off) .any) v := fun i hi => by
    have h1 : off + i < vs.length := by omega
    refine ⟨vs[off + i], by simp [h1], h (i + off) _ _ (by simp [List.getD_eq_getElem?_getD, show i + off < cs.length by omega]) (by rw [show i + off = off + i from by omega]; simp [h1])⟩
  cases agg with
  | true =>
    simp only [Option.some.injEq] at hc
    subst hc
    refine ⟨.agg (vs.toArray.extract off (off + k)), fun w' => by simp [tSize_run hk], ?_⟩
    have e : vs.toArray.extract off (off + k) = ((vs.drop off).take k).toArray := by
      apply Array.ext'
      simp [List.extract_eq_take_drop]
    rw [e]
    refine .agg _ _ (by simp [cellsAt_len]; omega) fun i c v h1 h2 => ?_
    obtain ⟨h3, rfl⟩ := cellsAt_get _ k 0 i c h1
    obtain ⟨v', hv', hr⟩ := get i h3
    have : ((vs.drop off).take k)[i]? = vs[off + i]? := by
      rw [List.getElem?_take]
      simp [h3]
    rw [this, hv'] at h2
    injection h2 with h2
    subst h2
    simpa using hr
  | false =>
    cases hk1 : Nat.beq k 1 with
    | false => rw [hk1] at hc; cases hc
    | true =>
      rw [hk1] at hc
      have hk1 : k = 1 := Nat.eq_of_beq_eq_true hk1
      subst hk1
      simp only [Option.some.injEq] at hc
      subst hc
      obtain ⟨v, hv, hr⟩ := get 0 (by omega)
      simp only [Nat.add_zero] at hv
      exact ⟨v, fun w' => by simp [hv], hr⟩
theorem yv_fld {o : Oper} {t : TypeId} {x : Operand} {i : Nat} (ho : o.op = .field t x i) {fs : Array Field} (ht : P.underlying t = some (.struct fs)) {f : Field} (hf : fs[i]? = some f) {agg : Bool} {k : Nat} (hg : tAgg P f.type = some agg) (hk : tSize P f.type = some k)
    {nm : Name} {pre : Option Prop} {c : AV} {new : Option Blk} (hy : yv s nm (.fld agg f.offset k x) = some (pre, c, new)) (R : RelAt N B fr φ s a w) : Comes1 P B φ a w o c new := by
  simp only [yv] at hy
  split at hy
  · rename_i cs hx
    split at hy
    · rename_i hle
      split at hy
      · rename_i c' hc
        injection hy with hy; injection hy with h1 h2; injection h2 with h2 h3
        subst h2; subst h3
        obtain ⟨vs, hv, hl, hh⟩ := rep_agg (R.opd hx)
        obtain ⟨v, hr, hrep⟩ := part_run (P := P) hg hk hl hh (Nat.le_of_ble_eq_true hle) hc
        refine .same (v := v) ?_ hrep
        intro w'
        simp [execOp, ho, hv, Instr.field, run_underlying ht, hf, asAgg, hr w']
      · cases hy
    · cases hy
  · cases hy
theorem indexAt_run {t e : TypeId} (ht : P.underlying t = some (.slice e)) {k : Nat} (hk : tSize P e = some k) (ad : Addr) (hs : ad.spot = none) (n cap : Nat) (i : Int) (h0 : 0 ≤ i) (h1 : i < n) :
    (Instr.indexAt t (.slice (some ad) n cap) (.int .i64 i)).run P w = .ok (.pointer (some ⟨ad.block, ad.off + i.toNat * k, none⟩)) w := by
  unfold Instr.indexAt
  simp only [Sem.run_bind, asIntOf, Sem.run_pure, run_underlying ht, Result.andThen_ok, tSize_run hk]
  simp [h0, h1, tSize_run hk, addr_add _ hs]
theorem yv_idx {o : Oper} {t e : TypeId} {x i : Operand} (ho : o.op = .indexAddr t x i) (ht : P.underlying t = some (.slice e)) {k : Nat} (hk : tSize P e = some k)
    {nm : Name} {pre : Option Prop} {c : AV} {new : Option Blk} (hy : yv s nm (.idx k x i) = some (pre, c, new)) (hp : ∀ p, pre = some p → p) (R : RelAt N B fr φ s a w) : Comes1 P B φ a w o c new := by
  have hrun : ∀ ad n cap j, ad.spot = none → a.eval x = .slice (some ad) n cap → a.eval i = .int .i64 j → 0 ≤ j → j < (n : Int) → ∀ w, (execOp a.eval o).run P w = .ok (.value (.pointer (some ⟨ad.block, ad.off + j.toNat * k, none⟩))) w := fun ad n cap j hs h h' h0 h1 w => by
    simp [execOp, ho, h, h', indexAt_run ht hk ad hs n cap j h0 h1]
  simp only [yv] at hy
  split at hy <;> first | (cases hy; done) | skip
  · rename_i sz' n f j hx hi
    obtain ⟨d, hd, hi⟩ := Option.bind_eq_some_iff.1 hi
    split at hy
    · rename_i hsz
      injection hy with hy; injection hy with h1 h2; injection h2 with h2 h3
      subst h1; subst h2; subst h3
      obtain ⟨h0, hn⟩ := hp _ rfl
      have hsz : k = sz' := Nat.eq_of_beq_eq_true hsz
      subst hsz
      have hv := rep_i64 (R.opd hd) hi
      have hF := rep_fro (R.opd hx)
      cases hF' : a.eval x with
      | slice ad len cap =>
        rw [hF'] at hF
        cases hF with
        | fro _ _ _ ad cap g hs hxx hlt hc hr hg1 hf =>
          refine .same (hrun ad n cap j hs hF' hv h0 hn) (.fr _ _ (.fpt _ _ ⟨ad.block, ad.off + j.toNat * k, none⟩ (g j.toNat) rfl hxx hlt (fun c hc => ?_) fun c hc => hf j.toNat c (by omega) hc))
          rw [← hr j.toNat c (by omega) hc, Nat.add_assoc]
        | froNil _ _ => exfalso; omega
        | froZero _ _ _ _ => exfalso; omega
      | _ => rw [hF'] at hF; cases hF
    · cases hy
  · rename_i y sz' off n j hx hi
    obtain ⟨d, hd, hi⟩ := Option.bind_eq_some_iff.1 hi
    split at hy
    · rename_i hsz
      injection hy with hy; injection hy with h1 h2; injection h2 with h2 h3
      subst h1; subst h2; subst h3
      obtain ⟨h0, hn⟩ := hp _ rfl
      have hsz : k = sz' := Nat.eq_of_beq_eq_true hsz
      subst hsz
      have hv := rep_i64 (R.opd hd) hi
      rcases rep_own (R.opd hx) with ⟨cap, b, cs, e', z, hb, hh, hc, hz, hF'⟩ | ⟨hb, _, hn0, hF'⟩
      · refine .same (hrun _ n cap j rfl hF' hv h0 hn) ?_
        have := Rep.elt (w := w) (X := Excl B φ) y k (j.toNat + off) 0 b hb
        rwa [show (j.toNat + off) * k + 0 = off * k + j.toNat * k from by rw [Nat.add_mul]; omega] at this
      · exfalso; omega
    · cases hy
  · rename_i y j' n j hx hi
    obtain ⟨d, hd, hi⟩ := Option.bind_eq_some_iff.1 hi
    split at hy
    · rename_i hsz
      injection hy with hy; injection hy with h1 h2; injection h2 with h2 h3
      subst h1; subst h2; subst h3
      obtain ⟨h0, hn⟩ := hp _ rfl
      have hsz : k = 1 := Nat.eq_of_beq_eq_true hsz
      subst hsz
      have hv := rep_i64 (R.opd hd) hi
      rcases rep_row (R.opd hx) with ⟨cap, b, cs, e', z, hb, hh, hc, hz, hF'⟩ | ⟨hb, hn0, hF'⟩
      · refine .same (hrun _ n cap j rfl hF' hv h0 hn) ?_
        have := Rep.relt (w := w) (X := Excl B φ) y j' j.toNat b hb
        simpa using this
      · exfalso; omega
    · cases hy
theorem yv_six {o : Oper} {t : TypeId} {x i : Operand} (ho : o.op = .index t x i) (ht : P.underlying t = some .string) {nm : Name} {pre : Option Prop} {c : AV} {new : Option Blk} (hy : yv s nm (.six x i) = some (pre, c, new)) (hp : ∀ p, pre = some p → p) (R : RelAt N B fr φ s a w) : Comes1 P B φ a w o c new := by
  simp only [yv] at hy
  split at hy
  · rename_i str j hx hi
    obtain ⟨d, hd, hi⟩ := Option.bind_eq_some_iff.1 hi
    injection hy with hy; injection hy with h1 h2; injection h2 with h2 h3
    subst h1; subst h2; subst h3
    obtain ⟨h0, hn⟩ := hp _ rfl
    have hv := rep_i64 (R.opd hd) hi
    have hx' := (rep_raw (R.opd hx)).1
    have hlt : j.toNat < str.size := by omega
    have hlt' : j.toNat < str.data.size := hlt
    refine .same (v := .int .u8 (str.data.getD j.toNat 0).toNat) (fun w' => ?_) (.fr _ _ (.raw _ rfl))
    have hget : str[j.toNat]? = some (str.data.getD j.toNat 0) := by
      rw [getElem?_pos str j.toNat hlt]
      congr 1
      simp only [Array.getD, hlt', dif_pos]
      rfl
    simp [execOp, ho, hx', hv, Instr.index, asIntOf, run_underlying ht, h0, hget]
  · cases hy
theorem yv_ext {o : Oper} {x : Operand} {i : Nat} (ho : o.op = .extract x i) {nm : Name} {pre : Option Prop} {c : AV} {new : Option Blk} (hy : yv s nm (.ext x i) = some (pre, c, new)) (R : RelAt N B fr φ s a w) : Comes1 P B φ a w o c new := by
  simp only [yv] at hy
  split at hy
  · rename_i cs hx
    obtain ⟨d, hd, he⟩ := Option.map_eq_some_iff.1 hy
    injection he with h1 h2; injection h2 with h2 h3
    subst h2; subst h3
    obtain ⟨vs, hv, hl, hh⟩ := rep_tup (R.opd hx)
    have hlt : i < vs.length := by rw [← hl]; exact (List.getElem?_eq_some_iff.1 hd).1
    refine .same (v := vs[i]) ?_ (hh i d _ hd (by simp [hlt]))
    intro w'
    simp [execOp, ho, hv, Instr.extract, hlt]
  · cases hy
theorem len_run {x : Value} {t : TypeId} (n : Nat) (h : (∃ b, x = .string b ∧ n = b.size ∧ P.underlying t = some .string) ∨ ∃ q k e, x = .slice q n k ∧ P.underlying t = some (.slice e)) : (Builtin.len_ #[t] ty #[x]).run P w = .ok (goInt n) w := by
  rcases h with ⟨b, rfl, rfl, ht⟩ | ⟨q, k, e, rfl, ht⟩ <;> simp [Builtin.len_, run_underlying ht]
theorem yv_len {o : Oper} {x : Operand} {t : TypeId} (ho : o.op = .call { callee := .builtin .len, args := #[x], argTypes := #[t] }) {kd : Nat} (ht : (kd = 0 → P.underlying t = some .string) ∧ (kd = 1 → ∃ e, P.underlying t = some (.slice e))) {nm : Name} {pre : Option Prop} {c : AV} {new : Option Blk}
    (hy : yv s nm (.len kd x) = some (pre, c, new)) (R : RelAt N B fr φ s a w) : Comes1 P B φ a w o c new := by
  have hrun : ∀ n : Nat, ((∃ b, a.eval x = .string b ∧ n = b.size ∧ P.underlying t = some .string) ∨ ∃ q k e, a.eval x = .slice q n k ∧ P.underlying t = some (.slice e)) → ∀ w', (execOp a.eval o).run P w' = .ok (.value (.int .i64 n)) w' := fun n h w' => by
    simp [execOp, ho, resolve, invoke, builtin, len_run (P := P) (ty := o.type) n h, goInt]
  simp only [yv] at hy
  split at hy <;> first | (cases hy; done) | skip
  all_goals
    rename_i hx
    injection hy with hy; injection hy with h1 h2; injection h2 with h2 h3
    subst h2; subst h3
  · obtain ⟨e, he⟩ := ht.2 rfl
    have hF := rep_fro (R.opd hx)
    cases hF' : a.eval x with
    | slice ad len cap =>
      rw [hF'] at hF
      cases hF with
      | fro _ _ _ ad cap g hs hxx hlt hc hr hg1 hf => exact .same (hrun _ (.inr ⟨_, _, e, hF', he⟩)) (.fr _ _ (.raw _ rfl))
      | froNil _ _ => exact .same (hrun _ (.inr ⟨_, _, e, hF', he⟩)) (.fr _ _ (.raw _ rfl))
      | froZero _ _ _ _ => exact .same (hrun _ (.inr ⟨_, _, e, hF', he⟩)) (.fr _ _ (.raw _ rfl))
    | _ => rw [hF'] at hF; cases hF
  · obtain ⟨e, he⟩ := ht.2 rfl
    rcases rep_own (R.opd hx) with ⟨cap, b, cs, e', z, hb, hh, hc, hz, hF'⟩ | ⟨hb, _, hn0, hF'⟩
    · exact .same (hrun _ (.inr ⟨_, _, e, hF', he⟩)) (.fr _ _ (.raw _ rfl))
    · subst hn0; exact .same (hrun _ (.inr ⟨_, _, e, hF', he⟩)) (.fr _ _ (.raw _ rfl))
  · obtain ⟨e, he⟩ := ht.2 rfl
    rcases rep_row (R.opd hx) with ⟨cap, b, cs, e', z, hb, hh, hc, hz, hF'⟩ | ⟨hb, hn0, hF'⟩
    · exact .same (hrun _ (.inr ⟨_, _, e, hF', he⟩)) (.fr _ _ (.raw _ rfl))
    · subst hn0; exact .same (hrun _ (.inr ⟨_, _, e, hF', he⟩)) (.fr _ _ (.raw _ rfl))
  · exact .same (hrun _ (.inl ⟨_, (rep_raw (R.opd hx)).1, rfl, ht.1 rfl⟩)) (.fr _ _ (.raw _ rfl))
  · obtain ⟨e, he⟩ := ht.2 rfl
    exact .same (hrun 0 (.inr ⟨_, _, e, (rep_raw (R.opd hx)).1, he⟩)) (.fr _ _ (.raw _ rfl))
end
section
variable {P : Program} {ty : TypeId} {N : Nat} {B : Nat → Prop} {fr : Name → Prop} {φ : Loc} {s : AS} {a : Act} {w : World}
/-- One of our blocks is written. -/
theorem RelAt.write {env : List (Nat × AV)} {st : List (Name × Blk)} {nx : Nat} (R : RelAt N B fr φ ⟨env, st, nx⟩ a w) {x : Name} {i : Nat} {b : Nat} (hb : φ x i = some (some b)) {w' : World} (hs : w'.heap.size = w.heap.size) (hother : ∀ c, c ≠ b → w'.heap[c]? = w.heap[c]?)
    (hcells : ∀ cs e z, w.heap[b]? = some (.cells cs e z) → ∃ cs' e' z', w'.heap[b]? = some (.cells cs' e' z') ∧ cs.size ≤ cs'.size) (ho : w'.os = w.os) (ht : w'.tape = w.tape) (hu : w'.output = w.output) {bl : Blk}
    (hbl : (∀ {c : AV} {v : Value}, Rep w (Excl B φ) φ c v → Rep w' (Excl B φ) φ c v) → (∀ {c : AV} {v : Value}, Fr w (Excl B φ) c v → Fr w' (Excl B φ) c v) → BlkAt w' (Excl B φ) φ x bl) :
    RelAt N B fr φ ⟨env, upd st x bl, nx⟩ a w' ∧ Fwd φ w φ w' (OneW x i) := by
  have k : Keeps w (Excl B φ) φ w' (Excl B φ) φ := ⟨fun c _ hn => hother c fun e => hn (e ▸ .inr ⟨x, i, hb⟩), by omega, fun c h => .inl h⟩
  have hcl : ∀ y, φ y = φ y ∧ ∀ j c cs e z, φ y j = some (some c) → w.heap[c]? = some (.cells cs e z) → ∃ cs' e' z', w'.heap[c]? = some (.cells cs' e' z') ∧ cs.size ≤ cs'.size := fun y => ⟨rfl, fun j c cs e z h1 h2 => by
    by_cases hc : c = b
    · subst hc; exact hcells cs e z h2
    · exact ⟨cs, e, z, (hother c hc).trans h2, Nat.le_refl _⟩⟩
  have hrep : ∀ {c : AV} {v : Value}, Rep w (Excl B φ) φ c v → Rep w' (Excl B φ) φ c v := fun h => k.rep (fun y _ => hcl y) h
  refine ⟨{ size := R.size, defers := R.defers, env := fun t c h => ⟨(R.env t c h).1, hrep (R.env t c h).2⟩, st := fun y kk hk => ?_, inj := R.inj, lt := fun y j c h => by have := R.lt y j c h; exact ⟨by omega, this.2⟩, ltB := fun c h => by have := R.ltB c h; omega, free := R.free }, ⟨ho, ht, hu, by omega, fun c _ hn => hother c fun e => hn x i ⟨rfl, rfl⟩ (e ▸ hb), fun y j c h => .inl ⟨y, j, h, .inl ⟨rfl, rfl⟩⟩, fun c cs e z h2 => by
    by_cases hc : c = b
    · subst hc; exact hcells cs e z h2
    · exact ⟨cs, e, z, (hother c hc).trans h2, Nat.le_refl _⟩⟩⟩
  rcases look_upd _ _ _ _ _ hk with ⟨rfl, rfl⟩ | ⟨hne, hk⟩
  · exact hbl hrep fun h => k.fr h
  · exact k.blk ⟨rfl, fun j c h => hother c fun e => hne (R.inj y x j i b (e ▸ h) hb).1⟩ (fun z _ => hcl z) (R.st y kk hk)
theorem findNow_spec (kk : IntKind) (k : Int) : ∀ (es : List MapEntry) (n : Nat), (∀ e ∈ es, ∃ k', e.key = .int .i64 k') →
    ∃ r, Instr.findNow (.int kk) (.int .i64 k) es n = some r ∧ (r = none → ∀ e ∈ es, e.key ≠ .int .i64 k) ∧ ∀ i v, r = some (i, v) → n ≤ i ∧ ∃ e, es[i - n]? = some e ∧ e.key = .int .i64 k ∧ e.val = v
  | [], n, _ => ⟨none, rfl, (fun _ e h => by cases h), fun i v h => by cases h⟩
  | e :: es, n, h => by
    obtain ⟨k', hk'⟩ := h e (by simp)
    simp only [Instr.findNow, hk', Instr.sameNow, if_true]
    by_cases hkk : k = k'
    · subst hkk
      simp only [beq_self_eq_true]
      exact ⟨_, rfl, (fun h => by cases h), fun i v h => by injection h with h; injection h with h1 h2; subst h1; subst h2; exact ⟨Nat.le_refl _, e, by simp, hk', rfl⟩⟩
    · have : (k == k') = false := by simpa using hkk
      simp only [this]
      obtain ⟨r, h1, h2, h3⟩ := findNow_spec kk k es (n + 1) fun e' he => h e' (by simp [he])
      refine ⟨r, h1, fun hr e' he => ?_, fun i v hr => ?_⟩
      · rcases List.mem_cons.1 he with rfl | he
        · rw [hk']; intro hc; injection hc with _ hc; exact hkk hc.symm
        · exact h2 hr e' he
      · obtain ⟨h4, e', h5, h6⟩ := h3 i v hr
        refine ⟨by omega, e', ?_, h6⟩
        rw [show i - n = (i - (n + 1)) + 1 from by omega]
        simpa using h5
theorem checkKey_run (em : Bool) (d : Nat) {kt : TypeId} {kk : IntKind} (h : P.underlying kt = some (.int kk)) (v : Value) (w : World) : (Instr.checkKey em (d + 1) kt v).run P w = .ok () w := by
  unfold Instr.checkKey
  simp only [Sem.run_bind, run_underlying h, Result.andThen_ok]
  rfl
/-- A key is looked for. -/
theorem find_run {kt : TypeId} {kk : IntKind} (h : P.underlying kt = some (.int kk)) (k : Int) {mes : Array MapEntry} {clock : Nat} {T : Int → Value → Prop} (hm : MapAt mes clock T) (w : World) :
    ((∀ v, ¬ T k v) ∧ (∀ e ∈ mes.toList, e.key ≠ .int .i64 k) ∧ (Instr.findKey kt (.int .i64 k) mes.toList).run P w = .ok none w) ∨
    ∃ i e, mes[i]? = some e ∧ e.key = .int .i64 k ∧ T k e.val ∧ (Instr.findKey kt (.int .i64 k) mes.toList).run P w = .ok (some (i, e.val)) w := by
  obtain ⟨r, h1, h2, h3⟩ := findNow_spec kk k mes.toList 0 fun e he => by
    obtain ⟨i, hi⟩ := List.mem_iff_getElem?.1 he
    obtain ⟨k', hk', _⟩ := hm.key i e (by simpa using hi)
    exact ⟨k', hk'⟩
  have hrun : (Instr.findKey kt (.int .i64 k) mes.toList).run P w = .ok r w := by
    unfold Instr.findKey
    simp only [Sem.run_bind, run_underlying h, Result.andThen_ok, h1]
    rfl
  cases r with
  | none =>
    refine .inl ⟨fun v hv => ?_, h2 rfl, hrun⟩
    obtain ⟨i, e, hi, he⟩ := hm.all k v hv
    exact h2 rfl e (List.mem_of_getElem? (by simpa using hi)) he
  | some iv =>
    obtain ⟨i, v⟩ := iv
    obtain ⟨_, e, he, hk, rfl⟩ := h3 i v rfl
    have hi : mes[i]? = some e := by simpa using he
    obtain ⟨k', hk', hT⟩ := hm.key i e hi
    rw [hk] at hk'
    injection hk' with _ hk'
    subst hk'
    exact .inr ⟨i, e, hi, hk, hT, hrun⟩
theorem getObj_map {b : Nat} {mes : Array MapEntry} {clock : Nat} (h : w.heap[b]? = some (.map mes clock)) : (getObj b).run P w = .ok (.map mes clock) w := by
  show Sem.run P (.getObj b .pure) w = _
  simp only [Sem.run, h]
theorem setObj_map {b : Nat} {mes : Array MapEntry} {clock : Nat} (h : w.heap[b]? = some (.map mes clock)) (o : Obj) : (setObj b o).run P w = .ok () { w with heap := w.heap.setIfInBounds b o } := by
  show Sem.run P (.setObj b o (.pure ())) w = _
  simp only [Sem.run, h]
theorem lookup_run {t kt e : TypeId} {kk : IntKind} (ht : P.underlying t = some (.map kt e)) (hkt : P.underlying kt = some (.int kk)) {zs : Value} (hz : (zeroValue e).run P w = .ok zs w) {b : Nat} {mes : Array MapEntry} {clock : Nat} (hb : w.heap[b]? = some (.map mes clock)) {k : Int}
    {v : Value} {is : Bool} (hf : ((Instr.findKey kt (.int .i64 k) mes.toList).run P w = .ok none w ∧ v = zs ∧ is = false) ∨ ∃ i, (Instr.findKey kt (.int .i64 k) mes.toList).run P w = .ok (some (i, v)) w ∧ is = true) (ok : Bool) :
    (Instr.lookup t (.map (some b)) (.int .i64 k) ok).run P w = .ok (if ok then .tuple #[v, .bool is] else v) w := by
  have hck : (Instr.checkKey mes.isEmpty 10000 kt (.int .i64 k)).run P w = .ok () w := checkKey_run _ 9999 hkt _ w
  unfold Instr.lookup
  simp only [Sem.run_bind, run_underlying ht, Result.andThen_ok, getObj_map hb, Sem.run_pure, hck]
  rcases hf with ⟨h1, rfl, rfl⟩ | ⟨i, h1, rfl⟩
  · simp [h1, hz]
  · simp [h1]
theorem rep_pair {X : Nat → Prop} {c d : AV} {u v : Value} (h1 : Rep w X φ c u) (h2 : Rep w X φ d v) : Rep w X φ (.tup [c, d]) (.tuple #[u, v]) :=
  .tup [c, d] [u, v] rfl fun i e x h3 h4 => by
    match i with
    | 0 => simp at h3 h4; subst h3; subst h4; exact h1
    | 1 => simp at h3 h4; subst h3; subst h4; exact h2
    | i + 2 => simp at h3
theorem look_at {o : Oper} {t kt e : TypeId} {m k : Operand} {ok isB : Bool} (ho : o.op = .lookup t m k ok) (ht : P.underlying t = some (.map kt e)) (hkt : P.underlying kt = some (.int .i64)) (he : (isB = false → (P.info? e).bind (·.zero) = some (.int .i64 0)) ∧ (isB = true → (P.info? e).bind (·.zero) = some (.bool false)))
    {nm : Name} {pre : Option Prop} {c : AV} {new : Option Blk} (hy : yv s nm (.look isB m k ok) = some (pre, c, new)) (R : RelAt N B fr φ s a w) : ∃ x b, opd s m = some (.mp x) ∧ φ x 0 = some (some b) ∧ new = none ∧ ∃ v, (∀ w', w'.heap[b]? = w.heap[b]? → (execOp a.eval o).run P w' = .ok (.value v) w') ∧ Rep w (Excl B φ) φ c v := by
  have zr : ∀ (w : World) z, (P.info? e).bind (·.zero) = some z → (zeroValue e).run P w = .ok z w := fun w z h => by
    obtain ⟨i, hi, hz⟩ := Option.bind_eq_some_iff.1 h
    simp [zeroValue, typeInfo, hi, hz]
  simp only [yv] at hy
  split at hy
  · rename_i x kk hm hk
    obtain ⟨d, hd, hk⟩ := Option.bind_eq_some_iff.1 hk
    have hkv := rep_i64 (R.opd hd) hk
    obtain ⟨b, hb, hmv⟩ := rep_mp (R.opd hm)
    split at hy
    · rename_i f hl
      obtain ⟨b', mes, clock, hb', hh, hM⟩ := R.st x _ hl
      rw [hb] at hb'; injection hb' with hb'; injection hb' with hb'; subst hb'
      have hzr := fun w => zr w _ (he.1 rfl)
      have hrun : ∀ w', w'.heap[b]? = w.heap[b]? → (Instr.lookup t (.map (some b)) (.int .i64 kk) ok).run P w' = .ok (if ok then .tuple #[.int .i64 ((f kk).getD 0), .bool (f kk).isSome] else .int .i64 ((f kk).getD 0)) w' := by
        intro w' hw'
        have hh := hw'.trans hh
        rcases find_run (P := P) hkt kk hM w' with ⟨h1, h2, h3⟩ | ⟨i, e', h1, h2, ⟨n, h3, h3'⟩, h4⟩
        · have hn : f kk = none := by
            cases hfk : f kk with
            | none => rfl
            | some n => exact absurd ⟨n, hfk, rfl⟩ (h1 _)
          rw [hn]
          exact lookup_run ht hkt (hzr w') hh (.inl ⟨h3, rfl, rfl⟩) ok
        · rw [h3]
          rw [h3'] at h4
          exact lookup_run ht hkt (hzr w') hh (.inr ⟨i, h4, rfl⟩) ok
      split at hy
      · injection hy with hy; injection hy with h1 h2; injection h2 with h2 h3
        subst h2; subst h3
        exact ⟨x, b, hm, hb, rfl, _, fun w' hw' => by simp [execOp, ho, hmv, hkv, hrun w' hw'], (rep_pair (.fr _ _ (.raw _ rfl)) (.fr _ _ (.tst _)))⟩
      · injection hy with hy; injection hy with h1 h2; injection h2 with h2 h3
        subst h2; subst h3
        exact ⟨x, b, hm, hb, rfl, _, fun w' hw' => by simp [execOp, ho, hmv, hkv, hrun w' hw'], (.fr _ _ (.raw _ rfl))⟩
    · rename_i f hl
      obtain ⟨b', mes, clock, hb', hh, hM⟩ := R.st x _ hl
      rw [hb] at hb'; injection hb' with hb'; injection hb' with hb'; subst hb'
      have hzr := fun w => zr w _ (he.2 rfl)
      have hrun : ∀ w', w'.heap[b]? = w.heap[b]? → (Instr.lookup t (.map (some b)) (.int .i64 kk) ok).run P w' = .ok (if ok then .tuple #[.bool ((f kk).getD false), .bool (f kk).isSome] else .bool ((f kk).getD false)) w' := by
        intro w' hw'
        have hh := hw'.trans hh
        rcases find_run (P := P) hkt kk hM w' with ⟨h1, h2, h3⟩ | ⟨i, e', h1, h2, ⟨n, h3, h3'⟩, h4⟩
        · have hn : f kk = none := by
            cases hfk : f kk with
            | none => rfl
            | some n => exact absurd ⟨n, hfk, rfl⟩ (h1 _)
          rw [hn]
          exact lookup_run ht hkt (hzr w') hh (.inl ⟨h3, rfl, rfl⟩) ok
        · rw [h3]
          rw [h3'] at h4
          exact lookup_run ht hkt (hzr w') hh (.inr ⟨i, h4, rfl⟩) ok
      split at hy
      · injection hy with hy; injection hy with h1 h2; injection h2 with h2 h3
        subst h2; subst h3
        exact ⟨x, b, hm, hb, rfl, _, fun w' hw' => by simp [execOp, ho, hmv, hkv, hrun w' hw'], (rep_pair (.fr _ _ (.tst _)) (.fr _ _ (.tst _)))⟩
      · injection hy with hy; injection hy with h1 h2; injection h2 with h2 h3
        subst h2; subst h3
        exact ⟨x, b, hm, hb, rfl, _, fun w' hw' => by simp [execOp, ho, hmv, hkv, hrun w' hw'], (.fr _ _ (.tst _))⟩
    · cases hy
  · cases hy
theorem yv_look {o : Oper} {t kt e : TypeId} {m k : Operand} {ok isB : Bool} (ho : o.op = .lookup t m k ok) (ht : P.underlying t = some (.map kt e)) (hkt : P.underlying kt = some (.int .i64)) (he : (isB = false → (P.info? e).bind (·.zero) = some (.int .i64 0)) ∧ (isB = true → (P.info? e).bind (·.zero) = some (.bool false)))
    {nm : Name} {pre : Option Prop} {c : AV} {new : Option Blk} (hy : yv s nm (.look isB m k ok) = some (pre, c, new)) (R : RelAt N B fr φ s a w) : Comes0 P N B fr φ s a w o nm c new := by
  obtain ⟨x, b, _, _, rfl, v, hv, hr⟩ := look_at ho ht hkt he hy R
  exact .same R (hv w rfl) hr
/-- an entry is written -/
theorem MapAt.put {mes : Array MapEntry} {clock : Nat} {T : Int → Value → Prop} (hm : MapAt mes clock T) {k : Int} {v : Value} {T' : Int → Value → Prop} (hT : ∀ k' u, T' k' u ↔ (k' = k ∧ u = v) ∨ (k' ≠ k ∧ T k' u)) {i : Nat} {e : MapEntry} (hi : mes[i]? = some e) (he : e.key = .int .i64 k) :
    MapAt (mes.modify i fun e => { e with key := .int .i64 k, val := v }) clock T' := by
  have get : ∀ {j : Nat} {d : MapEntry}, (mes.modify i fun e => { e with key := .int .i64 k, val := v })[j]? = some d → ∃ d', mes[j]? = some d' ∧ d.key = d'.key ∧ d.born = d'.born ∧ ((j = i ∧ d.val = v ∧ d.key = .int .i64 k) ∨ (j ≠ i ∧ d = d')) := by
    intro j d h
    rw [Array.getElem?_modify] at h
    split at h
    · rename_i hj
      subst hj
      rw [hi] at h
      simp at h
      subst h
      exact ⟨e, hi, he.symm, rfl, .inl ⟨rfl, rfl, rfl⟩⟩
    · rename_i hj
      exact ⟨d, h, rfl, rfl, .inr ⟨fun e => hj e.symm, rfl⟩⟩
  refine ⟨fun j d h => ?_, fun k' u h => ?_, fun j j' d d' h h' hk => ?_, fun j j' d d' h h' hk => ?_, fun j d h => ?_⟩
  · obtain ⟨d', h1, h2, _, h4⟩ := get h
    rcases h4 with ⟨_, h5, h6⟩ | ⟨h5, rfl⟩
    · exact ⟨k, h6, (hT _ _).2 (.inl ⟨rfl, h5⟩)⟩
    · obtain ⟨k', hk', hTk⟩ := hm.key j d h1
      refine ⟨k', hk', (hT _ _).2 (.inr ⟨fun e' => h5 ?_, hTk⟩)⟩
      exact hm.once j i d e h1 hi (by rw [hk', e', he])
  · rcases (hT _ _).1 h with ⟨rfl, rfl⟩ | ⟨hne, h⟩
    · exact ⟨i, { e with key := .int .i64 k', val := u }, by rw [Array.getElem?_modify]; simp [hi], rfl⟩
    · obtain ⟨j, d, hj, hd⟩ := hm.all k' u h
      have hji : j ≠ i := fun e' => by
        subst e'
        rw [hi] at hj
        injection hj with hj
        subst hj
        rw [he] at hd
        injection hd with _ hd
        exact hne hd.symm
      exact ⟨j, d, by rw [Array.getElem?_modify, if_neg (fun e' => hji e'.symm)]; exact hj, hd⟩
  · obtain ⟨d1, h1, h2, _, _⟩ := get h
    obtain ⟨d2, h3, h4, _, _⟩ := get h'
    exact hm.once j j' d1 d2 h1 h3 (by rw [← h2, ← h4, hk])
  · obtain ⟨d1, h1, _, h2, _⟩ := get h
    obtain ⟨d2, h3, _, h4, _⟩ := get h'
    exact hm.born j j' d1 d2 h1 h3 (by rw [← h2, ← h4, hk])
  · obtain ⟨d1, h1, _, h2, _⟩ := get h
    rw [h2]
    exact hm.clock j d1 h1
/-- an entry is added -/
theorem MapAt.add {mes : Array MapEntry} {clock : Nat} {T : Int → Value → Prop} (hm : MapAt mes clock T) {k : Int} {v : Value} {T' : Int → Value → Prop} (hT : ∀ k' u, T' k' u ↔ (k' = k ∧ u = v) ∨ (k' ≠ k ∧ T k' u)) (hk : ∀ e ∈ mes.toList, e.key ≠ .int .i64 k) :
    MapAt (mes.push { key := .int .i64 k, val := v, born := clock }) (clock + 1) T' := by
  have get : ∀ {j : Nat} {d : MapEntry}, (mes.push { key := .int .i64 k, val := v, born := clock })[j]? = some d → (j = mes.size ∧ d = { key := .int .i64 k, val := v, born := clock }) ∨ (j ≠ mes.size ∧ mes[j]? = some d) := by
    intro j d h
    rw [Array.getElem?_push] at h
    split at h
    · rename_i hj; injection h with h; exact .inl ⟨hj, h.symm⟩
    · rename_i hj; exact .inr ⟨hj, h⟩
  have nk : ∀ {j : Nat} {d : MapEntry}, mes[j]? = some d → d.key ≠ .int .i64 k := fun h => hk _ (List.mem_of_getElem? (by simpa using h))
  refine ⟨fun j d h => ?_, fun k' u h => ?_, fun j j' d d' h h' hk => ?_, fun j j' d d' h h' hk => ?_, fun j d h => ?_⟩
  · rcases get h with ⟨_, rfl⟩ | ⟨_, h⟩
    · exact ⟨k, rfl, (hT _ _).2 (.inl ⟨rfl, rfl⟩)⟩
    · obtain ⟨k', hk', hTk⟩ := hm.key j d h
      exact ⟨k', hk', (hT _ _).2 (.inr ⟨fun e' => nk h (by rw [hk', e']), hTk⟩)⟩
  · rcases (hT _ _).1 h with ⟨rfl, rfl⟩ | ⟨hne, h⟩
    · exact ⟨mes.size, _, by rw [Array.getElem?_push, if_pos rfl], rfl⟩
    · obtain ⟨j, d, hj, hd⟩ := hm.all k' u h
      exact ⟨j, d, by rw [Array.getElem?_push, if_neg (by have := (Array.getElem?_eq_some_iff.1 hj).1; omega)]; exact hj, hd⟩
  · rcases get h with ⟨h1, rfl⟩ | ⟨h1, h2⟩ <;> rcases get h' with ⟨h3, rfl⟩ | ⟨h3, h4⟩
    · omega
    · exact absurd hk.symm (nk h4)
    · exact absurd hk (nk h2)
    · exact hm.once j j' d d' h2 h4 hk
  · rcases get h with ⟨h1, rfl⟩ | ⟨h1, h2⟩ <;> rcases get h' with ⟨h3, rfl⟩ | ⟨h3, h4⟩
    · omega
    · have := hm.clock j' d' h4; simp at hk; omega
    · have := hm.clock j d h2; simp at hk; omega
    · exact hm.born j j' d d' h2 h4 hk
  · rcases get h with ⟨h1, rfl⟩ | ⟨h1, h2⟩
    · simp
    · have := hm.clock j d h2; omega
/-- an entry goes -/
theorem MapAt.cut {mes : Array MapEntry} {clock : Nat} {T : Int → Value → Prop} (hm : MapAt mes clock T) {k : Int} {T' : Int → Value → Prop} (hT : ∀ k' u, T' k' u ↔ (k' ≠ k ∧ T k' u)) {i : Nat} {e : MapEntry} (hi : mes[i]? = some e) (he : e.key = .int .i64 k) :
    MapAt (mes.eraseIdxIfInBounds i) clock T' := by
  have hlt : i < mes.size := (Array.getElem?_eq_some_iff.1 hi).1
  have get : ∀ (j : Nat), (mes.eraseIdxIfInBounds i)[j]? = if j < i then mes[j]? else mes[j + 1]? := by
    intro j
    unfold Array.eraseIdxIfInBounds
    rw [dif_pos hlt, Array.getElem?_eraseIdx]
  have at_ : ∀ {j : Nat} {d : MapEntry}, (mes.eraseIdxIfInBounds i)[j]? = some d → ∃ j', j' ≠ i ∧ mes[j']? = some d ∧ j' = if j < i then j else j + 1 := by
    intro j d h
    rw [get] at h
    split at h
    · rename_i hj; exact ⟨j, by omega, h, by rw [if_pos hj]⟩
    · rename_i hj; exact ⟨j + 1, by omega, h, by rw [if_neg hj]⟩
  refine ⟨fun j d h => ?_, fun k' u h => ?_, fun j j' d d' h h' hk => ?_, fun j j' d d' h h' hk => ?_, fun j d h => ?_⟩
  · obtain ⟨j', h1, h2, _⟩ := at_ h
    obtain ⟨k', hk', hTk⟩ := hm.key j' d h2
    exact ⟨k', hk', (hT _ _).2 ⟨fun e' => h1 (hm.once j' i d e h2 hi (by rw [hk', e', he])), hTk⟩⟩
  · obtain ⟨hne, h⟩ := (hT _ _).1 h
    obtain ⟨j, d, hj, hd⟩ := hm.all k' u h
    have hji : j ≠ i := fun e' => by
      subst e'
      rw [hi] at hj
      injection hj with hj
      subst hj
      rw [he] at hd
      injection hd with _ hd
      exact hne hd.symm
    by_cases hl : j < i
    · exact ⟨j, d, by rw [get, if_pos hl]; exact hj, hd⟩
    · exact ⟨j - 1, d, by rw [get, if_neg (by omega), show j - 1 + 1 = j from by omega]; exact hj, hd⟩
  · obtain ⟨p, h1, h2, h3⟩ := at_ h
    obtain ⟨q, h4, h5, h6⟩ := at_ h'
    have := hm.once p q d d' h2 h5 hk
    split at h3 <;> split at h6 <;> omega
  · obtain ⟨p, h1, h2, h3⟩ := at_ h
    obtain ⟨q, h4, h5, h6⟩ := at_ h'
    have := hm.born p q d d' h2 h5 hk
    split at h3 <;> split at h6 <;> omega
  · obtain ⟨p, h1, h2, h3⟩ := at_ h
    exact hm.clock p d h2
end
theorem outK_eq (env : List (Nat × AV)) (st : List (Name × Blk)) (nx : Nat) (dst : Option Tmp) (nm : Name) (c : AV) (new : Option Blk) (K : AS → Prop) :
    AS.outK ⟨env, st, nx⟩ dst nm c new K = K ⟨updO env dst c, updS st nm new, nx⟩ := by
  cases dst <;> cases new <;> simp [AS.outK, updK_eq, updO, updS]
section
variable {P : Program} {ty : TypeId} {N : Nat} {B : Nat → Prop} {fr : Name → Prop} {φ : Loc} {s : AS} {a : Act} {w : World}
/-- the world behind a write into a map -/
def mapW (w : World) (b : Nat) (o : Obj) : World := { w with heap := w.heap.setIfInBounds b o }
theorem mapW_at {b : Nat} {o o' : Obj} (h : w.heap[b]? = some o) : (mapW w b o').heap[b]? = some o' := by
  have := (Array.getElem?_eq_some_iff.1 h).1
  simp [mapW, this]
theorem mapW_ne {b c : Nat} {o : Obj} (h : c ≠ b) : (mapW w b o).heap[c]? = w.heap[c]? := by
  simp [mapW, Array.getElem?_setIfInBounds_ne (Ne.symm h)]
theorem sameBits_int (n : Nat) (k : Int) : Instr.sameBits n (.int .i64 k) (.int .i64 k) = true := by
  cases n <;> simp [Instr.sameBits]
theorem mapUpdate_run {t kt e : TypeId} (ht : P.underlying t = some (.map kt e)) (hkt : P.underlying kt = some (.int .i64)) {b : Nat} {mes : Array MapEntry} {clock : Nat} (hb : w.heap[b]? = some (.map mes clock)) {T : Int → Value → Prop} (hm : MapAt mes clock T) (k : Int) (v : Value)
    {T' : Int → Value → Prop} (hT : ∀ k' u, T' k' u ↔ (k' = k ∧ u = v) ∨ (k' ≠ k ∧ T k' u)) : ∃ mes' clock', (Instr.mapUpdate t (.map (some b)) (.int .i64 k) v).run P w = .ok () (mapW w b (.map mes' clock')) ∧ MapAt mes' clock' T' := by
  have hck : (Instr.checkKey false 10000 kt (.int .i64 k)).run P w = .ok () w := checkKey_run _ 9999 hkt _ w
  rcases find_run (P := P) hkt k hm w with ⟨h1, h2, h3⟩ | ⟨i, e', h1, h2, h3, h4⟩
  · refine ⟨_, _, ?_, hm.add hT h2⟩
    unfold Instr.mapUpdate
    simp only [Sem.run_bind, run_underlying ht, Result.andThen_ok, getObj_map hb, hck, h3, setObj_map hb]
    rfl
  · refine ⟨_, _, ?_, hm.put hT h1 h2⟩
    unfold Instr.mapUpdate
    have hk : ((mes[i]?).map (·.key)).getD (.int .i64 k) = .int .i64 k := by simp [h1, h2]
    simp only [Sem.run_bind, run_underlying ht, Result.andThen_ok, getObj_map hb, hck, h4, hk, Instr.keyThatStays, sameBits_int, if_true, Sem.run_pure, setObj_map hb]
    rfl
theorem delete_run {t kt e t2 : TypeId} (ht : P.underlying t = some (.map kt e)) (hkt : P.underlying kt = some (.int .i64)) {b : Nat} {mes : Array MapEntry} {clock : Nat} (hb : w.heap[b]? = some (.map mes clock)) {T : Int → Value → Prop} (hm : MapAt mes clock T) (k : Int)
    {T' : Int → Value → Prop} (hT : ∀ k' u, T' k' u ↔ (k' ≠ k ∧ T k' u)) : ∃ mes' clock', (Builtin.delete_ #[t, t2] ty #[.map (some b), .int .i64 k]).run P w = .ok (.tuple #[]) (mapW w b (.map mes' clock')) ∧ MapAt mes' clock' T' := by
  have hck : ∀ em, (Instr.checkKey em 10000 kt (.int .i64 k)).run P w = .ok () w := fun em => checkKey_run _ 9999 hkt _ w
  rcases find_run (P := P) hkt k hm w with ⟨h1, h2, h3⟩ | ⟨i, e', h1, h2, h3, h4⟩
  · refine ⟨mes, clock, ?_, ⟨fun j d h => ?_, fun k' u h => hm.all k' u ((hT _ _).1 h).2, hm.once, hm.born, hm.clock⟩⟩
    · unfold Builtin.delete_
      simp [run_underlying ht, getObj_map hb, hck, h3, setObj_map hb, mapW]
    · obtain ⟨k', hk', hTk⟩ := hm.key j d h
      exact ⟨k', hk', (hT _ _).2 ⟨fun e => h2 d (List.mem_of_getElem? (by simpa using h)) (by rw [hk', e]), hTk⟩⟩
  · refine ⟨_, _, ?_, hm.cut hT h1 h2⟩
    unfold Builtin.delete_
    simp [run_underlying ht, getObj_map hb, hck, h4, setObj_map hb, mapW]
/-- a map of ours is turned -/
theorem RelAt.map {env : List (Nat × AV)} {st : List (Name × Blk)} {nx : Nat} (R : RelAt N B fr φ ⟨env, st, nx⟩ a w) {x : Name} {b : Nat} (hb : φ x 0 = some (some b)) {mes : Array MapEntry} {clock : Nat} (hh : w.heap[b]? = some (.map mes clock)) {mes' : Array MapEntry} {clock' : Nat} {bl : Blk}
    (hbl : BlkAt (mapW w b (.map mes' clock')) (Excl B φ) φ x bl) : RelAt N B fr φ ⟨env, upd st x bl, nx⟩ a (mapW w b (.map mes' clock')) ∧ Fwd φ w φ (mapW w b (.map mes' clock')) (OneW x 0) :=
  R.write hb (by simp [mapW]) (fun c h => mapW_ne h) (fun cs e z h => by rw [hh] at h; cases h) rfl rfl rfl fun _ _ => hbl
theorem isI {f : Int → Option Int} {k n : Int} : ∀ (k' : Int) (u : Value), (∃ m, (if k' = k then some n else f k') = some m ∧ u = .int .i64 m) ↔ (k' = k ∧ u = .int .i64 n) ∨ (k' ≠ k ∧ ∃ m, f k' = some m ∧ u = .int .i64 m) := by
  intro k' u
  by_cases h : k' = k
  · simp [h]
  · simp [h]
theorem isB {f : Int → Option Bool} {k : Int} {n : Bool} : ∀ (k' : Int) (u : Value), (∃ m, (if k' = k then some n else f k') = some m ∧ u = .bool m) ↔ (k' = k ∧ u = .bool n) ∨ (k' ≠ k ∧ ∃ m, f k' = some m ∧ u = .bool m) := by
  intro k' u
  by_cases h : k' = k
  · simp [h]
  · simp [h]
theorem sound_mup {o : Oper} {t kt e : TypeId} {m k v : Operand} (ho : o.op = .mapUpdate t m k v) (ht : P.underlying t = some (.map kt e)) (hkt : P.underlying kt = some (.int .i64)) {isB' : Bool} {nm : Name} {K : AS → Prop} (hd : ∀ d, o.dst = some d → d < N)
    {env : List (Nat × AV)} {st : List (Name × Blk)} {nx : Nat} (h : evOp1 P ⟨env, st, nx⟩ nm o.dst K (.mup isB' m k v)) (R : RelAt N B fr φ ⟨env, st, nx⟩ a w) {Q : Exit → Act → World → Prop} : o.wp P a w (After N B fr φ w (foot ⟨env, st, nx⟩ (.mup isB' m k v)) K) Q := by
  simp only [evOp1] at h
  split at h
  · rename_i x kk c hm hk hv
    have hfo : foot ⟨env, st, nx⟩ (.mup isB' m k v) = OneW x 0 := by simp only [foot, hm]
    rw [hfo]
    obtain ⟨d, hd', hk⟩ := Option.bind_eq_some_iff.1 hk
    have hkv := rep_i64 (R.opd hd') hk
    obtain ⟨b, hb, hmv⟩ := rep_mp (R.opd hm)
    have fin : ∀ {bl : Blk} {w' : World}, (Instr.mapUpdate t (.map (some b)) (.int .i64 kk) (a.eval v)).run P w = .ok () w' → RelAt N B fr φ ⟨env, upd st x bl, nx⟩ a w' → Fwd φ w φ w' (OneW x 0) → K ⟨updO env o.dst .any, upd st x bl, nx⟩ → o.wp P a w (After N B fr φ w (OneW x 0) K) Q := by
      intro bl w' hr R' F hK
      unfold Oper.wp
      have : (execOp a.eval o).run P w = .ok .skip w' := by simp [execOp, ho, hmv, hkv, hr]
      rw [this]
      exact ⟨_, φ, hK, R'.putDst hd (.fr _ _ (.any _)), F⟩
    split at h
    · rename_i f hl
      split at h
      · rename_i n hn
        rw [updK_eq, outK_eq] at h
        obtain ⟨b', mes, clock, hb', hh, hM⟩ := R.st x _ hl
        rw [hb] at hb'; injection hb' with hb'; injection hb' with hb'; subst hb'
        obtain ⟨mes', clock', hr, hM'⟩ := mapUpdate_run (P := P) ht hkt hh hM kk (.int .i64 n) isI
        obtain ⟨R', F⟩ := R.map hb hh (bl := .mapI fun k' => if k' = kk then some n else f k') ⟨b, mes', clock', hb, mapW_at hh, hM'⟩
        exact fin (by rw [rep_i64 (R.opd hv) hn]; exact hr) R' F h
      · cases h
    · rename_i f hl
      split at h
      · rename_i n hn
        rw [updK_eq, outK_eq] at h
        obtain ⟨b', mes, clock, hb', hh, hM⟩ := R.st x _ hl
        rw [hb] at hb'; injection hb' with hb'; injection hb' with hb'; subst hb'
        obtain ⟨mes', clock', hr, hM'⟩ := mapUpdate_run (P := P) ht hkt hh hM kk (.bool n) isB
        obtain ⟨R', F⟩ := R.map hb hh (bl := .mapB fun k' => if k' = kk then some n else f k') ⟨b, mes', clock', hb, mapW_at hh, hM'⟩
        exact fin (by rw [rep_asBool (R.opd hv) hn]; exact hr) R' F h
      · cases h
    · cases h
  · cases h
theorem sound_del {o : Oper} {t kt e t2 : TypeId} {m k : Operand} (ho : o.op = .call { callee := .builtin .delete, args := #[m, k], argTypes := #[t, t2] }) (ht : P.underlying t = some (.map kt e)) (hkt : P.underlying kt = some (.int .i64)) {nm : Name} {K : AS → Prop} (hd : ∀ d, o.dst = some d → d < N)
    {env : List (Nat × AV)} {st : List (Name × Blk)} {nx : Nat} (h : evOp1 P ⟨env, st, nx⟩ nm o.dst K (.del m k)) (R : RelAt N B fr φ ⟨env, st, nx⟩ a w) {Q : Exit → Act → World → Prop} : o.wp P a w (After N B fr φ w (foot ⟨env, st, nx⟩ (.del m k)) K) Q := by
  simp only [evOp1] at h
  split at h
  · rename_i x kk hm hk
    have hfo : foot ⟨env, st, nx⟩ (.del m k) = OneW x 0 := by simp only [foot, hm]
    rw [hfo]
    obtain ⟨d, hd', hk⟩ := Option.bind_eq_some_iff.1 hk
    have hkv := rep_i64 (R.opd hd') hk
    obtain ⟨b, hb, hmv⟩ := rep_mp (R.opd hm)
    have fin : ∀ {bl : Blk} {w' : World}, (Builtin.delete_ #[t, t2] o.type #[.map (some b), .int .i64 kk]).run P w = .ok (.tuple #[]) w' → RelAt N B fr φ ⟨env, upd st x bl, nx⟩ a w' → Fwd φ w φ w' (OneW x 0) → K ⟨updO env o.dst .any, upd st x bl, nx⟩ → o.wp P a w (After N B fr φ w (OneW x 0) K) Q := by
      intro bl w' hr R' F hK
      unfold Oper.wp
      have : (execOp a.eval o).run P w = .ok (.value (.tuple #[])) w' := by simp [execOp, ho, resolve, invoke, builtin, hmv, hkv, hr]
      rw [this]
      exact ⟨_, φ, hK, R'.putDst hd (.fr _ _ (.any _)), F⟩
    have cutI : ∀ {f : Int → Option Int} (k' : Int) (u : Value), (∃ m, (if k' = kk then none else f k') = some m ∧ u = .int .i64 m) ↔ (k' ≠ kk ∧ ∃ m, f k' = some m ∧ u = .int .i64 m) := by
      intro f k' u; by_cases h : k' = kk <;> simp [h]
    have cutB : ∀ {f : Int → Option Bool} (k' : Int) (u : Value), (∃ m, (if k' = kk then none else f k') = some m ∧ u = .bool m) ↔ (k' ≠ kk ∧ ∃ m, f k' = some m ∧ u = .bool m) := by
      intro f k' u; by_cases h : k' = kk <;> simp [h]
    split at h
    · rename_i f hl
      rw [updK_eq, outK_eq] at h
      obtain ⟨b', mes, clock, hb', hh, hM⟩ := R.st x _ hl
      rw [hb] at hb'; injection hb' with hb'; injection hb' with hb'; subst hb'
      obtain ⟨mes', clock', hr, hM'⟩ := delete_run (P := P) (ty := o.type) (t2 := t2) ht hkt hh hM kk cutI
      obtain ⟨R', F⟩ := R.map hb hh (bl := .mapI fun k' => if k' = kk then none else f k') ⟨b, mes', clock', hb, mapW_at hh, hM'⟩
      exact fin hr R' F h
    · rename_i f hl
      rw [updK_eq, outK_eq] at h
      obtain ⟨b', mes, clock, hb', hh, hM⟩ := R.st x _ hl
      rw [hb] at hb'; injection hb' with hb'; injection hb' with hb'; subst hb'
      obtain ⟨mes', clock', hr, hM'⟩ := delete_run (P := P) (ty := o.type) (t2 := t2) ht hkt hh hM kk cutB
      obtain ⟨R', F⟩ := R.map hb hh (bl := .mapB fun k' => if k' = kk then none else f k') ⟨b, mes', clock', hb, mapW_at hh, hM'⟩
      exact fin hr R' F h
    · cases h
  · cases h
end
/-- a row, a stretch of it written -/
def spliced (cur : Array Value) (off : Nat) (vs : List Value) : Array Value := (cur.toList.take off ++ vs ++ cur.toList.drop (off + vs.length)).toArray
theorem spliced_size {cur : Array Value} {off : Nat} {vs : List Value} (h : off + vs.length ≤ cur.size) : (spliced cur off vs).size = cur.size := by
  simp [spliced]; omega
theorem spliced_get {cur : Array Value} {off : Nat} {vs : List Value} (h : off + vs.length ≤ cur.size) (i : Nat) : (spliced cur off vs)[i]? = if off ≤ i ∧ i < off + vs.length then vs[i - off]? else cur[i]? := by
  have hlt : (List.take off cur.toList).length = off := by simp; omega
  unfold spliced
  simp only [List.getElem?_toArray, List.append_assoc]
  by_cases h1 : i < off
  · rw [List.getElem?_append_left (by omega), if_neg (by omega), List.getElem?_take_of_lt h1]; simp
  · rw [List.getElem?_append_right (by omega), hlt]
    by_cases h2 : i < off + vs.length
    · rw [List.getElem?_append_left (by omega), if_pos ⟨by omega, h2⟩]
    · rw [List.getElem?_append_right (by omega), if_neg (by omega), List.getElem?_drop]
      simp
      congr 1
      omega
section
variable {P : Program} {ty : TypeId} {N : Nat} {B : Nat → Prop} {fr : Name → Prop} {φ : Loc} {s : AS} {a : Act} {w : World}
theorem storeVar_run {t : TypeId} {k : Nat} (hk : tSize P t = some k) {b off : Nat} {cur : Array Value} {e : TypeId} (hg : w.heap[b]? = some (.cells cur e (0, 0))) {v : Value} (hs : v.cells.size = k) (ho : off + k ≤ cur.size) (h1 : ∀ u ∈ v.cells.toList, u.oneCell' = true) :
    (storeVar t ⟨b, off, none⟩ v).run P w = .ok () (w.setRow b (spliced cur off v.cells.toList)) := by
  unfold storeVar
  have hr := run_storeCells_at P b off e v.cells.toList 0 cur w hg (by simpa [hs] using ho) h1
  simp only [Nat.add_zero] at hr
  simp only [Sem.run_bind, tSize_run hk, Result.andThen_ok, hs, ne_eq, not_true_eq_false, if_false, Sem.run_ite, ite_not]
  simpa [spliced] using hr
theorem RelAt.row {env : List (Nat × AV)} {st : List (Name × Blk)} {nx : Nat} (R : RelAt N B fr φ ⟨env, st, nx⟩ a w) {x : Name} {i b : Nat} (hb : φ x i = some (some b)) {cur cs : Array Value} {e : TypeId} (hh : w.heap[b]? = some (.cells cur e (0, 0))) (hs : cs.size = cur.size) {bl : Blk}
    (hbl : (∀ {c : AV} {v : Value}, Rep w (Excl B φ) φ c v → Rep (w.setRow b cs) (Excl B φ) φ c v) → (∀ {c : AV} {v : Value}, Fr w (Excl B φ) c v → Fr (w.setRow b cs) (Excl B φ) c v) → BlkAt (w.setRow b cs) (Excl B φ) φ x bl) :
    RelAt N B fr φ ⟨env, upd st x bl, nx⟩ a (w.setRow b cs) ∧ Fwd φ w φ (w.setRow b cs) (OneW x i) :=
  R.write hb (by simp) (fun c h => setRow_other w b c cs h) (fun cs' e' z' h => by rw [hh] at h; injection h with h; injection h with h1 h2 h3; subst h1; exact ⟨cs, e, (0, 0), setRow_heap w b cur cs e (0, 0) hh, by omega⟩) rfl rfl rfl hbl
theorem cells_pw {X : Nat → Prop} {c : AV} {v : Value} (h : Rep w X φ c v) (ho : c.cells.all AV.one = true) : c.cells.length = v.cells.toList.length ∧ (∀ u ∈ v.cells.toList, u.oneCell' = true) ∧ ∀ (i : Nat) (u : Value), v.cells.toList[i]? = some u → Rep w X φ ((c.cells.map AV.nrm).getD i .any) u := by
  obtain ⟨h1, h2⟩ := rep_cells h ho
  refine ⟨by simpa using h1, fun u hu => ?_, fun i u hu => ?_⟩
  · obtain ⟨i, hi⟩ := List.mem_iff_getElem?.1 hu
    have hlt : i < c.cells.length := by rw [h1]; have := (List.getElem?_eq_some_iff.1 hi).1; simpa using this
    exact (h2 i c.cells[i] u (by simp [hlt]) (by simpa using hi)).2
  · have hlt : i < c.cells.length := by rw [h1]; have := (List.getElem?_eq_some_iff.1 hu).1; simpa using this
    have := rep_nrm (h2 i c.cells[i] u (by simp [hlt]) (by simpa using hu)).1
    simpa [List.getD_eq_getElem?_getD, hlt] using this
theorem putCells_get : ∀ (ds cs : List AV) (off i : Nat), off + ds.length ≤ cs.length → (putCells cs off ds)[i]? = if off ≤ i ∧ i < off + ds.length then ds[i - off]? else cs[i]?
  | [], cs, off, i, h => by simp only [putCells, List.length_nil]; rw [if_neg (by omega)]
  | d :: ds, cs, off, i, h => by
    simp only [List.length_cons] at h
    simp only [putCells]
    rw [putCells_get ds (cs.set off d) (off + 1) i (by simp; omega)]
    by_cases hi : i = off
    · subst hi
      rw [if_neg (by omega), if_pos ⟨by omega, by simp⟩]
      simp [show i < cs.length by omega]
    · by_cases h2 : off + 1 ≤ i ∧ i < off + 1 + ds.length
      · rw [if_pos h2, if_pos ⟨by omega, by simp; omega⟩, show i - off = (i - (off + 1)) + 1 from by omega]
        simp
      · rw [if_neg h2, if_neg (by simp; omega), List.getElem?_set_ne (by omega)]
theorem putCells_len : ∀ (ds cs : List AV) (off : Nat), (putCells cs off ds).length = cs.length
  | [], cs, off => rfl
  | d :: ds, cs, off => by simp [putCells, putCells_len ds]
theorem namesL_nrm : ∀ {cs : List AV}, namesL cs = [] → ∀ i, ((cs.map AV.nrm).getD i .any).names = []
  | [], _, i => rfl
  | d :: r, h, i => by
    simp only [namesL, List.append_eq_nil_iff] at h
    cases i with
    | zero =>
      simp only [List.map_cons, List.getD_cons_zero]
      unfold AV.nrm
      split
      · rfl
      · exact h.1
    | succ i => simpa using namesL_nrm h.2 i
theorem sound_store {o : Oper} {t : TypeId} {x y : Operand} (ho : o.op = .store t x y) {k : Nat} (hk : tSize P t = some k) {nm : Name} {K : AS → Prop} (hd : ∀ d, o.dst = some d → d < N)
    {env : List (Nat × AV)} {st : List (Name × Blk)} {nx : Nat} (h : evOp1 P ⟨env, st, nx⟩ nm o.dst K (.store k x y)) (R : RelAt N B fr φ ⟨env, st, nx⟩ a w) {Q : Exit → Act → World → Prop} : o.wp P a w (After N B fr φ w (foot ⟨env, st, nx⟩ (.store k x y)) K) Q := by
  have fin : ∀ {W : Name → Nat → Prop} {ad : Addr} {z : Name} {bl : Blk} {w' : World}, a.eval x = .pointer (some ad) → (storeVar t ad (a.eval y)).run P w = .ok () w' → RelAt N B fr φ ⟨env, upd st z bl, nx⟩ a w' → Fwd φ w φ w' W → K ⟨updO env o.dst .any, upd st z bl, nx⟩ → o.wp P a w (After N B fr φ w W K) Q := by
    intro W ad z bl w' hv hr R' F hK
    unfold Oper.wp
    have : (execOp a.eval o).run P w = .ok .skip w' := by simp [execOp, ho, hv, Instr.storeAt, sureAddr_run, hr]
    rw [this]
    exact ⟨_, φ, hK, R'.putDst hd (.fr _ _ (.any _)), F⟩
  simp only [evOp1] at h
  split at h
  · -- a variable
    rename_i z off c hx hy
    have hfo : foot ⟨env, st, nx⟩ (.store k x y) = OneW z 0 := by simp only [foot, hx]
    rw [hfo]
    split at h
    · rename_i cs hl
      split at h
      · rename_i hc
        simp only [Bool.and_eq_true] at hc
        rw [updK_eq, outK_eq] at h
        have h1 : off + k ≤ cs.length := Nat.le_of_ble_eq_true hc.1.1
        have h2 : c.cells.length = k := Nat.eq_of_beq_eq_true hc.1.2
        obtain ⟨b', vs, e, hb', hh, hs, hr⟩ := R.st z _ hl
        obtain ⟨b, hb, hv⟩ := rep_ptr (R.opd hx)
        rw [hb] at hb'; injection hb' with hb'; injection hb' with hb'; subst hb'
        obtain ⟨g1, g2, g3⟩ := cells_pw (R.opd hy) hc.2
        have hvs : (a.eval y).cells.size = k := by rw [← h2, g1]; simp
        have hfit : off + (a.eval y).cells.toList.length ≤ vs.size := by rw [← g1]; omega
        obtain ⟨R', F⟩ := R.row hb hh (cs := spliced vs off (a.eval y).cells.toList) (spliced_size hfit) (bl := .box (putCells cs off (c.cells.map AV.nrm))) fun hrep _ =>
          ⟨b, _, e, hb, setRow_heap w b vs _ e (0, 0) hh, by rw [spliced_size hfit, putCells_len]; exact hs, fun i d u h3 h4 => by
            rw [putCells_get _ _ _ _ (by simp; omega)] at h3
            rw [spliced_get hfit] at h4
            simp only [List.length_map] at h3
            by_cases hi : off ≤ i ∧ i < off + c.cells.length
            · rw [if_pos hi] at h3
              rw [if_pos (by omega)] at h4
              have := g3 (i - off) u h4
              simp only [List.getD_eq_getElem?_getD] at this
              rw [h3] at this
              exact hrep this
            · rw [if_neg hi] at h3
              rw [if_neg (by omega)] at h4
              exact hrep (hr i d u h3 h4)⟩
        exact fin hv (storeVar_run hk hh hvs (by omega) g2) R' F h
      · cases h
    · cases h
  · -- an element of a row
    rename_i z sz j i c hx hy
    have hfo : foot ⟨env, st, nx⟩ (.store k x y) = OneW z 0 := by simp only [foot, hx]
    rw [hfo]
    split at h
    · rename_i sz' n f hl
      split at h
      · rename_i hc
        simp only [Bool.and_eq_true, List.isEmpty_iff] at hc
        obtain ⟨⟨⟨⟨⟨e1, e2⟩, e3⟩, e4⟩, e5⟩, e6⟩ := hc
        have e1 : sz = sz' := Nat.eq_of_beq_eq_true e1
        have e2 : i = 0 := Nat.eq_of_beq_eq_true e2
        have e3 : k = sz := Nat.eq_of_beq_eq_true e3
        have e4 : c.cells.length = k := Nat.eq_of_beq_eq_true e4
        subst e1; subst e2; subst e3
        obtain ⟨hj, h⟩ := h
        rw [updK_eq, outK_eq] at h
        obtain ⟨b, hb, hv⟩ := rep_elt (R.opd hx)
        obtain ⟨h0, hst⟩ := R.st z _ hl
        rcases hst with ⟨b', vs, e, hb', hh, hs, hr⟩ | ⟨hn, _⟩
        · rw [hb] at hb'; injection hb' with hb'; injection hb' with hb'; subst hb'
          obtain ⟨g1, g2, g3⟩ := cells_pw (R.opd hy) e5
          have hvs : (a.eval y).cells.size = k := by rw [← e4, g1]; simp
          have hjk : j * k + k ≤ n * k := by rw [← Nat.succ_mul]; exact Nat.mul_le_mul_right _ hj
          have hfit : (j * k + 0) + (a.eval y).cells.toList.length ≤ vs.size := by rw [← g1]; omega
          obtain ⟨R', F⟩ := R.row hb hh (cs := spliced vs (j * k + 0) (a.eval y).cells.toList) (spliced_size hfit) (bl := .arr k n fun j' i' => if j' = j then (c.cells.map AV.nrm).getD i' .any else f j' i') fun _ hfr =>
            ⟨h0, .inl ⟨b, _, e, hb, setRow_heap w b vs _ e (0, 0) hh, by rw [spliced_size hfit]; exact hs, fun j' i' h3 h4 => by
              dsimp only
              rw [spliced_get hfit]
              by_cases hjj : j' = j
              · subst hjj
                have hlt : i' < (a.eval y).cells.toList.length := by rw [← g1]; omega
                rw [if_pos (by omega), if_pos rfl, show j' * k + i' - (j' * k + 0) = i' from by omega]
                refine ⟨(a.eval y).cells.toList[i'], by simp [hlt], g2 _ (List.getElem_mem _), hfr (fr_of_rep (g3 i' _ (by simp [hlt])) (namesL_nrm e6 i'))⟩
              · have hne : ¬ (j * k + 0 ≤ j' * k + i' ∧ j' * k + i' < j * k + 0 + (a.eval y).cells.toList.length) := by
                  rw [← g1]
                  rcases Nat.lt_or_gt_of_ne hjj with hlt | hgt
                  · have : (j' + 1) * k ≤ j * k := Nat.mul_le_mul_right _ hlt
                    rw [Nat.succ_mul] at this; omega
                  · have : (j + 1) * k ≤ j' * k := Nat.mul_le_mul_right _ hgt
                    rw [Nat.succ_mul] at this; omega
                rw [if_neg hne, if_neg hjj]
                obtain ⟨v, hv, ho', hf⟩ := hr j' i' h3 h4
                exact ⟨v, hv, ho', hfr hf⟩⟩⟩
          exact fin hv (storeVar_run hk hh hvs (by omega) g2) R' F h
        · rw [hb] at hn; cases hn
      · cases h
    · cases h
  · -- a cell of a row of a row
    rename_i z j i c hx hy
    have hfo : foot ⟨env, st, nx⟩ (.store k x y) = OneW z (j + 1) := by simp only [foot, hx]
    rw [hfo]
    split at h
    · rename_i n len f hl
      split at h
      · rename_i hc
        simp only [Bool.and_eq_true, List.isEmpty_iff] at hc
        obtain ⟨⟨e1, e2⟩, e3⟩ := hc
        have e1 : k = 1 := Nat.eq_of_beq_eq_true e1
        subst e1
        obtain ⟨⟨hj, hi⟩, h⟩ := h
        rw [updK_eq, outK_eq] at h
        obtain ⟨b, hb, hv⟩ := rep_relt (R.opd hx)
        obtain ⟨hst, hrows⟩ := R.st z _ hl
        rcases hrows j hj with ⟨b', vs, e, hb', hh, hs, hr⟩ | ⟨hn, _⟩
        · rw [hb] at hb'; injection hb' with hb'; injection hb' with hb'; subst hb'
          have hone := rep_one (R.opd hy) e2
          have hcells : (a.eval y).cells = #[a.eval y] := by
            cases hvv : a.eval y <;> first | rfl | (rw [hvv] at hone; cases hone)
          have hfit : i + (a.eval y).cells.toList.length ≤ vs.size := by rw [hcells]; simp; omega
          obtain ⟨R', F⟩ := R.row hb hh (cs := spliced vs i (a.eval y).cells.toList) (spliced_size hfit) (bl := .mat n len fun j' i' => if j' = j ∧ i' = i then c.nrm else f j' i') fun hrep hfr => by
            refine ⟨?_, fun j' hj' => ?_⟩
            · rcases hst with ⟨b2, vs2, e2', hb2, hh2, hs2, hr2⟩ | hst
              · refine .inl ⟨b2, vs2, e2', hb2, ?_, hs2, fun j' hj' => ?_⟩
                · rw [setRow_other w b b2 _ (fun e => by have := R.inj z z 0 (j + 1) b (e ▸ hb2) hb; omega)]; exact hh2
                · obtain ⟨v, hv, hr'⟩ := hr2 j' hj'; exact ⟨v, hv, hrep hr'⟩
              · exact .inr hst
            · by_cases hjj : j' = j
              · subst hjj
                refine .inl ⟨b, _, e, hb, setRow_heap w b vs _ e (0, 0) hh, by rw [spliced_size hfit]; exact hs, fun i' hi' => ?_⟩
                dsimp only
                have hlen : (a.eval y).cells.toList.length = 1 := by rw [hcells]; rfl
                have hget : (a.eval y).cells.toList[0]? = some (a.eval y) := by rw [hcells]; rfl
                rw [spliced_get hfit, hlen]
                by_cases hii : i' = i
                · subst hii
                  rw [if_pos ⟨by omega, by omega⟩, if_pos ⟨rfl, rfl⟩, Nat.sub_self]
                  refine ⟨a.eval y, hget, hone, hfr (fr_of_rep (rep_nrm (R.opd hy)) ?_)⟩
                  unfold AV.nrm; split
                  · rfl
                  · exact e3
                · rw [if_neg (by omega), if_neg (by omega)]
                  obtain ⟨v, hv, ho', hf⟩ := hr i' hi'
                  exact ⟨v, hv, ho', hfr hf⟩
              · rcases hrows j' hj' with ⟨b2, vs2, e2', hb2, hh2, hs2, hr2⟩ | hst
                · refine .inl ⟨b2, vs2, e2', hb2, ?_, hs2, fun i' hi' => ?_⟩
                  · rw [setRow_other w b b2 _ (fun e => by have := R.inj z z (j' + 1) (j + 1) b (e ▸ hb2) hb; omega)]; exact hh2
                  · obtain ⟨v, hv, ho', hf⟩ := hr2 i' hi'
                    dsimp only
                    rw [if_neg (by omega)]
                    exact ⟨v, hv, ho', hfr hf⟩
                · exact .inr hst
          exact fin hv (storeVar_run hk hh (by rw [hcells]; simp) (by rw [hcells] at hfit; simpa using hfit) (by rw [hcells]; simpa using hone)) R' F h
        · rw [hb] at hn; cases hn
      · cases h
    · cases h
  · cases h
end
def AV.killP (p : AV → Bool) (c : AV) : AV := if p c then .any else c
theorem killK_eq {β : Type} (p : AV → Bool) (l : List (Nat × AV)) (q : List (Nat × AV) → β) : killK p l q = q (l.map fun e => (e.1, e.2.killP p)) := by
  induction l generalizing q with
  | nil => rfl
  | cons e r ih =>
    obtain ⟨k, c⟩ := e
    simp only [killK]
    cases h : p c <;> simp [ih, h, AV.killP]
/-- a block, what falls forgotten -/
def Blk.kill (p : AV → Bool) : Blk → Blk
  | .box cs => .box (killL p cs)
  | .pin x b => match p (.ptr x 0) with | true => .arr 1 0 fun _ _ => .any | false => .pin x b
  | b => b
theorem killS_eq {β : Type} (p : AV → Bool) (l : List (Name × Blk)) (q : List (Name × Blk) → β) : killS p l q = q (l.map fun e => (e.1, e.2.kill p)) := by
  induction l generalizing q with
  | nil => rfl
  | cons e r ih =>
    obtain ⟨k, c⟩ := e
    cases c
    case pin x b => cases h : p (.ptr x 0) <;> simp [killS, Blk.kill, ih, h]
    all_goals simp [killS, Blk.kill, ih]
theorem look_map {α : Type} (f : α → α) (l : List (Nat × α)) (t : Nat) : look (l.map fun e => (e.1, f e.2)) t = (look l t).map f := by
  induction l with
  | nil => rfl
  | cons e r ih =>
    obtain ⟨k, c⟩ := e
    simp only [List.map_cons, look_cons]
    split
    · rfl
    · exact ih
theorem killL_get (p : AV → Bool) : ∀ (cs : List AV) (i : Nat) (c : AV), (killL p cs)[i]? = some c → ∃ d, cs[i]? = some d ∧ c = if p d then AV.any else d
  | [], i, c, h => by simp [killL] at h
  | d :: r, i, c, h => by
    simp only [killL] at h
    cases i with
    | zero =>
      simp at h
      refine ⟨d, rfl, ?_⟩
      cases hp : p d <;> simp [hp] at h ⊢ <;> exact h.symm
    | succ i => exact killL_get p r i c (by simpa using h)
theorem killL_len (p : AV → Bool) : ∀ (cs : List AV), (killL p cs).length = cs.length
  | [] => rfl
  | d :: r => by simp [killL, killL_len p r]
theorem killL_names (x : Name) : ∀ (cs : List AV), x ∉ namesL (killL (fun c => c.names.contains x) cs)
  | [], h => by simp [killL, namesL] at h
  | d :: r, h => by
    simp only [killL, namesL, List.mem_append] at h
    rcases h with h | h
    · cases hp : d.names.contains x with
      | true => rw [hp] at h; cases h
      | false =>
        rw [hp] at h
        have : d.names.contains x = true := by simpa using h
        rw [this] at hp; cases hp
    · exact killL_names x r h
theorem kill_env {env : List (Nat × AV)} (x : Name) {t : Nat} {c : AV} (h : look (env.map fun e => (e.1, e.2.killP fun c => c.names.contains x)) t = some c) : x ∉ c.names := by
  rw [look_map (AV.killP fun c => c.names.contains x)] at h
  obtain ⟨d, _, rfl⟩ := Option.map_eq_some_iff.1 h
  unfold AV.killP
  split
  · simp [AV.names]
  · rename_i hne; intro hm; exact hne (by simpa using hm)
theorem kill_st {st : List (Name × Blk)} (x : Name) {t : Nat} {k : Blk} (h : look (st.map fun e => (e.1, e.2.kill fun c => c.names.contains x)) t = some k) : x ∉ k.names := by
  rw [look_map (Blk.kill fun c => c.names.contains x)] at h
  obtain ⟨d, _, rfl⟩ := Option.map_eq_some_iff.1 h
  cases d with
  | box cs => exact killL_names x cs
  | pin y b =>
    simp only [Blk.kill]
    split
    · simp [Blk.names]
    · rename_i hne
      intro hm
      simp only [Blk.names, List.mem_singleton] at hm
      subst hm
      simp [AV.names] at hne
  | _ => simp [Blk.kill, Blk.names]
section
variable {P : Program} {ty : TypeId} {N : Nat} {B : Nat → Prop} {fr : Name → Prop} {φ : Loc} {s : AS} {a : Act} {w : World}
theorem RelAt.drew (R : RelAt N B fr φ s a w) : RelAt N B fr φ s a w.drew ∧ Fwd φ w φ w.drew NoW := by
  have k : Keeps w (Excl B φ) φ w.drew (Excl B φ) φ := ⟨fun _ _ _ => rfl, Nat.le_refl _, fun _ h => .inl h⟩
  have hc : ∀ y, φ y = φ y ∧ ∀ i b cs e z, φ y i = some (some b) → w.heap[b]? = some (.cells cs e z) → ∃ cs' e' z', w.drew.heap[b]? = some (.cells cs' e' z') ∧ cs.size ≤ cs'.size := fun y => ⟨rfl, fun i b cs e z _ h => ⟨cs, e, z, h, Nat.le_refl _⟩⟩
  exact ⟨{ size := R.size, defers := R.defers, env := fun t c h => ⟨(R.env t c h).1, k.rep (fun y _ => hc y) (R.env t c h).2⟩, st := fun x bl h => k.blk ⟨rfl, fun _ _ _ => rfl⟩ (fun y _ => hc y) (R.st x bl h), inj := R.inj, lt := R.lt, ltB := R.ltB, free := R.free }, ⟨rfl, rfl, rfl, Nat.le_refl _, fun _ _ _ => rfl, fun x i _ h => .inl ⟨x, i, h, .inl ⟨rfl, rfl⟩⟩, keep_of fun _ _ => rfl⟩⟩
/-- what falls is forgotten -/
theorem RelAt.kill {env : List (Nat × AV)} {st : List (Name × Blk)} {nx : Nat} (R : RelAt N B fr φ ⟨env, st, nx⟩ a w) (p : AV → Bool) : RelAt N B fr φ ⟨env.map fun e => (e.1, e.2.killP p), st.map fun e => (e.1, e.2.kill p), nx⟩ a w :=
  { R with
    env := fun t c h => by
      rw [look_map (AV.killP p)] at h
      obtain ⟨d, hd, rfl⟩ := Option.map_eq_some_iff.1 h
      obtain ⟨h1, h2⟩ := R.env t d hd
      refine ⟨h1, ?_⟩
      unfold AV.killP
      split
      · exact .fr _ _ (.any _)
      · exact h2
    st := fun x k h => by
      rw [look_map (Blk.kill p)] at h
      obtain ⟨d, hd, rfl⟩ := Option.map_eq_some_iff.1 h
      have := R.st x d hd
      cases d with
      | box cs =>
        obtain ⟨b, vs, e, hb, hh, hs, hr⟩ := this
        refine ⟨b, vs, e, hb, hh, by rw [killL_len]; exact hs, fun i c v h1 h2 => ?_⟩
        obtain ⟨d, hd, rfl⟩ := killL_get p cs i c h1
        split
        · exact .fr _ _ (.any _)
        · exact hr i d v hd h2
      | pin y b =>
        simp only [Blk.kill]
        split
        · exact ⟨Nat.succ_pos 0, .inr ⟨this.1, rfl⟩⟩
        · exact this
      | _ => exact this }
/-- a row of ours is laid elsewhere: nothing else names it -/
theorem RelAt.reloc {env : List (Nat × AV)} {st : List (Name × Blk)} {nx : Nat} (R : RelAt N B fr φ ⟨env, st, nx⟩ a w) {x : Name} (hx : φ x 0 ≠ none) (henv : ∀ t c, look env t = some c → x ∉ c.names) (hst : ∀ y k, y ≠ x → look st y = some k → x ∉ k.names)
    {w' : World} (hs : w.heap.size ≤ w'.heap.size) (hb : ∀ b, b < w.heap.size → w'.heap[b]? = w.heap[b]?) (ho : w'.os = w.os) (ht : w'.tape = w.tape) (hu : w'.output = w.output) {b' : Nat} (hb' : w.heap.size ≤ b' ∧ b' < w'.heap.size) {bl : Blk}
    (hbl : (∀ {c : AV} {v : Value}, Fr w (Excl B φ) c v → Fr w' (Excl B (φ.ext x (some b'))) c v) → BlkAt w' (Excl B (φ.ext x (some b'))) (φ.ext x (some b')) x bl) :
    RelAt N B fr (φ.ext x (some b')) ⟨env, upd st x bl, nx⟩ a w' ∧ Fwd φ w (φ.ext x (some b')) w' NoW := by
  have hin : ∀ y i b, φ.ext x (some b') y i = some (some b) → (y ≠ x ∧ φ y i = some (some b)) ∨ (y = x ∧ i = 0 ∧ b' = b) := by
    intro y i b h
    unfold Loc.ext at h
    split at h
    · rename_i hy
      split at h
      · rename_i hi; injection h with h; injection h with h; exact .inr ⟨hy, hi, h⟩
      · cases h
    · rename_i hy; exact .inl ⟨hy, h⟩
  have k : Keeps w (Excl B φ) φ w' (Excl B (φ.ext x (some b'))) (φ.ext x (some b')) := ⟨fun b h _ => hb b h, hs, fun b h => by
    rcases h with h | ⟨y, i, h⟩
    · exact .inl (.inl h)
    · rcases hin y i b h with ⟨_, h⟩ | ⟨_, _, h⟩
      · exact .inl (.inr ⟨y, i, h⟩)
      · exact .inr (by omega)⟩
  have hrep : ∀ {c : AV} {u : Value}, x ∉ c.names → Rep w (Excl B φ) φ c u → Rep w' (Excl B (φ.ext x (some b'))) (φ.ext x (some b')) c u := fun hc h =>
    k.rep (fun y hy => ⟨φ.ext_ne x _ (fun e => hc (e ▸ hy)), fun i b cs e z h1 h2 => ⟨cs, e, z, (hb b (R.lt y i b h1).1).trans h2, Nat.le_refl _⟩⟩) h
  refine ⟨?_, ?_⟩
  · exact
    { size := R.size
      defers := R.defers
      env := fun t c hc => ⟨(R.env t c hc).1, hrep (henv t c hc) (R.env t c hc).2⟩
      st := fun y bl' hl => by
        rcases look_upd _ _ _ _ _ hl with ⟨rfl, rfl⟩ | ⟨hne, hl⟩
        · exact hbl fun h => k.fr h
        · exact k.blk ⟨φ.ext_ne x _ hne, fun i b h2 => hb b (R.lt y i b h2).1⟩ (fun z hz => ⟨φ.ext_ne x _ (fun e => hst y bl' hne hl (e ▸ hz)), fun i b cs e zz h3 h4 => ⟨cs, e, zz, (hb b (R.lt z i b h3).1).trans h4, Nat.le_refl _⟩⟩) (R.st y bl' hl)
      inj := fun y z i j b h1 h2 => by
        rcases hin y i b h1 with ⟨_, h3⟩ | ⟨e1, e2, h3⟩ <;> rcases hin z j b h2 with ⟨_, h4⟩ | ⟨e3, e4, h4⟩
        · exact R.inj y z i j b h3 h4
        · have := (R.lt y i b h3).1; omega
        · have := (R.lt z j b h4).1; omega
        · exact ⟨e1.trans e3.symm, e2.trans e4.symm⟩
      lt := fun y i b h => by
        rcases hin y i b h with ⟨_, h⟩ | ⟨_, _, h⟩
        · have := R.lt y i b h; exact ⟨by omega, this.2⟩
        · subst h; exact ⟨hb'.2, fun hB => by have := R.ltB b' hB; omega⟩
      ltB := fun b h => by have := R.ltB b h; omega
      free := fun y hy i => by rw [φ.ext_ne x _ (fun e => hx (e ▸ R.free y hy 0))]; exact R.free y hy i }
  · exact ⟨ho, ht, hu, hs, fun b h _ => hb b h, fun y i b h => by
      rcases hin y i b h with ⟨_, h⟩ | ⟨_, _, h⟩
      · exact .inl ⟨y, i, h, .inl ⟨rfl, rfl⟩⟩
      · exact .inr (by omega), keep_of hb⟩
/-- cells one behind the other, as a list -/
theorem cells_list {X : Nat → Prop} {sz m b o : Nat} {g : Nat → Nat → AV} (h0 : 0 < sz) (h : ∀ j c, j < m → c < sz → ∃ u, w.cell? ⟨b, o + (j * sz + c), none⟩ = some u ∧ u.oneCell' = true ∧ Fr w X (g j c) u) :
    ∃ news : List Value, news.length = m * sz ∧ (∀ (q : Nat) (u : Value), news[q]? = some u → w.cell? ⟨b, o + q, none⟩ = some u) ∧ (∀ u ∈ news, u.oneCell' = true) ∧ ∀ j c, j < m → c < sz → ∃ u, news[j * sz + c]? = some u ∧ u.oneCell' = true ∧ Fr w X (g j c) u := by
  have at_ : ∀ q, q < m * sz → ∃ u, w.cell? ⟨b, o + q, none⟩ = some u ∧ u.oneCell' = true ∧ Fr w X (g (q / sz) (q % sz)) u := fun q hq => by
    have h1 : q / sz < m := (Nat.div_lt_iff_lt_mul h0).2 hq
    obtain ⟨u, h2, h3⟩ := h (q / sz) (q % sz) h1 (Nat.mod_lt _ h0)
    rw [Nat.mul_comm, Nat.div_add_mod] at h2
    exact ⟨u, h2, h3⟩
  refine ⟨(List.range (m * sz)).map fun q => (w.cell? ⟨b, o + q, none⟩).getD undef, by simp, fun q u hq => ?_, fun u hu => ?_, fun j c h1 h2 => ?_⟩
  · simp only [List.getElem?_map] at hq
    obtain ⟨q', hq', rfl⟩ := Option.map_eq_some_iff.1 hq
    have hlt : q < m * sz := by have := (List.getElem?_eq_some_iff.1 hq').1; simpa using this
    rw [List.getElem?_range hlt] at hq'
    injection hq' with hq'
    subst hq'
    obtain ⟨u, h2, _⟩ := at_ q hlt
    rw [h2]; rfl
  · obtain ⟨q, hq, rfl⟩ := List.mem_map.1 hu
    obtain ⟨u, h2, h3, _⟩ := at_ q (by simpa using hq)
    rw [h2]; exact h3
  · have hlt : j * sz + c < m * sz := by
      have : (j + 1) * sz ≤ m * sz := Nat.mul_le_mul_right _ h1
      rw [Nat.succ_mul] at this; omega
    obtain ⟨u, h3, h4, h5⟩ := h j c h1 h2
    refine ⟨u, ?_, h4, h5⟩
    rw [List.getElem?_map, List.getElem?_range hlt]
    simp [h3]
theorem src_spec {st : List (Name × Blk)} {env : List (Nat × AV)} {nx : Nat} (R : RelAt N B fr φ ⟨env, st, nx⟩ a w) {t e : TypeId} (ht : P.underlying t = some (.slice e)) {sz m : Nat} {p : Prop} {g : Nat → Nat → AV} {c : AV} {v : Value} (h0 : 0 < sz) (hc : srcOf st sz c = some (p, m, g)) (hp : p) (hr : Rep w (Excl B φ) φ c v) :
    ∃ news : List Value, Src P sz t v m news w ∧ ∀ j c, j < m → c < sz → ∃ u, news[j * sz + c]? = some u ∧ u.oneCell' = true ∧ Fr w (Excl B φ) (g j c) u := by
  unfold srcOf at hc
  split at hc
  · rename_i y sz' off m'
    split at hc
    · rename_i sz'' n g' hl
      split at hc
      · rename_i hsz
        injection hc with hc; injection hc with h1 h2; injection h2 with h2 h3
        subst h1; subst h2; subst h3
        simp only [Bool.and_eq_true] at hsz
        have e1 : sz = sz' := Nat.eq_of_beq_eq_true hsz.1
        have e2 : sz = sz'' := Nat.eq_of_beq_eq_true hsz.2
        subst e1; subst e2
        rcases rep_own hr with ⟨cap, b, cs, e', z, hb, hh, hcap, hz, rfl⟩ | ⟨hb, _, hn0, rfl⟩
        · obtain ⟨_, ⟨b', vs, e2, hb', hh', hs, hrr⟩ | ⟨hn, _⟩⟩ := R.st y _ hl
          · rw [hb] at hb'; injection hb' with hb'; injection hb' with hb'; subst hb'
            obtain ⟨news, n1, n2, n3, n4⟩ := cells_list (w := w) (X := Excl B φ) (sz := sz) (m := m') (b := b) (o := off * sz) (g := fun j c => g' (j + off) c) h0 (fun j c h1 h2 => by
              obtain ⟨u, hu, ho, hf⟩ := hrr (j + off) c (by omega) h2
              refine ⟨u, ?_, ho, hf⟩
              rw [cell_of_heap hh', ← hu, Nat.add_mul, show off * sz + (j * sz + c) = j * sz + off * sz + c from by omega])
            exact ⟨news, Src.ofSlice w ht _ _ _ news n1 (fun q u hq => by rw [addr_add _ rfl]; exact n2 q u hq) n3, n4⟩
          · rw [hb] at hn; cases hn
        · subst hn0
          exact ⟨[], Src.ofNil w ht 0, fun j c h => by omega⟩
      · cases hc
    · cases hc
  · rename_i sz' m' g'
    split at hc
    · rename_i hsz
      injection hc with hc; injection hc with h1 h2; injection h2 with h2 h3
      subst h1; subst h2; subst h3
      have e1 : sz = sz' := Nat.eq_of_beq_eq_true hsz
      subst e1
      have hF := rep_fro hr
      cases v with
      | slice ad len cap =>
        cases hF with
        | fro _ _ _ ad cap gg hs hxx hlt hcap hrr hg1 hf =>
          obtain ⟨news, n1, n2, n3, n4⟩ := cells_list (w := w) (X := Excl B φ) (sz := sz) (m := m') (b := ad.block) (o := ad.off) (g := g') h0 (fun j c h1 h2 => ⟨gg j c, hrr j c h1 h2, hg1 j c h1 h2, hf j c h1 h2⟩)
          exact ⟨news, Src.ofSlice w ht _ _ _ news n1 (fun q u hq => by rw [addr_add _ hs]; exact n2 q u hq) n3, n4⟩
        | froNil _ _ => exact ⟨[], Src.ofNil w ht 0, fun j c h => by omega⟩
        | froZero _ _ ad cap => exact ⟨[], Src.ofSlice w ht ad 0 cap [] (by simp) (fun q u hq => by simp at hq) (fun u hu => by simp at hu), fun j c h => by omega⟩
      | _ => cases hF
    · cases hc
  · rename_i y j m'
    split at hc
    · rename_i n len g' hl
      split at hc
      · injection hc with hc; injection hc with h1 h2; injection h2 with h2 h3
        subst h1; subst h2; subst h3
        obtain ⟨hj, hm⟩ := hp
        rcases rep_row hr with ⟨cap, b, cs, e', z, hb, hh, hcap, hz, rfl⟩ | ⟨hb, hn0, rfl⟩
        · obtain ⟨_, hrows⟩ := R.st y _ hl
          rcases hrows j hj with ⟨b', vs, e2, hb', hh', hs, hrr⟩ | ⟨hn, _⟩
          · rw [hb] at hb'; injection hb' with hb'; injection hb' with hb'; subst hb'
            obtain ⟨news, n1, n2, n3, n4⟩ := cells_list (w := w) (X := Excl B φ) (sz := 1) (m := m') (b := b) (o := 0) (g := fun c _ => g' j c) h0 (fun i c h1 h2 => by
              obtain ⟨u, hu, ho, hf⟩ := hrr i (by omega)
              refine ⟨u, ?_, ho, hf⟩
              rw [cell_of_heap hh', ← hu, show 0 + (i * 1 + c) = i from by omega])
            exact ⟨news, Src.ofSlice w ht _ _ _ news n1 (fun q u hq => by rw [addr_add _ rfl]; exact n2 q u hq) n3, n4⟩
          · rw [hb] at hn; cases hn
        · subst hn0
          exact ⟨[], Src.ofNil w ht 0, fun j c h => by omega⟩
      · cases hc
    · cases hc
  · injection hc with hc; injection hc with h1 h2; injection h2 with h2 h3
    subst h1; subst h2; subst h3
    obtain ⟨rfl, _⟩ := rep_raw hr
    exact ⟨[], Src.ofNil w ht 0, fun j c h => by omega⟩
  · cases hc
end
section
variable {P : Program} {ty : TypeId} {N : Nat} {B : Nat → Prop} {fr : Name → Prop} {φ : Loc} {s : AS} {a : Act} {w : World}
/-- the cells of a row that is made by an append: old ones, new ones, zeros -/
theorem made_cells {olds news : List Value} {zs : Array Value} {sz len m : Nat} (h0 : 0 < sz) (h1 : olds.length = len * sz) (h2 : news.length = m * sz) {Q : Nat → Nat → Value → Prop} {f g : Nat → Nat → AV} {w : World} {X : Nat → Prop}
    (ho : ∀ j c, j < len → c < sz → ∃ u, olds[j * sz + c]? = some u ∧ u.oneCell' = true ∧ Fr w X (f j c) u) (hn : ∀ j c, j < m → c < sz → ∃ u, news[j * sz + c]? = some u ∧ u.oneCell' = true ∧ Fr w X (g j c) u) :
    ∀ j c, j < len + m → c < sz → ∃ u, ((olds ++ news).toArray ++ zs)[j * sz + c]? = some u ∧ u.oneCell' = true ∧ Fr w X (if j < len then f j c else g (j - len) c) u := by
  intro j c hj hc
  have hb : j * sz + c < (olds ++ news).length := by
    rw [List.length_append, h1, h2, ← Nat.add_mul]
    have : (j + 1) * sz ≤ (len + m) * sz := Nat.mul_le_mul_right _ hj
    rw [Nat.succ_mul] at this; omega
  rw [Array.getElem?_append_left (by simpa using hb), List.getElem?_toArray]
  by_cases hl : j < len
  · have hb2 : j * sz + c < olds.length := by
      rw [h1]
      have : (j + 1) * sz ≤ len * sz := Nat.mul_le_mul_right _ hl
      rw [Nat.succ_mul] at this; omega
    rw [List.getElem?_append_left hb2, if_pos hl]
    exact ho j c hl hc
  · have hb2 : olds.length ≤ j * sz + c := by
      rw [h1]
      have : len * sz ≤ j * sz := Nat.mul_le_mul_right _ (by omega)
      omega
    rw [List.getElem?_append_right hb2, if_neg hl, h1]
    have : j * sz + c - len * sz = (j - len) * sz + c := by
      have h3 : j * sz = (j - len) * sz + len * sz := by rw [← Nat.add_mul]; congr 1; omega
      omega
    rw [this]
    exact hn (j - len) c (by omega) hc
theorem fr_drew {w : World} {X : Nat → Prop} {c : AV} {v : Value} (h : Fr w X c v) : Fr w.drew X c v := h.mono (w := w) (w' := w.drew) (fun _ _ _ => rfl) (Nat.le_refl _) (fun _ h => .inl h)
theorem app_len {need bytes : Nat} (hb : 0 < bytes) (h : need * bytes ≤ 140737488355328) : ((need : Nat) : Int) ≤ 9223372036854775807 := by
  have : need * 1 ≤ need * bytes := Nat.mul_le_mul_left _ hb
  omega
theorem zeros_size (z : Array Value) (n : Nat) : (Builtin.zeroCells z n).size = n * z.size := by simp [Builtin.zeroCells]
theorem sound_app {o : Oper} {t e : TypeId} {x y : Operand} (ho : o.op = .call { callee := .builtin .append, args := #[x, y], argTypes := #[t, t] }) (ht : P.underlying t = some (.slice e)) {i : TypeInfo} (hi : P.info? e = some i) {z : Value} (hz : i.zero = some z) (hzs : z.cells.size = i.size) (h0 : 0 < i.size) (hby : 0 < i.bytes)
    {nm : Name} (hf : fr nm) {K : AS → Prop} (hd : ∀ d, o.dst = some d → d < N)
    {env : List (Nat × AV)} {st : List (Name × Blk)} {nx : Nat} (h : evOp1 P ⟨env, st, nx⟩ nm o.dst K (.app i.size i.bytes x y)) (R : RelAt N B fr φ ⟨env, st, nx⟩ a w) {Q : Exit → Act → World → Prop} : o.wp P a w (After N B (fun x => fr x ∧ x ≠ nm) φ w (foot ⟨env, st, nx⟩ (.app i.size i.bytes x y)) K) Q := by
  have hrun : ∀ {v : Value} {w' : World}, (Builtin.append_ #[t, t] o.type #[a.eval x, a.eval y]).run P w = .ok v w' → (execOp a.eval o).run P w = .ok (.value v) w' := fun hr => by
    simp [execOp, ho, resolve, invoke, builtin, hr]
  have fin : ∀ {v : Value} {w' : World} {c : AV} {st' : List (Name × Blk)} {env' : List (Nat × AV)} {φ' : Loc}, (Builtin.append_ #[t, t] o.type #[a.eval x, a.eval y]).run P w = .ok v w' → RelAt N B (fun x => fr x ∧ x ≠ nm) φ' ⟨env', st', nx⟩ a w' → Rep w' (Excl B φ') φ' c v → Fwd φ w φ' w' (foot ⟨env, st, nx⟩ (.app i.size i.bytes x y)) → K ⟨updO env' o.dst c, st', nx⟩ → o.wp P a w (After N B (fun x => fr x ∧ x ≠ nm) φ w (foot ⟨env, st, nx⟩ (.app i.size i.bytes x y)) K) Q := by
    intro v w' c st' env' φ' hr R' hrep F hK
    unfold Oper.wp
    rw [hrun hr]
    exact ⟨_, φ', hK, R'.putDst hd hrep, F⟩
  simp only [evOp1] at h
  split at h
  · -- nil
    rename_i c hx hy
    have hxv := (rep_raw (R.opd hx)).1
    split at h
    · rename_i p m g hsrc
      obtain ⟨⟨hp, hb⟩, h⟩ := h
      rw [outK_eq] at h
      obtain ⟨news, hS, hn⟩ := src_spec R ht h0 hsrc hp (R.opd hy)
      by_cases hm : m = 0
      · subst hm
        have hnews : news = [] := List.eq_nil_of_length_eq_zero (by rw [hS.newsLen]; simp)
        subst hnews
        obtain ⟨R', F, hrep, _⟩ := R.more (w' := w) (Nat.le_refl _) (fun _ _ => rfl) rfl rfl rfl hf (v := none) (fun b h => by cases h)
        refine fin (by rw [hxv]; exact run_append_nothing w t t o.type e i ht hi none 0 0 (Nat.le_refl _) _ hS) (R'.addSt (bl := .arr i.size 0 g) ⟨h0, .inr ⟨Loc.ext_same _ _ _, rfl⟩⟩) (.ownNil _ _ (Loc.ext_same _ _ _)) F.ofNo h
      · have hlen := app_len hby hb
        have hr := run_append_grow_src (P := P) w t t o.type e i z ht hi hz none 0 0 [] (by simp [Builtin.firstCells]) (a.eval y) m news hS (by omega) (by simpa using hlen) (by rw [Nat.zero_add, nextslicecap_zero (by omega)]; omega)
        obtain ⟨R1, F1⟩ := R.drew
        have hge := grownCap_ge w (0 + m) 0 e
        obtain ⟨φ', R', hrep, F⟩ := new_arr R1 hf (env := env) (st := st) (nx := nx) rfl (sz := i.size) (n := m) h0 (f := g) (vs := ([] ++ news).toArray ++ Builtin.zeroCells z.cells (grownCap w (0 + m) 0 e - (0 + m)))
          (by simp [hS.newsLen]) (fun j c h1 h2 => by
            have := made_cells (w := w.drew) (X := Excl B φ) (olds := []) (news := news) (zs := Builtin.zeroCells z.cells (grownCap w (0 + m) 0 e - (0 + m))) (len := 0) (f := g) (g := g) h0 (by simp) hS.newsLen (Q := fun _ _ _ => True) (fun j c h => by omega) (fun j c h1 h2 => by
              obtain ⟨u, h3, h4, h5⟩ := hn j c h1 h2
              exact ⟨u, h3, h4, fr_drew h5⟩) j c (by omega) h2
            simpa using this) e (grownCap w (0 + m) 0 e) (by omega) (by
              simp only [List.nil_append, Array.size_append, List.size_toArray, hS.newsLen, zeros_size, hzs]
              rw [← Nat.add_mul]
              exact Nat.mul_le_mul_right _ (by omega))
        refine fin (by rw [hxv]; exact hr) R' (by simpa using hrep) (F1.trans F).ofNo h
    · cases h
  · -- a row of ours
    rename_i nme sz' len c hx hy
    have hfo : foot ⟨env, st, nx⟩ (.app i.size i.bytes x y) = OneW nme 0 := by simp only [foot, hx]
    split at h
    · rename_i sz'' n f p m g hl hsrc
      split at h
      · rename_i hsz
        simp only [Bool.and_eq_true] at hsz
        have e1 : i.size = sz' := Nat.eq_of_beq_eq_true hsz.1
        have e2 : i.size = sz'' := Nat.eq_of_beq_eq_true hsz.2
        subst e1; subst e2
        obtain ⟨⟨hp, hb, hlen⟩, h⟩ := h
        rw [killK_eq, killS_eq, updK_eq, outK_eq] at h
        obtain ⟨news, hS, hn⟩ := src_spec R ht h0 hsrc hp (R.opd hy)
        have RK := R.kill (fun c => c.names.contains nme)
        have hl' := app_len hby hb
        have hlK : BlkAt w (Excl B φ) φ nme (.arr i.size n f) := R.st nme _ hl
        rcases rep_own (R.opd hx) with ⟨cap, b, cs, e', zz, hbn, hh, hcap, hzc, hxv⟩ | ⟨hbn, _, hn0, hxv⟩
        · obtain ⟨_, ⟨b', vs, e2, hb', hh', hs, hrr⟩ | ⟨hnn, _⟩⟩ := hlK
          · rw [hbn] at hb'; injection hb' with hb'; injection hb' with hb'; subst hb'
            rw [hh'] at hh; injection hh with hh; injection hh with q1 q2 q3; subst q1; subst q2; subst q3
            simp only [Nat.zero_add, Nat.zero_mul] at hzc hxv
            have holds : ∀ j c, j < len → c < i.size → ∃ u, vs[j * i.size + c]? = some u ∧ u.oneCell' = true ∧ Fr w (Excl B φ) (f j c) u := fun j c h1 h2 => hrr j c (by omega) h2
            by_cases hroom : len + m ≤ cap
            · -- there is room
              have hfit : len * i.size + news.length ≤ vs.size := by
                rw [hS.newsLen, ← Nat.add_mul]
                exact Nat.le_trans (Nat.mul_le_mul_right _ hroom) hzc
              have hst := run_storeCells_at P b (len * i.size) e2 news 0 vs w hh' (by simpa using hfit) hS.one
              simp only [Nat.add_zero] at hst
              have hr : (Builtin.append_ #[t, t] o.type #[.slice (some ⟨b, 0, none⟩) len cap, a.eval y]).run P w = .ok (.slice (some ⟨b, 0, none⟩) (len + m) cap) (w.setRow b (spliced vs (len * i.size) news)) := by
                simp [Builtin.append_, run_underlying ht, sizeOf, typeInfo, hi, hS.len, hroom, hS.cells, Addr.add_lit, hst, spliced]
              obtain ⟨R', F⟩ := RK.row hbn hh' (cs := spliced vs (len * i.size) news) (spliced_size hfit) (bl := .arr i.size (len + m) fun j c => if j < len then f j c else g (j - len) c) fun _ hfr =>
                ⟨h0, .inl ⟨b, _, e2, hbn, setRow_heap w b vs _ e2 (0, 0) hh', by rw [spliced_size hfit]; exact Nat.le_trans (Nat.mul_le_mul_right _ hroom) hzc, fun j c h1 h2 => by
                  dsimp only
                  rw [spliced_get hfit]
                  by_cases hjl : j < len
                  · have hlt : j * i.size + c < len * i.size := by
                      have : (j + 1) * i.size ≤ len * i.size := Nat.mul_le_mul_right _ hjl
                      rw [Nat.succ_mul] at this; omega
                    rw [if_neg (by omega), if_pos hjl]
                    obtain ⟨u, h3, h4, h5⟩ := holds j c hjl h2
                    exact ⟨u, h3, h4, hfr h5⟩
                  · have hge : len * i.size ≤ j * i.size := Nat.mul_le_mul_right _ (by omega)
                    have hlt : j * i.size + c < len * i.size + m * i.size := by
                      have : (j + 1) * i.size ≤ (len + m) * i.size := Nat.mul_le_mul_right _ h1
                      rw [Nat.succ_mul, Nat.add_mul] at this; omega
                    rw [if_pos ⟨by omega, by rw [hS.newsLen]; omega⟩, if_neg hjl]
                    have e3 : j * i.size + c - len * i.size = (j - len) * i.size + c := by
                      have h3 : j * i.size = (j - len) * i.size + len * i.size := by rw [← Nat.add_mul]; congr 1; omega
                      omega
                    rw [e3]
                    obtain ⟨u, h3, h4, h5⟩ := hn (j - len) c (by omega) h2
                    exact ⟨u, h3, h4, hfr h5⟩⟩⟩
              refine fin (by rw [hxv]; exact hr) (R'.less fun x hx => hx.1) ?_ (by rw [hfo]; exact F) h
              have := Rep.own (w := w.setRow b (spliced vs (len * i.size) news)) (X := Excl B φ) (φ := φ) nme i.size 0 (len + m) cap b _ e2 (0, 0) hbn (setRow_heap w b vs _ e2 (0, 0) hh') hroom (by rw [spliced_size hfit]; simpa using hzc)
              simpa using this
            · -- there is none
              have hfc : (Builtin.firstCells i.size len (.slice (some ⟨b, 0, none⟩) len cap)).run P w.drew = .ok (vs.toList.take (len * i.size)).toArray w.drew :=
                run_firstCells_some w.drew i.size len ⟨b, 0, none⟩ len cap (vs.toList.take (len * i.size)) (by
                  simp only [List.length_take, Array.length_toList]
                  have : len * i.size ≤ n * i.size := Nat.mul_le_mul_right _ hlen
                  omega) (fun j u hu => by
                  rw [addr_add _ rfl]
                  simp only [World.cell?_drew]
                  rw [cell_of_heap hh', Nat.zero_add]
                  rw [List.getElem?_take] at hu
                  split at hu
                  · simpa using hu
                  · cases hu)
              have holen : (vs.toList.take (len * i.size)).length = len * i.size := by
                simp only [List.length_take, Array.length_toList]
                have : len * i.size ≤ n * i.size := Nat.mul_le_mul_right _ hlen
                omega
              have hr := run_append_grow_src (P := P) w t t o.type e i z ht hi hz (some ⟨b, 0, none⟩) len cap (vs.toList.take (len * i.size)) hfc (a.eval y) m news hS (by omega) hl' (growslice_fits (by omega) hb)
              obtain ⟨R1, F1⟩ := RK.drew
              have hge := grownCap_ge w (len + m) cap e
              obtain ⟨R', F⟩ := R1.reloc (x := nme) (by rw [hbn]; simp) (fun t' c hc => kill_env nme hc) (fun y' k _ hk => kill_st nme hk)
                (w' := w.drew.alloc (.cells ((vs.toList.take (len * i.size) ++ news).toArray ++ Builtin.zeroCells z.cells (grownCap w (len + m) cap e - (len + m))) e)) (by simp) (fun c hc => Below.heap_alloc w.drew _ c hc) rfl rfl rfl (b' := w.heap.size) ⟨Nat.le_refl _, by simp⟩
                (bl := .arr i.size (len + m) fun j c => if j < len then f j c else g (j - len) c) fun hfr => ⟨h0, .inl ⟨w.heap.size, _, e, Loc.ext_same _ _ _, alloc_at w.drew _, by
                  simp only [Array.size_append, List.size_toArray, List.length_append, holen, hS.newsLen, ← Nat.add_mul]; omega, fun j c h1 h2 => by
                    obtain ⟨u, h3, h4, h5⟩ := made_cells (w := w) (X := Excl B φ) (olds := vs.toList.take (len * i.size)) (news := news) (zs := Builtin.zeroCells z.cells (grownCap w (len + m) cap e - (len + m))) (f := f) (g := g) h0 holen hS.newsLen (Q := fun _ _ _ => True) (fun j c h1 h2 => by
                      obtain ⟨u, h3, h4, h5⟩ := holds j c h1 h2
                      refine ⟨u, ?_, h4, h5⟩
                      have hlt : j * i.size + c < len * i.size := by
                        have : (j + 1) * i.size ≤ len * i.size := Nat.mul_le_mul_right _ h1
                        rw [Nat.succ_mul] at this; omega
                      rw [List.getElem?_take_of_lt hlt]; simpa using h3) hn j c h1 h2
                    exact ⟨u, h3, h4, hfr (fr_drew h5)⟩⟩⟩
              refine fin (by rw [hxv]; exact hr) (R'.less fun x hx => hx.1) ?_ (F1.trans F).ofNo h
              have := Rep.own (w := w.drew.alloc (.cells ((vs.toList.take (len * i.size) ++ news).toArray ++ Builtin.zeroCells z.cells (grownCap w (len + m) cap e - (len + m))) e)) (X := Excl B (φ.ext nme (some w.heap.size))) (φ := φ.ext nme (some w.heap.size)) nme i.size 0 (len + m) (grownCap w (len + m) cap e) w.heap.size _ e (0, 0) (Loc.ext_same _ _ _) (alloc_at w.drew _) hge (by
                simp only [Array.size_append, List.size_toArray, List.length_append, holen, hS.newsLen, zeros_size, hzs, ← Nat.add_mul]
                exact Nat.mul_le_mul_right _ (by omega))
              simpa using this
          · rw [hbn] at hnn; cases hnn
        · -- a nil row of ours
          subst hn0
          have hf0 : ∀ j c, (if j < 0 then f j c else g (j - 0) c) = g j c := fun j c => by simp
          by_cases hm : m = 0
          · subst hm
            have hnews : news = [] := List.eq_nil_of_length_eq_zero (by rw [hS.newsLen]; simp)
            subst hnews
            have R' : RelAt N B (fun x => fr x ∧ x ≠ nm) φ ⟨_, upd _ nme (.arr i.size (0 + 0) fun j c => if j < 0 then f j c else g (j - 0) c), nx⟩ a w := (RK.addSt (x := nme) (bl := .arr i.size (0 + 0) fun j c => if j < 0 then f j c else g (j - 0) c) ⟨h0, .inr ⟨hbn, rfl⟩⟩).less fun x hx => hx.1
            refine fin (by rw [hxv]; exact run_append_nothing w t t o.type e i ht hi none 0 0 (Nat.le_refl _) _ hS) R' (.ownNil _ _ hbn) (Fwd.refl _ _) h
          · have hr := run_append_grow_src (P := P) w t t o.type e i z ht hi hz none 0 0 [] (by simp [Builtin.firstCells]) (a.eval y) m news hS (by omega) (by simpa using hl') (by rw [Nat.zero_add] at hb ⊢; rw [nextslicecap_zero (by omega)]; omega)
            obtain ⟨R1, F1⟩ := RK.drew
            have hge := grownCap_ge w (0 + m) 0 e
            obtain ⟨R', F⟩ := R1.reloc (x := nme) (by rw [hbn]; simp) (fun t' c hc => kill_env nme hc) (fun y' k _ hk => kill_st nme hk)
                (w' := w.drew.alloc (.cells (([] ++ news).toArray ++ Builtin.zeroCells z.cells (grownCap w (0 + m) 0 e - (0 + m))) e)) (by simp) (fun c hc => Below.heap_alloc w.drew _ c hc) rfl rfl rfl (b' := w.heap.size) ⟨Nat.le_refl _, by simp⟩
              (bl := .arr i.size (0 + m) fun j c => if j < 0 then f j c else g (j - 0) c) fun hfr => ⟨h0, .inl ⟨w.heap.size, _, e, Loc.ext_same _ _ _, alloc_at w.drew _, by
                simp [hS.newsLen], fun j c h1 h2 => by
                  obtain ⟨u, h3, h4, h5⟩ := made_cells (w := w) (X := Excl B φ) (olds := []) (news := news) (zs := Builtin.zeroCells z.cells (grownCap w (0 + m) 0 e - (0 + m))) (len := 0) (f := f) (g := g) h0 (by simp) hS.newsLen (Q := fun _ _ _ => True) (fun j c h => by omega) hn j c h1 h2
                  exact ⟨u, h3, h4, hfr (fr_drew h5)⟩⟩⟩
            refine fin (by rw [hxv]; exact hr) (R'.less fun x hx => hx.1) ?_ (F1.trans F).ofNo h
            have := Rep.own (w := w.drew.alloc (.cells (([] ++ news).toArray ++ Builtin.zeroCells z.cells (grownCap w (0 + m) 0 e - (0 + m))) e)) (X := Excl B (φ.ext nme (some w.heap.size))) (φ := φ.ext nme (some w.heap.size)) nme i.size 0 (0 + m) (grownCap w (0 + m) 0 e) w.heap.size _ e (0, 0) (Loc.ext_same _ _ _) (alloc_at w.drew _) hge (by
              simp only [Array.size_append, List.size_toArray, List.nil_append, hS.newsLen, zeros_size, hzs, ← Nat.add_mul]
              exact Nat.mul_le_mul_right _ (by omega))
            simpa using this
      · cases h
    · cases h
  · cases h
end
theorem fr_names {w : World} {X : Nat → Prop} {c : AV} {v : Value} (h : Fr w X c v) : c.names = [] := by
  have lists : ∀ {cs : List AV} {vs : List Value}, cs.length = vs.length → (∀ (i : Nat) (c : AV) (v : Value), cs[i]? = some c → vs[i]? = some v → c.names = []) → namesL cs = [] := by
    intro cs
    induction cs with
    | nil => intro vs _ _; rfl
    | cons d r ih =>
      intro vs hl h
      cases vs with
      | nil => cases hl
      | cons u us =>
        simp only [namesL, List.append_eq_nil_iff]
        exact ⟨h 0 d u rfl rfl, ih (by simpa using hl) fun i c v h1 h2 => h (i + 1) c v (by simpa using h1) (by simpa using h2)⟩
  induction h with
  | agg cs vs hl h ih => exact lists hl ih
  | tup cs vs hl h ih => exact lists hl ih
  | fn f first cap vs us hl hl' h h' ih ih' => simp only [AV.names, List.append_eq_nil_iff]; exact ⟨lists hl ih, lists hl' ih'⟩
  | _ => rfl
mutual
theorem up_nil (k : Nat) : ∀ (c : AV), c.names = [] → c.up k = c
  | .any, _ => rfl
  | .raw _, _ => rfl
  | .tst _, _ => rfl
  | .agg cs, h => by simp only [AV.up]; rw [upL_nil k cs (by simpa [AV.names] using h)]
  | .tup cs, h => by simp only [AV.up]; rw [upL_nil k cs (by simpa [AV.names] using h)]
  | .fro _ _ _, _ => rfl
  | .fpt _ _, _ => rfl
  | .own _ _ _ _, h => by simp [AV.names] at h
  | .ptr _ _, h => by simp [AV.names] at h
  | .elt _ _ _ _, h => by simp [AV.names] at h
  | .row _ _ _, h => by simp [AV.names] at h
  | .relt _ _ _, h => by simp [AV.names] at h
  | .mp _, h => by simp [AV.names] at h
  | .fn f a b, h => by
    simp only [AV.names, List.append_eq_nil_iff] at h
    simp only [AV.up]
    rw [upL_nil k a h.1, upL_nil k b h.2]
theorem upL_nil (k : Nat) : ∀ (cs : List AV), namesL cs = [] → upL k cs = cs
  | [], _ => rfl
  | d :: r, h => by
    simp only [namesL, List.append_eq_nil_iff] at h
    simp only [upL]
    rw [up_nil k d h.1, upL_nil k r h.2]
end
theorem upL_get (k : Nat) : ∀ (cs : List AV) (i : Nat), (upL k cs)[i]? = (cs[i]?).map (AV.up k)
  | [], i => by simp [upL]
  | d :: r, i => by
    simp only [upL]
    cases i with
    | zero => simp
    | succ i => simpa using upL_get k r i
theorem upL_len (k : Nat) : ∀ (cs : List AV), (upL k cs).length = cs.length
  | [] => rfl
  | d :: r => by simp [upL, upL_len k r]
/-- names that are moved up, beside those that are there -/
def Loc.plus (φ : Loc) (k : Nat) (ψ : Loc) : Loc := fun x i => if k ≤ x ∧ x < k + 8 then ψ (x - k) i else φ x i
theorem plus_new {φ ψ : Loc} {k x i : Nat} (h : x < 8) : φ.plus k ψ (x + k) i = ψ x i := by
  have h1 : k ≤ x + k ∧ x + k < k + 8 := ⟨by omega, by omega⟩
  unfold Loc.plus
  rw [if_pos h1, Nat.add_sub_cancel]
theorem plus_old {φ ψ : Loc} {k x : Nat} (h : ¬ (k ≤ x ∧ x < k + 8)) : φ.plus k ψ x = φ x := by
  funext i; unfold Loc.plus; rw [if_neg h]
/-- no memory: frozen wherever -/
theorem fr_flat {w w' : World} {X X' : Nat → Prop} {c : AV} {v : Value} (h : Fr w X c v) : c.flat = true → Fr w' X' c v := by
  have lists : ∀ {cs : List AV}, flatL cs = true → ∀ (i : Nat) (c : AV), cs[i]? = some c → c.flat = true := by
    intro cs
    induction cs with
    | nil => intro _ i c h; cases h
    | cons d r ih =>
      intro h i c hc
      simp only [flatL, Bool.and_eq_true] at h
      cases i with
      | zero => simp at hc; subst hc; exact h.1
      | succ i => exact ih h.2 i c (by simpa using hc)
  induction h with
  | any v => intro h; cases h
  | raw v h => exact fun _ => .raw v h
  | tst b => exact fun _ => .tst b
  | agg cs vs hl h ih => exact fun hf => .agg cs vs hl fun i c v h1 h2 => ih i c v h1 h2 (lists (by simpa [AV.flat] using hf) i c h1)
  | tup cs vs hl h ih => exact fun hf => .tup cs vs hl fun i c v h1 h2 => ih i c v h1 h2 (lists (by simpa [AV.flat] using hf) i c h1)
  | _ => intro h; cases h
section
variable {P : Program} {ty : TypeId} {N : Nat} {B : Nat → Prop} {fr : Name → Prop} {φ : Loc} {s : AS} {a : Act} {w : World}
theorem rep_up {w : World} {X X' : Nat → Prop} {φ ψ : Loc} {k : Nat} (h8 : ∀ x, 8 ≤ x → ∀ i, ψ x i = none) {c : AV} {v : Value} (h : Rep w X ψ c v) (hfr : ∀ {c : AV} {v : Value}, Fr w X c v → Fr w X' c v) : Rep w X' (φ.plus k ψ) (c.up k) v := by
  have lt8 : ∀ {x i : Nat} {z}, ψ x i = some z → x < 8 := fun {x i z} h => by
    rcases Nat.lt_or_ge x 8 with h1 | h1
    · exact h1
    · rw [h8 x h1 i] at h; cases h
  have lists : ∀ {cs : List AV} {vs : List Value}, (∀ (i : Nat) (c : AV) (v : Value), cs[i]? = some c → vs[i]? = some v → Rep w X' (φ.plus k ψ) (c.up k) v) → ∀ (i : Nat) (c : AV) (v : Value), (upL k cs)[i]? = some c → vs[i]? = some v → Rep w X' (φ.plus k ψ) c v := by
    intro cs vs h i c v h1 h2
    rw [upL_get] at h1
    obtain ⟨d, hd, rfl⟩ := Option.map_eq_some_iff.1 h1
    exact h i d v hd h2
  induction h with
  | fr c v h => rw [up_nil k c (fr_names h)]; exact .fr _ _ (hfr h)
  | agg cs vs hl h ih => exact .agg _ vs (by rw [upL_len]; exact hl) (lists ih)
  | tup cs vs hl h ih => exact .tup _ vs (by rw [upL_len]; exact hl) (lists ih)
  | fn f first cap vs us hl hl' h h' ih ih' => exact .fn f _ _ vs us (by rw [upL_len]; exact hl) (by rw [upL_len]; exact hl') (lists ih) (lists ih')
  | own x sz off len cap b cs e z hb hh hc hz => exact .own _ sz off len cap b cs e z (by rw [plus_new (lt8 hb)]; exact hb) hh hc hz
  | ownNil x sz hb => exact .ownNil _ sz (by rw [plus_new (lt8 hb)]; exact hb)
  | ptr x o b hb => exact .ptr _ o b (by rw [plus_new (lt8 hb)]; exact hb)
  | elt x sz j c b hb => exact .elt _ sz j c b (by rw [plus_new (lt8 hb)]; exact hb)
  | row x j len cap b cs e z hb hh hc hz => exact .row _ j len cap b cs e z (by rw [plus_new (lt8 hb)]; exact hb) hh hc hz
  | rowNil x j hb => exact .rowNil _ j (by rw [plus_new (lt8 hb)]; exact hb)
  | relt x j c b hb => exact .relt _ j c b (by rw [plus_new (lt8 hb)]; exact hb)
  | mp x b hb => exact .mp _ b (by rw [plus_new (lt8 hb)]; exact hb)
theorem blk_up {w : World} {X X' : Nat → Prop} {φ ψ : Loc} {k : Nat} (h8 : ∀ x, 8 ≤ x → ∀ i, ψ x i = none) {x : Name} {bl : Blk} (h : BlkAt w X ψ x bl) (hfr : ∀ {c : AV} {v : Value}, Fr w X c v → Fr w X' c v) : BlkAt w X' (φ.plus k ψ) (x + k) (bl.up k) := by
  have hx : x < 8 := by
    rcases Nat.lt_or_ge x 8 with h1 | h1
    · exact h1
    · exact absurd (h8 x h1 0) (blk_dom h)
  cases bl with
  | box cs =>
    obtain ⟨b, vs, e, hb, hh, hs, hr⟩ := h
    refine ⟨b, vs, e, by rw [plus_new hx]; exact hb, hh, by rw [upL_len]; exact hs, fun i c v h1 h2 => ?_⟩
    rw [upL_get] at h1
    obtain ⟨d, hd, rfl⟩ := Option.map_eq_some_iff.1 h1
    exact rep_up h8 (hr i d v hd h2) hfr
  | arr sz n f =>
    obtain ⟨h0, h⟩ := h
    refine ⟨h0, ?_⟩
    rcases h with ⟨b, vs, e, hb, hh, hs, hr⟩ | ⟨hb, hn⟩
    · refine .inl ⟨b, vs, e, by rw [plus_new hx]; exact hb, hh, hs, fun j c h1 h2 => ?_⟩
      obtain ⟨v, h3, h4, h5⟩ := hr j c h1 h2
      exact ⟨v, h3, h4, hfr h5⟩
    · exact .inr ⟨by rw [plus_new hx]; exact hb, hn⟩
  | mat n len f =>
    obtain ⟨h, h'⟩ := h
    refine ⟨?_, fun j hj => ?_⟩
    · rcases h with ⟨b, vs, e, hb, hh, hs, hr⟩ | ⟨hb, hn⟩
      · refine .inl ⟨b, vs, e, by rw [plus_new hx]; exact hb, hh, hs, fun j hj => ?_⟩
        obtain ⟨v, h3, h4⟩ := hr j hj
        exact ⟨v, h3, rep_up h8 h4 hfr⟩
      · exact .inr ⟨by rw [plus_new hx]; exact hb, hn⟩
    · rcases h' j hj with ⟨b, vs, e, hb, hh, hs, hr⟩ | ⟨hb, hn⟩
      · refine .inl ⟨b, vs, e, by rw [plus_new hx]; exact hb, hh, hs, fun c hc => ?_⟩
        obtain ⟨v, h3, h4, h5⟩ := hr c hc
        exact ⟨v, h3, h4, hfr h5⟩
      · exact .inr ⟨by rw [plus_new hx]; exact hb, hn⟩
  | mapI f =>
    obtain ⟨b, mes, clock, hb, hh, hm⟩ := h
    exact ⟨b, mes, clock, by rw [plus_new hx]; exact hb, hh, hm⟩
  | mapB f =>
    obtain ⟨b, mes, clock, hb, hh, hm⟩ := h
    exact ⟨b, mes, clock, by rw [plus_new hx]; exact hb, hh, hm⟩
  | pin y b =>
    have hy : y < 8 := by
      rcases Nat.lt_or_ge y 8 with h1 | h1
      · exact h1
      · have := h.2; rw [h8 y h1 0] at this; cases this
    exact ⟨by rw [plus_new hx]; exact h.1, by rw [plus_new hy]; exact h.2⟩
/-- New names for what a call has made. -/
theorem RelAt.imp (R : RelAt N B fr φ s a w) {w' : World} (hB : Below w.heap.size w w') {k : Nat} (hf : ∀ i, i < 8 → fr (k + i)) {ψ : Loc} (h8 : ∀ x, 8 ≤ x → ∀ i, ψ x i = none) (hlt : ∀ x i b, ψ x i = some (some b) → w.heap.size ≤ b ∧ b < w'.heap.size) (hinj : ∀ x y i j b, ψ x i = some (some b) → ψ y j = some (some b) → x = y ∧ i = j) :
    RelAt N B (fun x => fr x ∧ ¬ (k ≤ x ∧ x < k + 8)) (φ.plus k ψ) s a w' ∧ Fwd φ w (φ.plus k ψ) w' NoW ∧ ∀ b, Excl B (φ.plus k ψ) b → Excl B φ b ∨ ∃ x i, ψ x i = some (some b) := by
  have hin : ∀ x i b, φ.plus k ψ x i = some (some b) → (¬ (k ≤ x ∧ x < k + 8) ∧ φ x i = some (some b)) ∨ ((k ≤ x ∧ x < k + 8) ∧ ψ (x - k) i = some (some b)) := by
    intro x i b h
    unfold Loc.plus at h
    split at h
    · rename_i hx; exact .inr ⟨hx, h⟩
    · rename_i hx; exact .inl ⟨hx, h⟩
  have hex : ∀ b, Excl B (φ.plus k ψ) b → Excl B φ b ∨ ∃ x i, ψ x i = some (some b) := fun b h => by
    rcases h with h | ⟨x, i, h⟩
    · exact .inl (.inl h)
    · rcases hin x i b h with ⟨_, h⟩ | ⟨_, h⟩
      · exact .inl (.inr ⟨x, i, h⟩)
      · exact .inr ⟨_, i, h⟩
  have kp : Keeps w (Excl B φ) φ w' (Excl B (φ.plus k ψ)) (φ.plus k ψ) := ⟨fun b h _ => hB.block b h, hB.size, fun b h => by
    rcases hex b h with h | ⟨x, i, h⟩
    · exact .inl h
    · exact .inr (hlt x i b h).1⟩
  have hdom : ∀ y, (∃ i, φ y i ≠ none) → ¬ (k ≤ y ∧ y < k + 8) := fun y ⟨i, hi⟩ hy => hi (by
    have := R.free (k + (y - k)) (hf (y - k) (Nat.sub_lt_left_of_lt_add hy.1 hy.2)) i
    rwa [Nat.add_sub_cancel' hy.1] at this)
  have hrep : ∀ {c : AV} {u : Value}, Rep w (Excl B φ) φ c u → Rep w' (Excl B (φ.plus k ψ)) (φ.plus k ψ) c u := fun h =>
    kp.rep (fun x hx => ⟨plus_old (hdom x (rep_names h x hx)), fun i b cs e z h1 h2 => ⟨cs, e, z, (hB.block b (R.lt x i b h1).1).trans h2, Nat.le_refl _⟩⟩) h
  refine ⟨?_, ?_, hex⟩
  · exact
    { size := R.size
      defers := R.defers
      env := fun t c hc => ⟨(R.env t c hc).1, hrep (R.env t c hc).2⟩
      st := fun x bl hl => by
        have h := R.st x bl hl
        exact kp.blk ⟨plus_old (hdom x ⟨0, blk_dom h⟩), fun i b h2 => hB.block b (R.lt x i b h2).1⟩ (fun y hy => ⟨plus_old (hdom y (blk_names h y hy)), fun i b cs e z h3 h4 => ⟨cs, e, z, (hB.block b (R.lt y i b h3).1).trans h4, Nat.le_refl _⟩⟩) h
      inj := fun x y i j b h1 h2 => by
        rcases hin x i b h1 with ⟨_, h3⟩ | ⟨e1, h3⟩ <;> rcases hin y j b h2 with ⟨_, h4⟩ | ⟨e2, h4⟩
        · exact R.inj x y i j b h3 h4
        · have := (hlt _ j b h4).1; have := (R.lt x i b h3).1; omega
        · have := (hlt _ i b h3).1; have := (R.lt y j b h4).1; omega
        · obtain ⟨h5, h6⟩ := hinj _ _ i j b h3 h4; exact ⟨(Nat.sub_add_cancel e1.1).symm.trans ((congrArg (· + k) h5).trans (Nat.sub_add_cancel e2.1)), h6⟩
      lt := fun x i b h => by
        rcases hin x i b h with ⟨_, h⟩ | ⟨_, h⟩
        · have := R.lt x i b h; exact ⟨Nat.lt_of_lt_of_le this.1 hB.size, this.2⟩
        · have := hlt _ i b h; exact ⟨this.2, fun hBb => by have := R.ltB b hBb; omega⟩
      ltB := fun b h => Nat.lt_of_lt_of_le (R.ltB b h) hB.size
      free := fun x hx i => by rw [plus_old hx.2]; exact R.free x hx.1 i }
  · exact ⟨hB.os, hB.tape, hB.output, hB.size, fun b h _ => hB.block b h, fun x i b h => by
      rcases hin x i b h with ⟨_, h⟩ | ⟨_, h⟩
      · exact .inl ⟨x, i, h, .inl ⟨rfl, rfl⟩⟩
      · exact .inr (hlt _ i b h).1, keep_of hB.block⟩
theorem RelAt.addSts {env : List (Nat × AV)} {nx : Nat} {k : Nat} : ∀ (l : List (Name × Blk)) (st : List (Name × Blk)), RelAt N B fr φ ⟨env, st, nx⟩ a w → (∀ p ∈ l, BlkAt w (Excl B φ) φ (p.1 + k) (p.2.up k)) → RelAt N B fr φ ⟨env, l.foldl (fun l p => upd l (p.1 + k) (p.2.up k)) st, nx⟩ a w
  | [], st, R, _ => R
  | p :: l, st, R, h => RelAt.addSts l _ (R.addSt (h p (by simp))) fun q hq => h q (by simp [hq])
theorem allP_iff : ∀ {l : List Prop}, allP l → ∀ p ∈ l, p
  | [], _, p, h => by cases h
  | [q], h, p, hp => by rw [List.mem_singleton] at hp; subst hp; exact h
  | q :: r :: l, h, p, hp => by
    rcases List.mem_cons.1 hp with rfl | hp
    · exact h.1
    · exact allP_iff h.2 p hp
theorem cellv {x : Option Value} {v : Value} (h : x = some v) : x.getD undef = v := by rw [h]; rfl
/-- lending -/
theorem sound_lend {env : List (Nat × AV)} {st : List (Name × Blk)} {nx : Nat} (R : RelAt N B fr φ ⟨env, st, nx⟩ a w) : ∀ (d : Nat) {c c' : AV} {v : Value}, (∀ p ∈ lendC st d c, p) → lend st d c = some c' → Rep w (Excl B φ) φ c v → Fr w B c' v := by
  have weak : ∀ {c : AV} {v : Value}, Fr w (Excl B φ) c v → Fr w B c v := fun h => h.mono (fun _ _ _ => rfl) (Nat.le_refl _) (fun b hb => .inl (.inl hb))
  intro d
  induction d with
  | zero => intro c c' v _ h; cases h
  | succ d ih =>
    intro c c' v hp h hr
    have listsL : ∀ {cs cs' : List AV} {vs : List Value}, (∀ p ∈ cs.flatMap (lendC st d), p) → cs.mapM (lend st d) = some cs' → cs.length = vs.length → (∀ (i : Nat) (c : AV) (v : Value), cs[i]? = some c → vs[i]? = some v → Rep w (Excl B φ) φ c v) → cs'.length = vs.length ∧ ∀ (i : Nat) (c : AV) (v : Value), cs'[i]? = some c → vs[i]? = some v → Fr w B c v := by
      intro cs
      induction cs with
      | nil => intro cs' vs _ h1 h2 _; simp at h1; subst h1; exact ⟨h2, fun i c v h => by simp at h⟩
      | cons e r ihr =>
        intro cs' vs hp h1 h2 h3
        simp only [List.mapM_cons, Option.bind_eq_bind, Option.bind_eq_some_iff, Option.pure_def] at h1
        obtain ⟨e', he, r', hr', hc⟩ := h1
        injection hc with hc
        subst hc
        cases vs with
        | nil => cases h2
        | cons u us =>
          obtain ⟨g1, g2⟩ := ihr (fun p h => hp p (by simp only [List.flatMap_cons, List.mem_append]; exact .inr h)) hr' (by simpa using h2) (fun i c v h4 h5 => h3 (i + 1) c v (by simpa using h4) (by simpa using h5))
          refine ⟨by simp [g1], fun i c v h4 h5 => ?_⟩
          cases i with
          | zero => simp at h4 h5; subst h4; subst h5; exact ih (fun p h => hp p (by simp only [List.flatMap_cons, List.mem_append]; exact .inl h)) he (h3 0 e u rfl rfl)
          | succ i => exact g2 i c v (by simpa using h4) (by simpa using h5)
    unfold lend at h
    unfold lendC at hp
    split at h
    · rename_i hn
      injection h with h
      subst h
      exact weak (fr_of_rep hr (by simpa using hn))
    · rename_i x sz off n hn
      rw [hn] at hp
      simp only at hp
      split at h
      · rename_i sz' n' f hl
        rw [hl] at hp
        split at h
        · rename_i hsz
          injection h with h
          subst h
          have e1 : sz = sz' := Nat.eq_of_beq_eq_true hsz
          subst e1
          have hle : n + off ≤ n' := hp _ (by simp)
          rcases rep_own hr with ⟨cap, b, cs, e, z, hb, hh, hc, hz, rfl⟩ | ⟨hb, h1, h2, rfl⟩
          · obtain ⟨h0, ⟨b', vs, e2, hb', hh', hs, hrr⟩ | ⟨hnn, _⟩⟩ := R.st x _ hl
            · rw [hb] at hb'; injection hb' with hb'; injection hb' with hb'; subst hb'
              refine .fro sz n _ ⟨b, off * sz, none⟩ cap (fun j c => (vs[(j + off) * sz + c]?).getD undef) rfl (R.lt x 0 b hb).2 (R.lt x 0 b hb).1 hc (fun j c h1 h2 => ?_) (fun j c h1 h2 => ?_) fun j c h1 h2 => ?_
              all_goals obtain ⟨u, h3, h4, h5⟩ := hrr (j + off) c (by omega) h2
              · rw [cell_of_heap hh', cellv h3, ← h3, Nat.add_mul, show off * sz + (j * sz + c) = j * sz + off * sz + c from by omega]
              · rw [cellv h3]; exact h4
              · rw [cellv h3]; exact weak h5
            · rw [hb] at hnn; cases hnn
          · subst h2; exact .froNil _ _
        · cases h
      · rename_i n' len f hl
        rw [hl] at hp
        split at h
        · injection h with h
          subst h
          have hle : n ≤ n' := hp _ (by simp)
          rcases rep_own hr with ⟨cap, b, cs, e, z, hb, hh, hc, hz, rfl⟩ | ⟨hb, h1, h2, rfl⟩
          · obtain ⟨⟨b', vs, e2, hb', hh', hs, hrr⟩ | ⟨hnn, _⟩, hrows⟩ := R.st x _ hl
            · rw [hb] at hb'; injection hb' with hb'; injection hb' with hb'; subst hb'
              have hrow : ∀ j, j < n → ∃ u, vs[j]? = some u ∧ u.oneCell' = true ∧ Fr w B (.fro 1 (len j) fun c _ => f j c) u := fun j hj => by
                obtain ⟨u, h3, h4⟩ := hrr j (by omega)
                refine ⟨u, h3, rep_one h4 rfl, ?_⟩
                rcases rep_row h4 with ⟨cap', b2, cs2, e3, z2, hb2, hh2, hc2, hz2, rfl⟩ | ⟨hb2, h5, rfl⟩
                · rcases hrows j (by omega) with ⟨b3, vs3, e4, hb3, hh3, hs3, hr3⟩ | ⟨hn3, _⟩
                  · rw [hb2] at hb3; injection hb3 with hb3; injection hb3 with hb3; subst hb3
                    refine .fro 1 (len j) _ ⟨b2, 0, none⟩ cap' (fun c _ => (vs3[c]?).getD undef) rfl (R.lt x _ b2 hb2).2 (R.lt x _ b2 hb2).1 hc2 (fun c c0 h1 h2 => ?_) (fun c c0 h1 h2 => ?_) fun c c0 h1 h2 => ?_
                    all_goals obtain ⟨u, h6, h7, h8⟩ := hr3 c h1
                    · rw [cell_of_heap hh3, cellv h6, ← h6, show 0 + (c * 1 + c0) = c from by omega]
                    · rw [cellv h6]; exact h7
                    · rw [cellv h6]; exact weak h8
                  · rw [hb2] at hn3; cases hn3
                · rw [h5]; exact .froNil _ _
              refine .fro 1 n _ ⟨b, 0 * sz, none⟩ cap (fun j c => (vs[j]?).getD undef) rfl (R.lt x 0 b hb).2 (R.lt x 0 b hb).1 hc (fun j c h1 h2 => ?_) (fun j c h1 h2 => ?_) fun j c h1 h2 => ?_
              all_goals obtain ⟨u, h3, h4, h5⟩ := hrow j h1
              · rw [cell_of_heap hh', cellv h3, ← h3, show 0 * sz + (j * 1 + c) = j from by omega]
              · rw [cellv h3]; exact h4
              · rw [cellv h3]; exact h5
            · rw [hb] at hnn; cases hnn
          · subst h2; exact .froNil _ _
        · cases h
      · cases h
    · rename_i x j n hn
      rw [hn] at hp
      simp only at hp
      split at h
      · rename_i n' len f hl
        rw [hl] at hp
        injection h with h
        subst h
        obtain ⟨hj, hle⟩ : j < n' ∧ n ≤ len j := hp _ (by simp)
        rcases rep_row hr with ⟨cap', b2, cs2, e3, z2, hb2, hh2, hc2, hz2, rfl⟩ | ⟨hb2, h5, rfl⟩
        · obtain ⟨_, hrows⟩ := R.st x _ hl
          rcases hrows j hj with ⟨b3, vs3, e4, hb3, hh3, hs3, hr3⟩ | ⟨hn3, _⟩
          · rw [hb2] at hb3; injection hb3 with hb3; injection hb3 with hb3; subst hb3
            refine .fro 1 n _ ⟨b2, 0, none⟩ cap' (fun c _ => (vs3[c]?).getD undef) rfl (R.lt x _ b2 hb2).2 (R.lt x _ b2 hb2).1 hc2 (fun c c0 h1 h2 => ?_) (fun c c0 h1 h2 => ?_) fun c c0 h1 h2 => ?_
            all_goals obtain ⟨u, h6, h7, h8⟩ := hr3 c (by omega)
            · rw [cell_of_heap hh3, cellv h6, ← h6, show 0 + (c * 1 + c0) = c from by omega]
            · rw [cellv h6]; exact h7
            · rw [cellv h6]; exact weak h8
          · rw [hb2] at hn3; cases hn3
        · subst h5; exact .froNil _ _
      · cases h
    · rename_i x o hn
      rw [hn] at hp
      simp only at hp
      split at h
      · rename_i cs hl
        rw [hl] at hp
        injection h with h
        subst h
        obtain ⟨b', vs, e, hb', hh, hs, hrr⟩ := R.st x _ hl
        obtain ⟨b, hb, rfl⟩ := rep_ptr hr
        rw [hb] at hb'; injection hb' with hb'; injection hb' with hb'; subst hb'
        refine .fpt _ _ ⟨b, o, none⟩ (fun c => (vs[o + c]?).getD undef) rfl (R.lt x 0 b hb).2 (R.lt x 0 b hb).1 (fun c hc => ?_) fun c hc => ?_
        · rw [cell_of_heap hh]
          have : o + c < vs.size := by omega
          simp [this]
        · have hlt : o + c < vs.size := by omega
          have hlt2 : c + o < cs.length := by omega
          have hcell : vs[o + c]? = some vs[o + c] := by simp [hlt]
          rw [cellv hcell]
          have hcs : cs[c + o]? = some cs[c + o] := by simp [hlt2]
          have hg : cs.getD (c + o) .any = cs[c + o] := by simp [List.getD_eq_getElem?_getD, hlt2]
          rw [hg]
          cases hle : lend st d cs[c + o] with
          | none => exact .any _
          | some e' => exact ih (fun p h => hp p (List.mem_flatMap.2 ⟨cs[c + o], List.getElem_mem _, h⟩)) hle (hrr (c + o) _ _ hcs (by rw [show c + o = o + c from by omega]; exact hcell))
      · cases h
    · rename_i f p q hn
      rw [hn] at hp
      simp only at hp
      split at h
      · rename_i p' q' hp' hq'
        injection h with h
        subst h
        obtain ⟨vs, us, rfl, hl, hl', h1, h2⟩ := rep_fn hr
        obtain ⟨g1, g2⟩ := listsL (fun x h => hp x (by simp only [List.mem_append]; exact .inl h)) hp' hl h1
        obtain ⟨g3, g4⟩ := listsL (fun x h => hp x (by simp only [List.mem_append]; exact .inr h)) hq' hl' h2
        exact .fn f p' q' vs us g1 g3 g2 g4
      · cases h
    · rename_i cs hn
      rw [hn] at hp
      simp only at hp
      obtain ⟨cs', hcs', rfl⟩ := Option.map_eq_some_iff.1 h
      obtain ⟨vs, rfl, hl, h1⟩ := rep_agg hr
      obtain ⟨g1, g2⟩ := listsL hp hcs' hl h1
      exact .agg cs' vs g1 g2
    · cases h
end
end Go.AM
