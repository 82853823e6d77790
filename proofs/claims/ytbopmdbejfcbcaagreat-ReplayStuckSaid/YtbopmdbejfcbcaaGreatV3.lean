/- The machine VM, part 3: small laws. -/
import Derived.Test.YtbopmdbejfcbcaaGreatV2
set_option linter.unusedVariables false
set_option linter.unusedSectionVars false
set_option linter.unusedSimpArgs false
set_option linter.constructorNameAsVariable false
namespace Go.VM
open Go.RowKit
variable [Val]

section inv
variable {w : World} {X : Nat → Prop} {φ : Loc}

theorem rep_raw {v u : Value} (h : Rep w X φ (.raw v) u) : u = v ∧ v.oneCell' = true := by
  cases h with
  | raw _ h => exact ⟨rfl, h⟩
theorem rep_str {bs : List Nat} {u : Value} (h : Rep w X φ (.str bs) u) : ∃ t : ByteArray, u = .string t ∧ t.data.toList.map UInt8.toNat = bs := by
  cases h with
  | str _ t h => exact ⟨t, rfl, h⟩
theorem rep_agg {cs : List V} {u : Value} (h : Rep w X φ (.agg cs) u) : ∃ vs : List Value, u = .agg vs.toArray ∧ cs.length = vs.length ∧ ∀ (i : Nat) (c : V) (v : Value), cs[i]? = some c → vs[i]? = some v → Rep w X φ c v := by
  cases h with
  | agg _ vs hl h => exact ⟨vs, rfl, hl, h⟩
theorem rep_tup {cs : List V} {u : Value} (h : Rep w X φ (.tup cs) u) : ∃ vs : List Value, u = .tuple vs.toArray ∧ cs.length = vs.length ∧ ∀ (i : Nat) (c : V) (v : Value), cs[i]? = some c → vs[i]? = some v → Rep w X φ c v := by
  cases h with
  | tup _ vs hl h => exact ⟨vs, rfl, hl, h⟩
theorem rep_sl {x sz off len : Nat} {cap : Option Nat} {u : Value} (h : Rep w X φ (.sl x sz off len cap) u) : ∃ ad c, u = .slice (some ad) len c ∧ ad.spot = none ∧ φ x ≠ none ∧ ∀ b, φ x = some (some b) → (0 < c → ad = ⟨b, off, none⟩) ∧ Room w b sz off len cap c := by
  cases h with
  | sl _ _ _ _ _ ad c hs hd h => exact ⟨ad, c, rfl, hs, hd, h⟩
theorem rep_emp {u : Value} (h : Rep w X φ .emp u) : ∃ ad, u = .slice (some ad) 0 0 := by
  cases h with
  | emp ad => exact ⟨ad, rfl⟩
theorem rep_ptr {x o : Nat} {u : Value} (h : Rep w X φ (.ptr x o) u) : ∃ ad, u = .pointer (some ad) ∧ ad.spot = none ∧ φ x ≠ none ∧ ∀ b, φ x = some (some b) → ad = ⟨b, o, none⟩ := by
  cases h with
  | ptr _ _ ad hs hd h => exact ⟨ad, rfl, hs, hd, h⟩
theorem rep_mp {x : Nat} {u : Value} (h : Rep w X φ (.mp x) u) : ∃ r, u = .map (some r) ∧ φ x ≠ none ∧ ∀ b, φ x = some (some b) → r = b := by
  cases h with
  | mp _ r hd h => exact ⟨r, rfl, hd, h⟩
theorem rep_fpt {k : Nat} {g : Nat → V} {u : Value} (h : Rep w X φ (.fpt k g) u) : ∃ (ad : Addr) (val : Nat → Value), u = .pointer (some ad) ∧ ad.spot = none ∧ ¬ X ad.block ∧ ad.block < w.heap.size ∧
    (∀ c, c < k → w.cell? ⟨ad.block, ad.off + c, none⟩ = some (val c)) ∧ (∀ c, c < k → Rep w X φ (g c) (val c)) ∧ ∀ c, c < k → (g c).nl 4 = true := by
  cases h with
  | fpt _ _ ad val hs hx hlt hr h hn => exact ⟨ad, val, rfl, hs, hx, hlt, hr, h, hn⟩
theorem rep_fn {f : Fn} {p q : List V} {u : Value} (h : Rep w X φ (.fn f p q) u) : ∃ vs us : List Value, u = .func f vs.toArray us.toArray ∧ p.length = vs.length ∧ q.length = us.length ∧
    (∀ (i : Nat) (c : V) (v : Value), p[i]? = some c → vs[i]? = some v → Rep w X φ c v) ∧ ∀ (i : Nat) (c : V) (v : Value), q[i]? = some c → us[i]? = some v → Rep w X φ c v := by
  cases h with
  | fn _ _ _ vs us hl hl' h h' => exact ⟨vs, us, rfl, hl, hl', h, h'⟩

theorem rep_i {k : IntKind} {n : Int} {u : Value} (h : Rep w X φ (.raw (.int k n)) u) : u = .int k n := (rep_raw h).1
theorem rep_b {b : Bool} {u : Value} (h : Rep w X φ (.raw (.bool b)) u) : u = .bool b := (rep_raw h).1
theorem mk_i {k : IntKind} {n : Int} : Rep w X φ (.raw (.int k n)) (.int k n) := .raw _ rfl
theorem mk_b {b : Bool} : Rep w X φ (.raw (.bool b)) (.bool b) := .raw _ rfl

/-- one cell: one cell's value -/
theorem rep_one {c : V} {v : Value} (h : Rep w X φ c v) (ho : c.one = true) : v.oneCell' = true := by
  cases h <;> first | assumption | rfl | cases ho

theorem allOne_mem : ∀ {l : List V}, allOne l = true → ∀ c ∈ l, c.one = true
  | [], _, c, hc => by cases hc
  | d :: r, h, c, hc => by
    simp only [allOne] at h
    split at h
    · rename_i hd
      rcases List.mem_cons.1 hc with rfl | hc
      · exact hd
      · exact allOne_mem h c hc
    · cases h

/-- a value's cells -/
theorem rep_cells {c : V} {v : Value} (h : Rep w X φ c v) (ho : allOne c.cells = true) : c.cells.length = v.cells.size ∧ ∀ (i : Nat) (d : V) (u : Value), c.cells[i]? = some d → v.cells[i]? = some u → Rep w X φ d u ∧ u.oneCell' = true := by
  have ho' := allOne_mem ho
  have single : c.cells = [c] → c.cells.length = v.cells.size ∧ ∀ (i : Nat) (d : V) (u : Value), c.cells[i]? = some d → v.cells[i]? = some u → Rep w X φ d u ∧ u.oneCell' = true := fun hc => by
    have h1 := rep_one h (ho' c (by rw [hc]; simp))
    have hv : v.cells = #[v] := by cases v <;> first | rfl | cases h1
    rw [hc, hv]
    refine ⟨rfl, fun i d u h2 h3 => ?_⟩
    cases i with
    | zero => simp at h2 h3; subst h2; subst h3; exact ⟨h, h1⟩
    | succ i => simp at h2
  cases c with
  | agg cs =>
    obtain ⟨vs, rfl, hl, h⟩ := rep_agg h
    refine ⟨by simpa [Value.cells, V.cells] using hl, fun i d u h1 h2 => ?_⟩
    have hd : Rep w X φ d u := h i d u h1 (by simpa [Value.cells] using h2)
    exact ⟨hd, rep_one hd (ho' d (List.mem_of_getElem? h1))⟩
  | _ => exact single rfl

end inv

/-- A number of a place of a list. -/
theorem getD_lt {α : Type} {l : List α} {i : Nat} {d : α} (h : i < l.length) : l[i]? = some (l.getD i d) := by
  simp [List.getD_eq_getElem?_getD, h]

section
variable {P : Program} {N : Nat} {B : Nat → Prop} {G : Nat → Nat → Value → Prop} {fr : Nat → Prop} {φ : Loc} {a : Act} {w : World} {e : T V} {h : Heap} {nx : Nat} {pr : List Nat}

theorem oneCell_toV {v : Value} {c : V} (hc : toV v = some c) : Rep w (Excl B φ) φ c v := by
  unfold toV at hc
  split at hc <;> first | (cases hc; done) | (injection hc with hc; subst hc)
  · exact .str _ _ rfl
  all_goals exact .raw _ rfl

theorem RelAt.opd (R : RelAt N B G fr φ ⟨e, h, nx, pr⟩ a w) {x : Operand} {c : V} (hc : VM.opd e (tOpd x) = some c) : Rep w (Excl B φ) φ c (a.eval x) := by
  cases x with
  | tmp t => exact (R.env t c hc).2
  | const v =>
    simp only [tOpd] at hc
    split at hc
    · rename_i d hd
      simp only [VM.opd] at hc
      injection hc with hc
      subst hc
      exact oneCell_toV hd
    · cases hc
  | func f =>
    simp only [tOpd, VM.opd] at hc
    injection hc with hc
    subst hc
    exact .fn _ [] [] [] [] rfl rfl (fun i c v h1 => by cases h1) fun i c v h1 => by cases h1
  | global g => cases hc

theorem RelAt.opds (R : RelAt N B G fr φ ⟨e, h, nx, pr⟩ a w) : ∀ {xs : List Operand} {cs : List V}, VM.opds e (tOpds xs) = some cs → cs.length = xs.length ∧ ∀ (i : Nat) (c : V) (v : Value), cs[i]? = some c → (xs.map a.eval)[i]? = some v → Rep w (Excl B φ) φ c v
  | [], cs, h => by simp only [tOpds, VM.opds] at h; injection h with h; subst h; exact ⟨rfl, fun i c v h1 => by cases h1⟩
  | x :: r, cs, h => by
    simp only [tOpds, VM.opds] at h
    split at h
    · rename_i c d hc hd
      injection h with he
      subst he
      obtain ⟨h1, h2⟩ := RelAt.opds R hd
      refine ⟨by simp [h1], fun i c' v h3 h4 => ?_⟩
      cases i with
      | zero => simp at h3 h4; subst h3; subst h4; exact R.opd hc
      | succ i => exact h2 i c' v (by simpa using h3) (by simpa using h4)
    · cases h

theorem HeapAt.less (R : HeapAt B G fr φ h w) {fr' : Nat → Prop} (hf : ∀ x, fr' x → fr x) : HeapAt B G fr' φ h w := { R with free := fun x hx => R.free x (hf x hx) }
theorem RelAt.less (R : RelAt N B G fr φ ⟨e, h, nx, pr⟩ a w) {fr' : Nat → Prop} (hf : ∀ x, fr' x → fr x) {nx' : Nat} {pr' : List Nat} : RelAt N B G fr' φ ⟨e, h, nx', pr'⟩ a w := { R.toHeapAt.less hf, R with free := fun x hx => R.free x (hf x hx) }

/-- the slots, but that one is written -/
def PutO (e : T V) (dst : Option Nat) (c : V) (e' : T V) : Prop := match dst with | some d => Put e d (some c) e' | none => e' = e

/-- Into a slot. -/
theorem setO_spec {dst : Option Nat} {c : V} {q : T V → Bool} (hq : setO e dst c q = true) : ∃ e', PutO e dst c e' ∧ q e' = true := by
  unfold setO at hq
  cases dst with
  | none => exact ⟨e, rfl, hq⟩
  | some d =>
    simp only [force_eq] at hq
    exact T.putK_spec hq

theorem RelAt.put (R : RelAt N B G fr φ ⟨e, h, nx, pr⟩ a w) {dst : Option Nat} (hd : ∀ d, dst = some d → d < N) {c : V} {v : Value} (hr : Rep w (Excl B φ) φ c v) {e' : T V} (he : PutO e dst c e') :
    RelAt N B G fr φ ⟨e', h, nx, pr⟩ (a.put dst v) w := by
  cases dst with
  | none => simp only [PutO] at he; subst he; exact R
  | some d =>
    simp only [PutO] at he
    have hdN := hd d rfl
    exact
    { R with
      size := by simp [Act.put, R.size]
      defers := by simp [Act.put, R.defers]
      env := fun t c' hc => by
        dsimp only at hc
        rw [he t] at hc
        split at hc
        · rename_i htd
          subst htd
          injection hc with hc
          subst hc
          refine ⟨hdN, ?_⟩
          have hs : t < a.tmps.size := by rw [R.size]; exact hdN
          have : (a.put (some t) v).tmps.getD t undef = v := by simp [Act.put, Array.getD, hs]
          rw [this]; exact hr
        · rename_i hne
          obtain ⟨h1, h2⟩ := R.env t c' hc
          refine ⟨h1, ?_⟩
          have : (a.put (some d) v).tmps.getD t undef = a.tmps.getD t undef := by
            simp [Act.put, Array.getD_eq_getD_getElem?, Array.getElem?_setIfInBounds_ne (fun h => hne h.symm)]
          rw [this]; exact h2 }

/-- A step of the world. -/
theorem HeapAt.step (R : HeapAt B G fr φ h w) {φ' : Loc} {w' : World} {h' : Heap} {fr' : Nat → Prop} (F : Fwd pr φ w φ' w')
    (hst : ∀ x k, h'.get x = some k → (h.get x = some k ∧ φ' x = φ x ∧ ∀ b, φ x = some (some b) → w'.heap[b]? = w.heap[b]?) ∨ ∃ b, φ' x = some (some b) ∧ BlkAt w' (Excl B φ') φ' b k)
    (hinj : ∀ x y b, φ' x = some (some b) → φ' y = some (some b) → x = y) (hlt : ∀ x b, φ' x = some (some b) → b < w'.heap.size ∧ ¬ B b) (hfree : ∀ x, fr' x → φ' x = none) : HeapAt B G fr' φ' h' w' where
  st := fun x k hk => by
    rcases hst x k hk with ⟨h1, h2, h3⟩ | h1
    · obtain ⟨b, hb, hB⟩ := R.st x k h1
      exact ⟨b, h2.trans hb, F.keeps.blk (h3 b hb) hB⟩
    · exact h1
  inj := hinj
  lt := hlt
  ltB := fun b hb => Nat.lt_of_lt_of_le (R.ltB b hb) F.size
  free := hfree
  gl := fun b o v hg => by
    obtain ⟨⟨h1, h0⟩, h2⟩ := R.gl b o v hg
    refine ⟨⟨Nat.lt_of_lt_of_le h1 F.size, fun x hx => ?_⟩, ?_⟩
    · rcases F.new x b hx with ⟨y, hy, _⟩ | hge
      · exact h0 y hy
      · omega
    · rw [← h2]
      simp only [World.cell?]
      rw [F.block b h1 fun x hx => absurd hx (h0 x)]

theorem RelAt.step (R : RelAt N B G fr φ ⟨e, h, nx, pr⟩ a w) {φ' : Loc} {w' : World} {h' : Heap} {fr' : Nat → Prop} {pr' pr'' : List Nat} {nx' : Nat} (F : Fwd pr' φ w φ' w') (H : HeapAt B G fr' φ' h' w') : RelAt N B G fr' φ' ⟨e, h', nx', pr''⟩ a w' :=
  { H with size := R.size, defers := R.defers, env := fun t c hc => ⟨(R.env t c hc).1, F.rep (R.env t c hc).2⟩ }

/-- a name more -/
def Loc.ext (φ : Loc) (x : Nat) (v : Option Nat) : Loc := fun y => if y = x then some v else φ y
theorem Loc.ext_same (φ : Loc) (x : Nat) (v : Option Nat) : φ.ext x v x = some v := by simp [Loc.ext]
theorem Loc.ext_ne (φ : Loc) (x : Nat) (v : Option Nat) {y : Nat} (h : y ≠ x) : φ.ext x v y = φ y := by simp [Loc.ext, h]

/-- A world in which nothing of what is there has changed, but there may be more; and a name for a block that is new. -/
theorem HeapAt.more (R : HeapAt B G fr φ h w) {w' : World} (hs : w.heap.size ≤ w'.heap.size) (hb : ∀ b, b < w.heap.size → w'.heap[b]? = w.heap[b]?) (ho : w'.os = w.os) (ht : w'.tape = w.tape) (hu : w'.output = w.output)
    {nm : Nat} (hf : fr nm) {n : Nat} (hn : w.heap.size ≤ n ∧ n < w'.heap.size) : Fwd pr φ w (φ.ext nm (some n)) w' ∧ HeapAt B G (fun x => fr x ∧ x ≠ nm) (φ.ext nm (some n)) h w' := by
  have hnone := R.free nm hf
  have hin : ∀ x b, φ.ext nm (some n) x = some (some b) → (x ≠ nm ∧ φ x = some (some b)) ∨ (x = nm ∧ b = n) := by
    intro x b h
    unfold Loc.ext at h
    split at h
    · rename_i hx; injection h with h; injection h with h; exact .inr ⟨hx, h.symm⟩
    · rename_i hx; exact .inl ⟨hx, h⟩
  have F : Fwd pr φ w (φ.ext nm (some n)) w' := ⟨ho, ht, hu, hs, fun b h _ => hb b h, fun x b h => by
      rcases hin x b h with ⟨_, h⟩ | ⟨_, rfl⟩
      · exact .inl ⟨x, h, .inl rfl⟩
      · exact .inr hn.1, fun x v hx => .inl (by rw [φ.ext_ne nm (some n) (fun h => by subst h; rw [hnone] at hx; cases hx)]; exact hx), keep_of hb⟩
  refine ⟨F, R.step F (fun x k hk => .inl ⟨hk, φ.ext_ne nm (some n) (fun h => ?_), fun b h => hb b (R.lt x b h).1⟩) (fun x y b h1 h2 => ?_) (fun x b h => ?_) fun x hx => by rw [φ.ext_ne nm (some n) hx.2]; exact R.free x hx.1⟩
  · subst h
    obtain ⟨b, h1, _⟩ := R.st x k hk
    rw [hnone] at h1; cases h1
  · rcases hin x b h1 with ⟨_, h3⟩ | ⟨e1, h3⟩ <;> rcases hin y b h2 with ⟨_, h4⟩ | ⟨e3, h4⟩
    · exact R.inj x y b h3 h4
    · have := (R.lt x b h3).1; omega
    · have := (R.lt y b h4).1; omega
    · exact e1.trans e3.symm
  · rcases hin x b h with ⟨_, h⟩ | ⟨_, rfl⟩
    · have := R.lt x b h; exact ⟨by omega, this.2⟩
    · exact ⟨hn.2, fun hB => by have := R.ltB b hB; omega⟩

/-- ... and what is in it -/
theorem HeapAt.add (R : HeapAt B G fr φ h w) {x b : Nat} (hx : φ x = some (some b)) {k : Blk} (hk : BlkAt w (Excl B φ) φ b k) {h' : Heap} (hp : Put h x (some k) h') : HeapAt B G fr φ h' w :=
  { R with
    st := fun y k' hk' => by
      rw [hp y] at hk'
      split at hk'
      · rename_i hy
        subst hy
        injection hk' with hk'
        subst hk'
        exact ⟨b, hx, hk⟩
      · exact R.st y k' hk' }

theorem alloc_at (w : World) (o : Obj) : (w.alloc o).heap[w.heap.size]? = some o := by
  show (w.heap.push o)[w.heap.size]? = some o
  simp

theorem drew_alloc_at (w : World) (o : Obj) : (w.drew.alloc o).heap[w.heap.size]? = some o := alloc_at w.drew o

/-- names that are free: those kept for later (U), and all from nx on -/
def FR (U : Nat → Prop) (nx : Nat) : Nat → Prop := fun x => U x ∨ nx ≤ x

/-- what is said behind a piece of work: it went on from what was -/
def After (N : Nat) (B : Nat → Prop) (G : Nat → Nat → Value → Prop) (U : Nat → Prop) (pr : List Nat) (nx : Nat) (φ : Loc) (w : World) (q : S → Bool) (a' : Act) (w' : World) : Prop :=
  ∃ s' φ', q s' = true ∧ RelAt N B G (FR U s'.nx) φ' s' a' w' ∧ s'.pr = pr ∧ nx ≤ s'.nx ∧ Fwd pr φ w φ' w'

variable {U : Nat → Prop}

theorem fr_less {nm : Nat} (hU : nm < nx) {x : Nat} (h : FR (fun x => U x ∧ x ≠ nm) nx x) : FR U nx x ∧ x ≠ nm := by
  rcases h with ⟨h1, h2⟩ | h
  · exact ⟨.inl h1, h2⟩
  · exact ⟨.inr h, by omega⟩

/-- A new block, and a value. -/
theorem out_new (R : RelAt N B G (FR U nx) φ ⟨e, h, nx, pr⟩ a w) {nm : Nat} (hf : U nm) (hU : nm < nx) {w' : World} {n : Nat} (hs : w.heap.size ≤ w'.heap.size) (hb : ∀ b, b < w.heap.size → w'.heap[b]? = w.heap[b]?) (ho : w'.os = w.os) (ht : w'.tape = w.tape) (hu : w'.output = w.output) (hn : w.heap.size ≤ n ∧ n < w'.heap.size)
    {k : Blk} (hk : ∀ φ', (∀ c v, Rep w (Excl B φ) φ c v → Rep w' (Excl B φ') φ' c v) → φ' nm = some (some n) → BlkAt w' (Excl B φ') φ' n k) {c : V} {v : Value} (hc : ∀ φ', (∀ c v, Rep w (Excl B φ) φ c v → Rep w' (Excl B φ') φ' c v) → φ' nm = some (some n) → Rep w' (Excl B φ') φ' c v)
    {dst : Option Nat} (hd : ∀ d, dst = some d → d < N) {q : S → Bool} (hq : VM.out ⟨e, h, nx, pr⟩ dst nm c (some k) q = true) : After N B G (fun x => U x ∧ x ≠ nm) pr nx φ w q (a.put dst v) w' := by
  simp only [VM.out, forceBlk_eq] at hq
  obtain ⟨h', hp, hq⟩ := T.putK_spec hq
  obtain ⟨e', he, hq⟩ := setO_spec hq
  obtain ⟨F, H⟩ := R.toHeapAt.more (pr := pr) hs hb ho ht hu (.inl hf) hn
  have hrep : ∀ c v, Rep w (Excl B φ) φ c v → Rep w' (Excl B (φ.ext nm (some n))) (φ.ext nm (some n)) c v := fun c v h => F.rep h
  have H' := H.add (Loc.ext_same _ _ _) (hk _ hrep (Loc.ext_same _ _ _)) hp
  exact ⟨_, _, hq, ((R.step (pr'' := pr) (nx' := nx) F H').put hd (hc _ hrep (Loc.ext_same _ _ _)) he).less fun x hx => fr_less hU hx, rfl, Nat.le_refl _, F⟩

/-- A value, in the world as it is. -/
theorem out_same (R : RelAt N B G (FR U nx) φ ⟨e, h, nx, pr⟩ a w) {nm : Nat} {c : V} {v : Value} (hc : Rep w (Excl B φ) φ c v) {dst : Option Nat} (hd : ∀ d, dst = some d → d < N) {q : S → Bool} (hq : VM.out ⟨e, h, nx, pr⟩ dst nm c none q = true) : After N B G U pr nx φ w q (a.put dst v) w := by
  simp only [VM.out] at hq
  obtain ⟨e', he, hq⟩ := setO_spec hq
  exact ⟨_, _, hq, R.put hd hc he, rfl, Nat.le_refl _, Fwd.refl _ _ _⟩

theorem After.less {U' : Nat → Prop} {q : S → Bool} {a' : Act} {w' : World} (h : After N B G U pr nx φ w q a' w') (hf : ∀ x, U' x → U x) : After N B G U' pr nx φ w q a' w' := by
  obtain ⟨⟨e', h', nx', pr'⟩, φ', h1, h2, h3, h4, h5⟩ := h
  exact ⟨_, φ', h1, h2.less fun x hx => hx.imp (hf x) id, h3, h4, h5⟩

/-- work behind a step of the world -/
theorem After.from {φ₁ : Loc} {w₁ : World} {q : S → Bool} {a' : Act} {w' : World} (F : Fwd pr φ w φ₁ w₁) (h : After N B G U pr nx φ₁ w₁ q a' w') : After N B G U pr nx φ w q a' w' := by
  obtain ⟨s', φ', h1, h2, h3, h4, h5⟩ := h
  exact ⟨s', φ', h1, h2, h3, h4, F.trans h5⟩

theorem memN_not : ∀ {l : List Nat} {x : Nat}, memN x l = false → x ∉ l
  | [], x, _, h => by cases h
  | y :: r, x, h, hm => by
    simp only [memN] at h
    split at h
    · cases h
    · rename_i hb
      rcases List.mem_cons.1 hm with rfl | hm
      · exact Nat.ne_of_beq_eq_false hb rfl
      · exact memN_not h hm

theorem setB_spec {x : Nat} {b : Option Blk} {q : S → Bool} (hq : setB ⟨e, h, nx, pr⟩ x b q = true) : x ∉ pr ∧ ∃ h', Put h x b h' ∧ q ⟨e, h', nx, pr⟩ = true := by
  simp only [setB] at hq
  split at hq
  · cases hq
  · rename_i hm
    refine ⟨memN_not hm, ?_⟩
    split at hq
    · rw [forceBlk_eq] at hq; exact T.putK_spec hq
    · exact T.putK_spec hq

/-- A block is written. -/
theorem HeapAt.write (R : HeapAt B G fr φ h w) {x b : Nat} (hx : φ x = some (some b)) (hpr : x ∉ pr) {w' : World} (hs : w'.heap.size = w.heap.size) (ho : ∀ c, c ≠ b → w'.heap[c]? = w.heap[c]?) (ho' : w'.os = w.os) (ht : w'.tape = w.tape) (hu : w'.output = w.output)
    (hk : ∀ (cs : Array Value) (e : TypeId) (z : Nat × Nat), w.heap[b]? = some (.cells cs e z) → ∃ cs' e' z', w'.heap[b]? = some (.cells cs' e' z') ∧ cs'.size = cs.size)
    {k : Blk} (hbl : (∀ c v, Rep w (Excl B φ) φ c v → Rep w' (Excl B φ) φ c v) → BlkAt w' (Excl B φ) φ b k) {h' : Heap} (hp : Put h x (some k) h') : Fwd pr φ w φ w' ∧ HeapAt B G fr φ h' w' := by
  have F : Fwd pr φ w φ w' := ⟨ho', ht, hu, Nat.le_of_eq hs.symm, fun c hc hn => ho c fun e => hpr (hn x (e ▸ hx)), fun y c hy => .inl ⟨y, hy, .inl rfl⟩, fun y v hy => .inl hy, fun c cs e z hc => by
    by_cases hcb : c = b
    · subst hcb; exact hk cs e z hc
    · exact ⟨cs, e, z, (ho c hcb).trans hc, rfl⟩⟩
  refine ⟨F, R.step F (fun y k' hk' => ?_) R.inj (fun y c hc => ?_) R.free⟩
  · rw [hp y] at hk'
    split at hk'
    · rename_i hy
      subst hy
      injection hk' with hk'
      subst hk'
      exact .inr ⟨b, hx, hbl fun c v hr => F.rep hr⟩
    · rename_i hy
      exact .inl ⟨hk', rfl, fun c hc => ho c fun e => hy (R.inj y x b (e ▸ hc) hx)⟩
  · have := R.lt y c hc; rw [hs]; exact this

/-- nothing is told of the value -/
theorem void_spec (R : RelAt N B G (FR U nx) φ ⟨e, h, nx, pr⟩ a w) {dst : Option Nat} (hd : ∀ d, dst = some d → d < N) {q : S → Bool} (hq : void dst q ⟨e, h, nx, pr⟩ = true) (v : Value) : After N B G U pr nx φ w q (a.put dst v) w := by
  simp only [void] at hq
  obtain ⟨e', he, hq⟩ := setO_spec hq
  exact ⟨_, _, hq, R.put hd (.any _) he, rfl, Nat.le_refl _, Fwd.refl _ _ _⟩

end
end Go.VM
