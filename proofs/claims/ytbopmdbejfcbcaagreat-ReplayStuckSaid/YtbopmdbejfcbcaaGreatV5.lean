/- The machine VM, part 5: quiet operations. -/
import Derived.Test.YtbopmdbejfcbcaaGreatV4
import Derived.Laws.Tables
import Derived.Laws.MakeOwn
set_option linter.unusedVariables false
set_option linter.unusedSectionVars false
set_option linter.unusedSimpArgs false
set_option linter.constructorNameAsVariable false
namespace Go.VM
open Go.RowKit
variable [Val]

theorem addr_add (a : Addr) (h : a.spot = none) (n : Nat) : a.add n = ⟨a.block, a.off + n, none⟩ := by
  unfold Addr.add
  split
  · rename_i h0; subst h0; cases a; simp_all
  · rfl

section
variable {P : Program} {N : Nat} {B : Nat → Prop} {G : Nat → Nat → Value → Prop} {fr : Nat → Prop} {φ : Loc} {a : Act} {w : World} {e : T V} {h : Heap} {nx : Nat} {pr : List Nat}

theorem tAgg_run {t : TypeId} {g : Bool} (h : tAgg P t = some g) (w : World) : (isAgg t).run P w = .ok g w := by
  unfold tAgg at h
  unfold isAgg
  cases hd : P.underlying t with
  | none => rw [hd] at h; cases h
  | some d =>
    rw [hd] at h
    simp only [Sem.run_bind, run_underlying hd, Result.andThen_ok]
    cases d <;> (injection h with h; subst h; rfl)

theorem tSize_run {t : TypeId} {k : Nat} (h : tSize P t = some k) (w : World) : (sizeOf t).run P w = .ok k w := by
  unfold tSize at h
  obtain ⟨i, hi, he⟩ := Option.map_eq_some_iff.1 h
  subst he
  simp [sizeOf, typeInfo, hi]

/-- cells of values, cells of what they are -/
def PW (w : World) (X : Nat → Prop) (φ : Loc) (cs : List V) (vs : Array Value) : Prop := cs.length = vs.size ∧ ∀ (i : Nat) (c : V) (v : Value), cs[i]? = some c → vs[i]? = some v → Rep w X φ c v ∧ v.oneCell' = true

theorem PW.set {X : Nat → Prop} {cs : List V} {vs : Array Value} (h : PW w X φ cs vs) {c : V} {v : Value} (hc : Rep w X φ c v) (ho : v.oneCell' = true) (o : Nat) : PW w X φ (cs.set o c) (vs.setIfInBounds o v) := by
  refine ⟨by simp [h.1], fun i d u h1 h2 => ?_⟩
  by_cases hi : o = i
  · subst hi
    have hlt : o < cs.length := by have := (List.getElem?_eq_some_iff.1 h1).1; simpa using this
    simp [hlt] at h1
    have hlt' : o < vs.size := by rw [← h.1]; exact hlt
    simp [hlt'] at h2
    subst h1; subst h2
    exact ⟨hc, ho⟩
  · rw [List.getElem?_set_ne hi] at h1
    rw [Array.getElem?_setIfInBounds_ne hi] at h2
    exact h.2 i d u h1 h2

theorem PW.put {X : Nat → Prop} : ∀ (ds : List V) (us : List Value) (cs : List V) (vs : Array Value) (off j : Nat), PW w X φ cs vs → ds.length = us.length → (∀ (i : Nat) (c : V) (v : Value), ds[i]? = some c → us[i]? = some v → Rep w X φ c v ∧ v.oneCell' = true) →
    PW w X φ (putCells cs (off + j) ds) ((us.zipIdx j).foldl (fun cs (p : Value × Nat) => cs.setIfInBounds (off + p.2) p.1) vs)
  | [], us, cs, vs, off, j, h, hl, _ => by
    cases us with
    | nil => exact h
    | cons => cases hl
  | d :: ds, us, cs, vs, off, j, h, hl, hh => by
    cases us with
    | nil => cases hl
    | cons u us =>
      obtain ⟨h1, h2⟩ := hh 0 d u rfl rfl
      have := PW.put ds us _ _ off (j + 1) (h.set h1 h2 (off + j)) (by simpa using hl) (fun i c v h3 h4 => hh (i + 1) c v (by simpa using h3) (by simpa using h4))
      simp only [putCells, List.zipIdx_cons, List.foldl_cons]
      exact this

theorem PW.fill (R : RelAt N B G fr φ ⟨e, h, nx, pr⟩ a w) (place : Nat → Option (Nat × Nat)) : ∀ (ps : List (Nat × Operand)) (qs : List (Nat × Nat × Opd)) (cs ds : List V) (vs : Array Value), tParts place ps = some qs → buildv e cs qs = some ds → PW w (Excl B φ) φ cs vs →
    ∃ us, Instr.fill place vs (ps.map fun p => (p.1, a.eval p.2)) = some us ∧ PW w (Excl B φ) φ ds us
  | [], qs, cs, ds, vs, hq, hb, h => by
    simp only [tParts, Option.some.injEq] at hq
    subst hq
    simp only [buildv, Option.some.injEq] at hb
    subst hb
    exact ⟨vs, rfl, h⟩
  | (i, x) :: ps, qs, cs, ds, vs, hq, hb, h => by
    simp only [tParts] at hq
    split at hq
    · rename_i o k r hpl hr
      injection hq with hq
      subst hq
      simp only [buildv] at hb
      cases hx : VM.opd e (tOpd x) with
      | none => rw [hx] at hb; cases hb
      | some c =>
        rw [hx] at hb
        simp only at hb
        split at hb
        · rename_i hc
          simp only [Bool.and_eq_true] at hc
          have hk : c.cells.length = k := Nat.eq_of_beq_eq_true hc.1.1
          have ho : o + k ≤ cs.length := Nat.le_of_ble_eq_true hc.1.2
          obtain ⟨h1, h2⟩ := rep_cells (R.opd hx) hc.2
          have hp := PW.put c.cells (a.eval x).cells.toList cs vs o 0 h (by simpa using h1) (fun i d u h3 h4 => h2 i d u h3 (by simpa using h4))
          simp only [Nat.add_zero] at hp
          obtain ⟨us, hu, hpu⟩ := PW.fill R place ps r _ ds _ hr hb hp
          refine ⟨us, ?_, hpu⟩
          simp only [List.map_cons, Instr.fill, hpl]
          rw [if_neg (by rw [← h1, hk, ← h.1]; simp; omega)]
          rw [← hu]
          congr 1
          rw [← Array.foldl_toList]
          simp
        · cases hb
    · cases hq

theorem toV_rep {X : Nat → Prop} {v : Value} {c : V} (h : toV v = some c) : Rep w X φ c v ∧ v.oneCell' = true := by
  unfold toV at h
  split at h <;> first | (cases h; done) | (injection h with h; subst h)
  · exact ⟨.str _ _ rfl, rfl⟩
  all_goals exact ⟨.raw _ rfl, rfl⟩

theorem toVs_pw {X : Nat → Prop} : ∀ {vs : List Value} {cs : List V}, toVs vs = some cs → PW w X φ cs vs.toArray
  | [], cs, h => by simp only [toVs, Option.some.injEq] at h; subst h; exact ⟨rfl, fun i c v h => by cases h⟩
  | v :: r, cs, h => by
    simp only [toVs] at h
    split at h
    · rename_i c d hc hd
      injection h with h
      subst h
      have ih := toVs_pw (X := X) hd
      refine ⟨by simpa using ih.1, fun i c' u h1 h2 => ?_⟩
      cases i with
      | zero => simp at h1 h2; subst h1; subst h2; exact toV_rep hc
      | succ i => exact ih.2 i c' u (by simpa using h1) (by simpa using h2)
    · cases h

theorem zero_run {t : TypeId} {zs : List V} (h : tZero P t = some zs) : ∃ z i, P.info? t = some i ∧ i.zero = some z ∧ toVs z.cells.toList = some zs ∧ ∀ w, (zeroValue t).run P w = .ok z w := by
  unfold tZero at h
  split at h
  · rename_i z hz
    obtain ⟨i, hi, hz⟩ := Option.bind_eq_some_iff.1 hz
    exact ⟨z, i, hi, hz, h, fun w => by simp [zeroValue, typeInfo, hi, hz]⟩
  · cases h

theorem zero_pw {X : Nat → Prop} {z : Value} {zs : List V} (h : toVs z.cells.toList = some zs) : PW w X φ zs z.cells := by
  have := toVs_pw (w := w) (X := X) (φ := φ) h
  simpa using this

/-- What is to be shown of a quiet operation. r: what it reads. -/
def Comes (P : Program) (B : Nat → Prop) (φ : Loc) (a : Act) (w : World) (o : Oper) (nm : Nat) (r : Option (Option Nat)) (v : V) : Option Blk → Prop
  | none => ∃ (u : Value) (D : Nat → Prop), Rep w (Excl B φ) φ v u ∧ (∀ w' : World, (∀ b, D b → w'.heap[b]? = w.heap[b]?) → (execOp a.eval o).run P w' = .ok (.value u) w') ∧
      ∀ o', r = some o' → ∀ b, D b → (b < w.heap.size ∧ ¬ Excl B φ b) ∨ ∃ y, o' = some y ∧ φ y = some (some b)
  | some k => ∃ (u : Value) (w' : World) (n : Nat), (execOp a.eval o).run P w = .ok (.value u) w' ∧ w.heap.size ≤ w'.heap.size ∧ (∀ b, b < w.heap.size → w'.heap[b]? = w.heap[b]?) ∧ w'.os = w.os ∧ w'.tape = w.tape ∧ w'.output = w.output ∧ (w.heap.size ≤ n ∧ n < w'.heap.size) ∧
      (∀ φ', (∀ c v, Rep w (Excl B φ) φ c v → Rep w' (Excl B φ') φ' c v) → φ' nm = some (some n) → BlkAt w' (Excl B φ') φ' n k) ∧
      ∀ φ', (∀ c v, Rep w (Excl B φ) φ c v → Rep w' (Excl B φ') φ' c v) → φ' nm = some (some n) → Rep w' (Excl B φ') φ' v u

theorem stay {o : Oper} {nm : Nat} {r : Option (Option Nat)} {v : V} {u : Value} (hx : ∀ w', (execOp a.eval o).run P w' = .ok (.value u) w') (hr : Rep w (Excl B φ) φ v u) : Comes P B φ a w o nm r v none :=
  ⟨u, fun _ => False, hr, fun w' _ => hx w', fun _ _ b h => h.elim⟩

theorem cell_of_heap {b : Nat} {vs : Array Value} {e : TypeId} {z : Nat × Nat} (h : w.heap[b]? = some (.cells vs e z)) (i : Nat) : w.cell? ⟨b, i, none⟩ = vs[i]? := by
  simp [World.cell?, h]

/-- A new block of cells. -/
theorem newCells {o : Oper} {nm : Nat} {r : Option (Option Nat)} {cs : List V} {vs : Array Value} (hp : PW w (Excl B φ) φ cs vs) {t : TypeId} {v : V} {u : Value} (hx : (execOp a.eval o).run P w = .ok (.value u) (w.alloc (.cells vs t)))
    (hv : ∀ φ', φ' nm = some (some w.heap.size) → Rep (w.alloc (.cells vs t)) (Excl B φ') φ' v u) : Comes P B φ a w o nm r v (some (.cells cs)) := by
  refine ⟨u, _, w.heap.size, hx, by simp, fun b h => Below.heap_alloc w _ b h, rfl, rfl, rfl, ⟨Nat.le_refl _, by simp⟩, fun φ' hr hn => ?_, fun φ' _ hn => hv φ' hn⟩
  exact ⟨vs, t, (0, 0), alloc_at _ _, fun i _ => by omega, by rw [hp.1]; exact Nat.le_refl _, fun i c v h1 h2 => ⟨hr _ _ (hp.2 i c v h1 h2).1, (hp.2 i c v h1 h2).2⟩⟩

theorem new_ptr {X : Nat → Prop} {φ' : Loc} {nm n : Nat} {w' : World} (h : φ' nm = some (some n)) : Rep w' X φ' (.ptr nm 0) (.pointer (some ⟨n, 0, none⟩)) :=
  .ptr _ _ _ rfl (by rw [h]; simp) fun b hb => by rw [h] at hb; injection hb with hb; injection hb with hb; subst hb; rfl

theorem ret_some {o : Option V} {v : V} {new : Option Blk} (h : ret o = some (v, new)) : o = some v ∧ new = none := by
  unfold ret at h
  split at h
  · injection h with h; injection h with h1 h2; subst h1; exact ⟨rfl, h2.symm⟩
  · cases h

section ops
variable {o : Oper} {nm : Nat} {r : Option (Option Nat)} {v : V} {new : Option Blk}

theorem q_mv {x : Operand} (ho : o.op = .move x ∨ o.op = .assign x) (hy : ret (VM.opd e (tOpd x)) = some (v, new)) (R : RelAt N B G fr φ ⟨e, h, nx, pr⟩ a w) : Comes P B φ a w o nm r v new := by
  obtain ⟨h1, rfl⟩ := ret_some hy
  exact stay (u := a.eval x) (fun w' => by rcases ho with ho | ho <;> simp [execOp, ho]) (R.opd h1)

theorem q_pick {x y z : Operand} (ho : o.op = .pick x y z) (hy : yPick e (tOpd y) (tOpd z) (VM.opd e (tOpd x)) = some (v, new)) (R : RelAt N B G fr φ ⟨e, h, nx, pr⟩ a w) : Comes P B φ a w o nm r v new := by
  have hrun : ∀ b, a.eval x = .bool b → ∀ w', (execOp a.eval o).run P w' = .ok (.value (if b then a.eval y else a.eval z)) w' := fun b hb w' => by
    simp [execOp, ho, hb, Go.asBool]
  unfold yPick at hy
  split at hy
  · rename_i hx
    obtain ⟨h1, rfl⟩ := ret_some hy
    exact stay (hrun _ (rep_b (R.opd hx))) (R.opd h1)
  · rename_i hx
    obtain ⟨h1, rfl⟩ := ret_some hy
    exact stay (hrun _ (rep_b (R.opd hx))) (R.opd h1)
  · cases hy

theorem q_alloc {t : TypeId} (ho : o.op = .alloc t) {zs : List V} (hz : tZero P t = some zs) (hy : some (V.ptr nm 0, some (Blk.cells zs)) = some (v, new)) : Comes P B φ a w o nm r v new := by
  injection hy with hy; injection hy with h1 h2
  subst h1; subst h2
  obtain ⟨z, i, hi, hiz, hzc, hzr⟩ := zero_run hz
  exact newCells (zero_pw hzc) (t := t) (u := .pointer (some ⟨w.heap.size, 0, none⟩)) (by simp [execOp, ho, Instr.alloc, hzr, newVar, newRow]) fun φ' => new_ptr

theorem q_box {t : TypeId} {x : Operand} (ho : o.op = .box t x) {k : Nat} (hy : yBox nm k (VM.opd e (tOpd x)) = some (v, new)) (R : RelAt N B G fr φ ⟨e, h, nx, pr⟩ a w) : Comes P B φ a w o nm r v new := by
  unfold yBox at hy
  split at hy
  · rename_i c hx
    split at hy
    · rename_i hc
      injection hy with hy; injection hy with h1 h2
      subst h1; subst h2
      simp only [Bool.and_eq_true] at hc
      obtain ⟨h1, h2⟩ := rep_cells (R.opd hx) hc.2
      exact newCells ⟨h1, h2⟩ (t := t) (u := .pointer (some ⟨w.heap.size, 0, none⟩)) (by simp [execOp, ho, Instr.box, newVar, newRow]) fun φ' => new_ptr
    · cases hy
  · cases hy

theorem q_build {t : TypeId} {ps : Array (Nat × Operand)} (ho : o.op = .build t ps) {zs : List V} {qs : List (Nat × Nat × Opd)} (hz : tZero P t = some zs) {place : Nat → Option (Nat × Nat)}
    (hpl : (∃ fs pl, P.underlying t = some (.struct fs) ∧ tPlaces P fs = some pl ∧ place = fun i => pl[i]?) ∨ ∃ n e k, P.underlying t = some (.array n e) ∧ tSize P e = some k ∧ place = fun i => some (i * k, k))
    (hq : tParts place ps.toList = some qs) (hy : yBuild (buildv e zs qs) = some (v, new)) (R : RelAt N B G fr φ ⟨e, h, nx, pr⟩ a w) : Comes P B φ a w o nm r v new := by
  unfold yBuild at hy
  split at hy
  · rename_i cs hb
    injection hy with hy; injection hy with h1 h2
    subst h1; subst h2
    obtain ⟨z, i, hi, hiz, hzc, _⟩ := zero_run hz
    obtain ⟨us, hu, hp⟩ := PW.fill R place ps.toList qs _ _ z.cells hq hb (zero_pw hzc)
    have hbuilt : P.built t (ps.map fun (i, x) => (i, a.eval x)).toList = some us := by
      unfold Program.built
      rcases hpl with ⟨fs, pl, hu', hpl, rfl⟩ | ⟨n, e, k, hu', hk, rfl⟩
      · unfold tPlaces at hpl
        simp only [hi, hu', hiz, hpl, Array.toList_map]
        simpa using hu
      · unfold tSize at hk
        obtain ⟨ie, hie, rfl⟩ := Option.map_eq_some_iff.1 hk
        simp only [hi, hu', hiz, hie, Array.toList_map]
        exact hu
    refine stay (u := .agg us) (fun w' => by simp [execOp, ho, run_build w' t _ us hbuilt]) ?_
    have := Rep.agg cs us.toList (w := w) (X := Excl B φ) (φ := φ) (by simpa using hp.1) (fun i c v h1 h2 => (hp.2 i c v h1 (by simpa using h2)).1)
    simpa using this
  · cases hy

theorem cellsAt_get (f : Nat → V) : ∀ (k o i : Nat) (c : V), (cellsAt f o k)[i]? = some c → i < k ∧ c = f (o + i)
  | 0, o, i, c, h => by cases h
  | k + 1, o, i, c, h => by
    cases i with
    | zero => simp [cellsAt] at h; exact ⟨by omega, h.symm⟩
    | succ i =>
      simp [cellsAt] at h
      obtain ⟨h1, h2⟩ := cellsAt_get f k (o + 1) i c h
      exact ⟨by omega, by rw [h2]; congr 1; omega⟩
theorem cellsAt_len (f : Nat → V) : ∀ (k o : Nat), (cellsAt f o k).length = k
  | 0, o => rfl
  | k + 1, o => by simp [cellsAt, cellsAt_len f k]

theorem cut_len {cs : List V} {o k : Nat} (h : o + k ≤ cs.length) : (cut cs o k).length = k := by
  simp [cut]; omega
theorem cut_get {cs : List V} {o k i : Nat} {c : V} (h : (cut cs o k)[i]? = some c) : i < k ∧ cs[o + i]? = some c := by
  unfold cut at h
  rw [List.getElem?_take] at h
  split at h
  · rename_i hi
    exact ⟨hi, by simpa using h⟩
  · cases h

theorem load_of_cells {X : Nat → Prop} {b of k : Nat} {ds : List V} {t : TypeId} {agg : Bool} {c : V} (hg : tAgg P t = some agg) (hk : tSize P t = some k) (hl : ds.length = k) (h : ∀ (i : Nat) (d : V), ds[i]? = some d → ∃ v, w.cell? ⟨b, of + i, none⟩ = some v ∧ Rep w X φ d v) (hc : ofCells agg ds = some c) :
    ∃ v, (∀ w' : World, w'.heap[b]? = w.heap[b]? → (loadVar t ⟨b, of, none⟩).run P w' = .ok v w') ∧ Rep w X φ c v := by
  have hcell : ∀ w' : World, w'.heap[b]? = w.heap[b]? → ∀ i, w'.cell? ⟨b, i, none⟩ = w.cell? ⟨b, i, none⟩ := fun w' h i => by simp only [World.cell?, h]
  unfold loadVar
  simp only [Sem.run_bind, tAgg_run hg, Result.andThen_ok]
  unfold ofCells at hc
  split at hc
  · injection hc with hc
    subst hc
    have hg' : ∀ i, i < k → w.cell? ⟨b, of + i, none⟩ = some ((w.cell? ⟨b, of + i, none⟩).getD undef) := fun i hi => by
      obtain ⟨v, hv, _⟩ := h i ds[i] (by simp [hl, hi])
      rw [hv]; rfl
    have hlc := fun (w' : World) (hw : w'.heap[b]? = w.heap[b]?) => run_loadCells (P := P) w' ⟨b, of, none⟩ k (fun i => (w.cell? ⟨b, of + i, none⟩).getD undef) (fun j hj => by rw [addr_add _ rfl]; exact (hcell w' hw _).trans (hg' j hj))
    refine ⟨.agg ((List.range k).map fun i => (w.cell? ⟨b, of + i, none⟩).getD undef).toArray, fun w' hw => ?_, .agg _ _ (by simp [hl]) fun i c v h1 h2 => ?_⟩
    · simp only [if_true, Sem.run_bind, tSize_run hk, Result.andThen_ok, hlc w' hw, Sem.run_pure]
    · have hi : i < k := by rw [← hl]; exact (List.getElem?_eq_some_iff.1 h1).1
      simp only [List.getElem?_map, List.getElem?_range hi, Option.map_some, Option.some.injEq] at h2
      obtain ⟨v', hv', hr⟩ := h i c h1
      rw [hv'] at h2
      simp at h2
      subst h2
      exact hr
  · injection hc with hc
    subst hc
    obtain ⟨v, hv, hr⟩ := h 0 _ rfl
    simp only [Nat.add_zero] at hv
    refine ⟨v, fun w' hw => ?_, hr⟩
    simp [(hcell w' hw _).trans hv]
  · cases hc

theorem sureAddr_run (ad : Addr) (w : World) : (Instr.sureAddr (.pointer (some ad))).run P w = .ok ad w := rfl

theorem ex_load {t : TypeId} {x : Operand} (ho : o.op = .load t x) {ad : Addr} {v : Value} (hx : a.eval x = .pointer (some ad)) (hl : (loadVar t ad).run P w = .ok v w) : (execOp a.eval o).run P w = .ok (.value v) w := by
  simp [execOp, ho, Instr.loadAt, hx, sureAddr_run, hl]

theorem q_load {t : TypeId} {x : Operand} (ho : o.op = .load t x) {agg : Bool} {k : Nat} (hg : tAgg P t = some agg) (hk : tSize P t = some k) (hy : yLoad h agg k (VM.opd e (tOpd x)) = some (v, new)) (R : RelAt N B G fr φ ⟨e, h, nx, pr⟩ a w) :
    Comes P B φ a w o nm (reads (.load agg k (tOpd x)) (VM.opd e (tOpd x))) v new := by
  unfold yLoad at hy
  split at hy
  · rename_i m g hx
    split at hy
    · rename_i hkm
      have hkm := Nat.le_of_ble_eq_true hkm
      obtain ⟨hl, rfl⟩ := ret_some hy
      obtain ⟨ad, val, hv, hs, hxx, hlt, hr, hf, hn⟩ := rep_fpt (R.opd hx)
      obtain ⟨u, h4, h5⟩ := load_of_cells (w := w) (X := Excl B φ) (φ := φ) (b := ad.block) (of := ad.off) hg hk (cellsAt_len g k 0) (fun i d hd => by
        obtain ⟨h1, rfl⟩ := cellsAt_get g k 0 i d hd
        exact ⟨val i, hr i (by omega), by rw [Nat.zero_add]; exact hf i (by omega)⟩) hl
      have he : ad = ⟨ad.block, ad.off, none⟩ := by cases ad; simp_all
      rw [hx]
      refine ⟨u, fun b => b = ad.block, h5, fun w' hw => ex_load ho hv (by rw [he]; exact h4 w' (hw _ rfl)), fun o' hr b hb => ?_⟩
      subst hb
      exact .inl ⟨hlt, hxx⟩
    · cases hy
  · rename_i y off hx
    unfold yLoadB at hy
    split at hy
    · rename_i cs hs
      split at hy
      · rename_i hkm
        have hkm := Nat.le_of_ble_eq_true hkm
        obtain ⟨hl, rfl⟩ := ret_some hy
        obtain ⟨b, hb, vs, t', z, hh, hz, hle, hp⟩ := R.st y _ hs
        obtain ⟨ad, hv, _, _, had⟩ := rep_ptr (R.opd hx)
        obtain rfl := had b hb
        obtain ⟨u, h4, h5⟩ := load_of_cells (w := w) (X := Excl B φ) (φ := φ) (b := b) (of := off) hg hk (cut_len hkm) (fun i d hd => by
          obtain ⟨h1, h2⟩ := cut_get hd
          have hlt : off + i < vs.size := by omega
          exact ⟨vs[off + i], by rw [cell_of_heap hh]; simp [hlt], (hp (off + i) d _ h2 (by simp [hlt])).1⟩) hl
        rw [hx]
        refine ⟨u, fun b' => b' = b, h5, fun w' hw => ex_load ho hv (h4 w' (hw _ rfl)), fun o' hr b' hb' => ?_⟩
        subst hb'
        simp only [reads, Option.some.injEq] at hr
        exact .inr ⟨y, hr.symm, hb⟩
      · cases hy
    · cases hy
  · cases hy

theorem q_nil {x : Operand} (ho : o.op = .nilCheck x) (hy : yNil (VM.opd e (tOpd x)) = some (v, new)) (R : RelAt N B G fr φ ⟨e, h, nx, pr⟩ a w) : Comes P B φ a w o nm r v new := by
  have hrun : ∀ ad, a.eval x = .pointer (some ad) → ∀ w, (execOp a.eval o).run P w = .ok (.value (a.eval x)) w := fun ad h w => by simp [execOp, ho, h]
  unfold yNil at hy
  split at hy <;> first | (cases hy; done) | skip
  all_goals
    rename_i hx
    injection hy with hy; injection hy with h1 h2
    subst h1; subst h2
    have hr := R.opd hx
  · obtain ⟨ad, g, hv, _⟩ := rep_fpt hr; exact stay (hrun _ hv) hr
  · obtain ⟨b, hv, _⟩ := rep_ptr hr; exact stay (hrun _ hv) hr

theorem eqGuard_run {op : BinOp} {t : TypeId} {x y : Operand} {u v : Value} (hu : Plain u v) (w : World) : (eqGuard op t x y u v).run P w = .ok () w := by
  obtain ⟨hu, hv⟩ := hu
  unfold eqGuard
  cases op <;> simp only [Bool.not_true, Bool.not_false, if_true, if_false, Bool.false_eq_true, reduceIte] <;> first
    | rfl
    | (cases u <;> first | exact absurd rfl hv | exact absurd rfl (hu _) | (cases v <;> rfl))

theorem q_bin {op : BinOp} {t t' : TypeId} {x y : Operand} (ho : o.op = .binOp op t x y t') {kd : Nat} (hk : BinT P kd t) (hy : yBin kd op (VM.opd e (tOpd x)) (VM.opd e (tOpd y)) = some (v, new)) (R : RelAt N B G fr φ ⟨e, h, nx, pr⟩ a w) : Comes P B φ a w o nm r v new := by
  unfold yBin at hy
  split at hy
  · rename_i p q hx hyy
    obtain ⟨hb, rfl⟩ := ret_some hy
    obtain ⟨hpl, u, hr, hrep⟩ := sound_binv hb (R.opd hx) (R.opd hyy) hk
    exact stay (u := u) (fun w' => by simp [execOp, ho, eqGuard_run hpl, hr]) hrep
  · cases hy

theorem q_beq {op : BinOp} {t t' : TypeId} {x y : Operand} (ho : o.op = .binOp op t x y t') {fs : Array Field} (ht : P.underlying t = some (.struct fs)) {ks : List Nat} (hf : tFlatS P t fs = some ks) (hm : P.eqGuardType P.depth t = false) (hy : yBeq ks op (VM.opd e (tOpd x)) (VM.opd e (tOpd y)) = some (v, new)) (R : RelAt N B G fr φ ⟨e, h, nx, pr⟩ a w) : Comes P B φ a w o nm r v new := by
  unfold yBeq at hy
  split at hy
  · rename_i p q hx hyy
    obtain ⟨hb, rfl⟩ := ret_some hy
    obtain ⟨⟨xs, ys, hu, hv⟩, u, hr, hrep⟩ := sound_beqv ht hf hb (R.opd hx) (R.opd hyy)
    refine stay (u := u) (fun w' => ?_) hrep
    have hg := run_eqGuard_agg w' op t x y xs ys hm
    have hr := hr w'
    rw [hu, hv] at hr
    simp [execOp, ho, hu, hv, hg, hr]
  · cases hy

theorem q_un {op : UnOp} {t : TypeId} {x : Operand} (ho : o.op = .unOp op t x) (hy : yUn op (VM.opd e (tOpd x)) = some (v, new)) (R : RelAt N B G fr φ ⟨e, h, nx, pr⟩ a w) : Comes P B φ a w o nm r v new := by
  unfold yUn at hy
  split at hy
  · rename_i c hx
    obtain ⟨hu, rfl⟩ := ret_some hy
    obtain ⟨u, hr, hrep⟩ := sound_unv (P := P) hu (R.opd hx)
    exact stay (u := u) (fun w' => by simp [execOp, ho, hr]) hrep
  · cases hy

theorem q_conv {t d : TypeId} {x : Operand} (ho : o.op = .convert t d x) {k : IntKind} (hd : P.underlying d = some (.int k)) (hs : ∃ u, P.underlying t = some u) (hy : yConv k (VM.opd e (tOpd x)) = some (v, new)) (R : RelAt N B G fr φ ⟨e, h, nx, pr⟩ a w) : Comes P B φ a w o nm r v new := by
  unfold yConv at hy
  split at hy
  · rename_i k' n hx
    injection hy with hy; injection hy with h1 h2
    subst h1; subst h2
    obtain ⟨u, hu⟩ := hs
    have hv := rep_i (R.opd hx)
    rw [wr_eq]
    exact stay (u := .int k (k.wrap n)) (fun w' => by simp [execOp, ho, hv, convert, run_underlying hu, run_underlying hd, Conv.intToInt]) mk_i
  · cases hy

theorem q_fn {f : Fn} {x y : Array Operand} (ho : o.op = .makeFunc f x y) (hy : yFn f (VM.opds e (tOpds x.toList)) (VM.opds e (tOpds y.toList)) = some (v, new)) (R : RelAt N B G fr φ ⟨e, h, nx, pr⟩ a w) : Comes P B φ a w o nm r v new := by
  unfold yFn at hy
  split at hy
  · rename_i p q hp hq
    injection hy with hy; injection hy with h1 h2
    subst h1; subst h2
    obtain ⟨h1, h2⟩ := R.opds hp
    obtain ⟨h3, h4⟩ := R.opds hq
    refine stay (u := .func f (x.toList.map a.eval).toArray (y.toList.map a.eval).toArray) ?_ (.fn f p q _ _ (by simpa using h1) (by simpa using h3) h2 h4)
    have e : ∀ z : Array Operand, z.map a.eval = (z.toList.map a.eval).toArray := fun z => by apply Array.ext'; simp
    intro w'
    simp only [execOp, ho, Instr.makeFunc, e]
    simp
  · cases hy

theorem q_mkmap {t : TypeId} (ho : o.op = .makeMap t none) (hy : some (V.mp nm, some (Blk.map [] 0)) = some (v, new)) : Comes P B φ a w o nm r v new := by
  injection hy with hy; injection hy with h1 h2
  subst h1; subst h2
  refine ⟨.map (some w.heap.size), w.alloc (.map #[] 0), w.heap.size, by simp [execOp, ho, Instr.makeMap], by simp, fun b h => Below.heap_alloc w _ b h, rfl, rfl, rfl, ⟨Nat.le_refl _, by simp⟩, fun φ' hr hn => ?_, fun φ' _ hn => ?_⟩
  · exact ⟨#[], alloc_at _ _, ⟨rfl, fun i k v n e h => by cases h⟩⟩
  · exact .mp _ _ (by rw [hn]; simp) fun b hb => by rw [hn] at hb; injection hb with hb; injection hb

end ops
end
end Go.VM
