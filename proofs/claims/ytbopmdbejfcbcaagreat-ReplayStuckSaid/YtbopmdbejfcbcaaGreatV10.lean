/- The machine VM, part 10: append. -/
import Derived.Test.YtbopmdbejfcbcaaGreatV9
import Derived.Deep.Upon
import Derived.Laws.AppendOwn
set_option linter.unusedVariables false
set_option linter.unusedSectionVars false
set_option linter.unusedSimpArgs false
set_option linter.constructorNameAsVariable false
namespace Go.VM
open Go.RowKit
variable [Val]

theorem zeros_size (z : Array Value) (n : Nat) : (Builtin.zeroCells z n).size = n * z.size := by simp [Builtin.zeroCells]

theorem flat_get {α : Type} {sz : Nat} (h0 : 0 < sz) : ∀ {ls : List (List α)} (i : Nat), (∀ l ∈ ls, l.length = sz) → ls.flatten[i]? = (ls[i / sz]?).bind (·[i % sz]?)
  | [], i, _ => by simp
  | l :: ls, i, h => by
    have hl := h l (by simp)
    rw [List.flatten_cons]
    by_cases hi : i < sz
    · rw [List.getElem?_append_left (by omega), Nat.div_eq_of_lt hi, Nat.mod_eq_of_lt hi]
      simp
    · rw [List.getElem?_append_right (by omega), hl, flat_get h0 (i - sz) fun l hl => h l (by simp [hl])]
      have e1 : i / sz = (i - sz) / sz + 1 := by
        rw [← Nat.add_div_right _ h0]; congr 1; omega
      have e2 : i % sz = (i - sz) % sz := Nat.mod_eq_sub_mod (by omega)
      rw [e1, e2]
      simp

section
variable {P : Program} {ty : TypeId} {N : Nat} {B : Nat → Prop} {G : Nat → Nat → Value → Prop} {fr U : Nat → Prop} {φ : Loc} {a : Act} {w : World} {e : T V} {h : Heap} {nx : Nat} {pr : List Nat}

/-- lists of cells, and what they are -/
def LW (w : World) (X : Nat → Prop) (φ : Loc) (cs : List V) (vs : List Value) : Prop := cs.length = vs.length ∧ ∀ (i : Nat) (c : V) (v : Value), cs[i]? = some c → vs[i]? = some v → Rep w X φ c v ∧ v.oneCell' = true

theorem LW.one {X : Nat → Prop} {cs : List V} {vs : List Value} (h : LW w X φ cs vs) : ∀ u ∈ vs, u.oneCell' = true := fun u hu => by
  obtain ⟨i, hi⟩ := List.mem_iff_getElem?.1 hu
  have hlt : i < cs.length := by rw [h.1]; exact (List.getElem?_eq_some_iff.1 hi).1
  exact (h.2 i cs[i] u (by simp [hlt]) hi).2

theorem LW.nil {X : Nat → Prop} : LW w X φ [] [] := ⟨rfl, fun i c v h => by cases h⟩

theorem LW.append {X : Nat → Prop} {cs ds : List V} {vs us : List Value} (h : LW w X φ cs vs) (k : LW w X φ ds us) : LW w X φ (cs ++ ds) (vs ++ us) := by
  refine ⟨by simp [h.1, k.1], fun i c v h1 h2 => ?_⟩
  by_cases hi : i < cs.length
  · rw [List.getElem?_append_left hi] at h1
    rw [List.getElem?_append_left (by rw [← h.1]; exact hi)] at h2
    exact h.2 i c v h1 h2
  · rw [List.getElem?_append_right (by omega)] at h1
    rw [List.getElem?_append_right (by rw [← h.1]; omega), ← h.1] at h2
    exact k.2 _ c v h1 h2

theorem LW.mono {X X' : Nat → Prop} {φ' : Loc} {w' : World} (hr : ∀ c v, Rep w X φ c v → Rep w' X' φ' c v) {cs : List V} {vs : List Value} (h : LW w X φ cs vs) : LW w' X' φ' cs vs :=
  ⟨h.1, fun i c v h1 h2 => ⟨hr _ _ (h.2 i c v h1 h2).1, (h.2 i c v h1 h2).2⟩⟩

/-- a stretch of a block -/
theorem cut_lw {X : Nat → Prop} {cs : List V} {vs : Array Value} (hv : ∀ (i : Nat) (c : V) (v : Value), cs[i]? = some c → vs[i]? = some v → Rep w X φ c v ∧ v.oneCell' = true) (hle : cs.length ≤ vs.size) {off k : Nat} (ho : off + k ≤ cs.length) :
    LW w X φ (cut cs off k) ((vs.toList.drop off).take k) ∧ ((vs.toList.drop off).take k).length = k ∧ ∀ j u, ((vs.toList.drop off).take k)[j]? = some u → vs[off + j]? = some u := by
  have hg : ∀ j u, ((vs.toList.drop off).take k)[j]? = some u → vs[off + j]? = some u := fun j u h => by
    rw [List.getElem?_take] at h
    split at h
    · simpa using h
    · cases h
  have hl : ((vs.toList.drop off).take k).length = k := by simp; omega
  refine ⟨⟨by rw [cut_len ho, hl], fun i c v h1 h2 => ?_⟩, hl, hg⟩
  obtain ⟨_, h3⟩ := cut_get h1
  exact hv _ _ _ h3 (hg _ _ h2)

/-- what is appended -/
theorem elems_spec (R : RelAt N B G fr φ ⟨e, h, nx, pr⟩ a w) {t el : TypeId} (ht : P.underlying t = some (.slice el)) {sz m : Nat} (h0 : 0 < sz) {c : V} {v : Value} {new : List V} (hc : elems h sz c = some (m, new)) (hr : Rep w (Excl B φ) φ c v) :
    ∃ news, Src P sz t v m news w ∧ LW w (Excl B φ) φ new news := by
  unfold elems at hc
  split at hc
  · rename_i y sz' off n cap
    split at hc
    · rename_i cs hs hsz
      split at hc
      · rename_i hle
        have hsz : sz = sz' := Nat.eq_of_beq_eq_true hsz
        subst hsz
        have hle := Nat.le_of_ble_eq_true hle
        injection hc with hc; injection hc with h1 h2
        subst h1; subst h2
        obtain ⟨b, hb, vs, t', z, hh, hz, hlen, hv⟩ := R.st y _ hs
        obtain ⟨ad, c', rfl, _, _, had⟩ := rep_sl hr
        obtain ⟨had, hnc, _⟩ := had b hb
        obtain ⟨g1, g2, g3⟩ := cut_lw hv hlen hle
        refine ⟨_, Src.ofSlice w ht ad n c' _ (by rw [g2]) (fun j u hu => ?_) g1.one, g1⟩
        have hj : j < n * sz := by rw [← g2]; exact (List.getElem?_eq_some_iff.1 hu).1
        have hn : 0 < n := by
          rcases Nat.eq_zero_or_pos n with h | h
          · subst h; omega
          · exact h
        rw [had (by omega), addr_add _ rfl, cell_of_heap hh]
        exact g3 j u hu
      · cases hc
    · cases hc
  · rename_i sz' n g
    split at hc
    · rename_i hsz
      have hsz : sz = sz' := Nat.eq_of_beq_eq_true hsz
      subst hsz
      injection hc with hc; injection hc with h1 h2
      subst h1; subst h2
      cases hr with
      | fro _ _ _ ad cap val hs hx hlt hcap hr h1 hf hn =>
        have hA : ∀ l ∈ (List.range n).map fun j => cellsAt (g j) 0 sz, l.length = sz := fun l hl => by
          obtain ⟨j, _, rfl⟩ := List.mem_map.1 hl
          exact cellsAt_len _ _ _
        have hB : ∀ l ∈ (List.range n).map fun j => (List.range sz).map (val j), l.length = sz := fun l hl => by
          obtain ⟨j, _, rfl⟩ := List.mem_map.1 hl
          simp
        have hlen : ∀ {α : Type} {ls : List (List α)}, (∀ l ∈ ls, l.length = sz) → ls.flatten.length = ls.length * sz := fun {α ls} => by
          induction ls with
          | nil => intro _; simp
          | cons l ls ih =>
            intro hh
            rw [List.flatten_cons, List.length_append, ih fun l hl => hh l (by simp [hl]), hh l (by simp), List.length_cons, Nat.add_mul]
            omega
        have hget : ∀ i u, ((List.range n).map fun j => (List.range sz).map (val j)).flatten[i]? = some u → i / sz < n ∧ i % sz < sz ∧ u = val (i / sz) (i % sz) := fun i u hu => by
          rw [flat_get h0 i hB] at hu
          obtain ⟨l, hl, hu⟩ := Option.bind_eq_some_iff.1 hu
          have hi : i / sz < n := by have := (List.getElem?_eq_some_iff.1 hl).1; simpa using this
          have hm : i % sz < sz := Nat.mod_lt _ h0
          simp only [List.getElem?_map, List.getElem?_range hi, Option.map_some, Option.some.injEq] at hl
          subst hl
          simp only [List.getElem?_map, List.getElem?_range hm, Option.map_some, Option.some.injEq] at hu
          exact ⟨hi, hm, hu.symm⟩
        have hLW : LW w (Excl B φ) φ ((List.range n).map fun j => cellsAt (g j) 0 sz).flatten ((List.range n).map fun j => (List.range sz).map (val j)).flatten := by
          refine ⟨by rw [hlen hA, hlen hB]; simp, fun i c u hc hu => ?_⟩
          obtain ⟨hi, hm, rfl⟩ := hget i u hu
          rw [flat_get h0 i hA] at hc
          obtain ⟨l, hl, hc⟩ := Option.bind_eq_some_iff.1 hc
          simp only [List.getElem?_map, List.getElem?_range hi, Option.map_some, Option.some.injEq] at hl
          subst hl
          obtain ⟨_, rfl⟩ := cellsAt_get _ _ _ _ _ hc
          rw [Nat.zero_add]
          exact ⟨hf _ _ hi hm, h1 _ _ hi hm⟩
        refine ⟨_, Src.ofSlice w ht ad n cap _ (by rw [hlen hB]; simp) (fun j u hu => ?_) hLW.one, hLW⟩
        obtain ⟨hi, hm, rfl⟩ := hget j u hu
        rw [addr_add _ hs]
        have := hr _ _ hi hm
        rwa [Nat.mul_comm, Nat.div_add_mod] at this
      | froNil _ _ => exact ⟨[], Src.ofNil w ht 0, .nil⟩
      | froZero _ _ ad cap => exact ⟨[], Src.ofSlice w ht ad 0 cap [] (by simp) (fun j u h => by cases h) (fun u h => by cases h), .nil⟩
    · cases hc
  · injection hc with hc; injection hc with h1 h2
    subst h1; subst h2
    obtain ⟨ad, rfl⟩ := rep_emp hr
    exact ⟨[], Src.ofSlice w ht ad 0 0 [] (by simp) (fun j u h => by cases h) (fun u h => by cases h), .nil⟩
  · injection hc with hc; injection hc with h1 h2
    subst h1; subst h2
    rw [(rep_raw hr).1]
    exact ⟨[], Src.ofNil w ht 0, .nil⟩
  · cases hc

/-- A name is given up, and another stands for what is there then. -/
theorem HeapAt.move (R : HeapAt B G fr φ h w) {y b : Nat} (hy : φ y = some (some b)) (hpr : y ∉ pr) {nm : Nat} (hf : fr nm) {w' : World} (hs : w.heap.size ≤ w'.heap.size) (ho : ∀ c, c ≠ b → c < w.heap.size → w'.heap[c]? = w.heap[c]?) (ho' : w'.os = w.os) (ht : w'.tape = w.tape) (hu : w'.output = w.output)
    (hkeep : ∀ (cs : Array Value) (e : TypeId) (z : Nat × Nat), w.heap[b]? = some (.cells cs e z) → ∃ cs' e' z', w'.heap[b]? = some (.cells cs' e' z') ∧ cs'.size = cs.size) {v : Nat} (hv : v = b ∨ w.heap.size ≤ v) (hvlt : v < w'.heap.size)
    {h1 h2 : Heap} (hp1 : Put h y none h1) {k : Blk} (hp2 : Put h1 nm (some k) h2)
    (hbl : ∀ φ', (∀ c v, Rep w (Excl B φ) φ c v → Rep w' (Excl B φ') φ' c v) → φ' nm = some (some v) → BlkAt w' (Excl B φ') φ' v k) :
    ∃ φ', Fwd pr φ w φ' w' ∧ HeapAt B G (fun x => fr x ∧ x ≠ nm) φ' h2 w' ∧ φ' nm = some (some v) := by
  have hnone := R.free nm hf
  have hny : nm ≠ y := fun e => by rw [e, hy] at hnone; cases hnone
  let ψ : Loc := fun x => if x = nm then some (some v) else if x = y then some none else φ x
  have ψnm : ψ nm = some (some v) := by simp [ψ]
  have ψy : ψ y = some none := by simp [ψ, hny.symm]
  have ψo : ∀ x, x ≠ nm → x ≠ y → ψ x = φ x := fun x h1 h2 => by simp [ψ, h1, h2]
  have hin : ∀ x c, ψ x = some (some c) → (x ≠ nm ∧ x ≠ y ∧ φ x = some (some c)) ∨ (x = nm ∧ c = v) := fun x c hx => by
    by_cases h1 : x = nm
    · subst h1; rw [ψnm] at hx; injection hx with hx; injection hx with hx; exact .inr ⟨rfl, hx.symm⟩
    · by_cases h2 : x = y
      · subst h2; rw [ψy] at hx; cases hx
      · rw [ψo x h1 h2] at hx; exact .inl ⟨h1, h2, hx⟩
  have F : Fwd pr φ w ψ w' := ⟨ho', ht, hu, hs, fun c hc hn => ho c (fun e => hpr (hn y (e ▸ hy))) hc, fun x c hx => by
      rcases hin x c hx with ⟨_, _, hx⟩ | ⟨rfl, rfl⟩
      · exact .inl ⟨x, hx, .inl rfl⟩
      · rcases hv with rfl | hv
        · exact .inl ⟨y, hy, .inr hpr⟩
        · exact .inr hv, fun x u hx => by
      by_cases h2 : x = y
      · subst h2; exact .inr ⟨ψy, hpr⟩
      · have h1 : x ≠ nm := fun e => by rw [e, hnone] at hx; cases hx
        exact .inl ((ψo x h1 h2).trans hx), fun c cs e z hc => by
      by_cases hcb : c = b
      · subst hcb; exact hkeep cs e z hc
      · exact ⟨cs, e, z, (ho c hcb (heap_lt hc)).trans hc, rfl⟩⟩
  refine ⟨ψ, F, R.step F (fun x k' hk' => ?_) (fun x x' c h1 h2 => ?_) (fun x c hx => ?_) (fun x hx => ?_), ψnm⟩
  · rw [hp2 x] at hk'
    split at hk'
    · rename_i hx
      subst hx
      injection hk' with hk'
      subst hk'
      exact .inr ⟨v, ψnm, hbl ψ (fun c v h => F.rep h) ψnm⟩
    · rename_i hx
      rw [hp1 x] at hk'
      split at hk'
      · cases hk'
      · rename_i hxy
        refine .inl ⟨hk', ψo x hx hxy, fun c hc => ho c (fun e => hxy (R.inj x y b (e ▸ hc) hy)) (R.lt x c hc).1⟩
  · rcases hin x c h1 with ⟨a1, a2, a3⟩ | ⟨rfl, rfl⟩ <;> rcases hin x' c h2 with ⟨b1, b2, b3⟩ | ⟨b1, b2⟩
    · exact R.inj x x' c a3 b3
    · exfalso
      subst b2
      rcases hv with rfl | hv
      · exact a2 (R.inj x y _ a3 hy)
      · have := (R.lt x _ a3).1; omega
    · exfalso
      rcases hv with rfl | hv
      · exact b2 (R.inj x' y _ b3 hy)
      · have := (R.lt x' _ b3).1; omega
    · exact b1.symm
  · rcases hin x c hx with ⟨_, _, h3⟩ | ⟨_, rfl⟩
    · have := R.lt x c h3; exact ⟨by omega, this.2⟩
    · refine ⟨hvlt, fun hB => ?_⟩
      rcases hv with rfl | hv
      · exact (R.lt y _ hy).2 hB
      · have := R.ltB c hB; omega
  · have h1 := R.free x hx.1
    by_cases h2 : x = y
    · subst h2; rw [hy] at h1; cases h1
    · rw [ψo x hx.2 h2]; exact h1

end
end Go.VM
