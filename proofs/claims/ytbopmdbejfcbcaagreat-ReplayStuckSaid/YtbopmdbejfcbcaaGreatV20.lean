/- The machine VM, part 20: arguments of a law, cell by cell. -/
import Derived.Test.YtbopmdbejfcbcaaGreatV19
set_option linter.unusedVariables false
set_option linter.unusedSectionVars false
set_option linter.unusedSimpArgs false
namespace Go.VM
open Go.ChangeShapes Go.WideShapes Go.ChangeAt Go.RowKit

section
variable {H : Type} {enc : TypeId × Value → H} {P : Program} {W : World}

/-- A type whose cells are numbers, texts, bools and slices. -/
def plainB (P : Program) : Nat → TypeId → Bool
  | 0, _ => false
  | d + 1, t => match P.underlying t with
    | some (.int _) => true
    | some .bool => true
    | some .string => true
    | some (.slice _) => true
    | some (.struct fs) => fs.toList.all (fun f => plainB P d f.type) && (List.range (P.cellsOf t)).all fun i => fs.toList.any fun f => Nat.ble f.offset i && Nat.blt i (f.offset + P.cellsOf f.type)
    | _ => false

/-- reads as data -/
abbrev Trods (enc : TypeId × Value → H) (P : Program) (W : World) (t : TypeId) (cs : List Value) : Prop := ∃ fuel x, DataW.trod enc P W 0 (fun _ => true) true fuel t cs = some x

theorem part_get {cs : List Value} {off k i : Nat} {v : Value} (h : cs[i]? = some v) (h1 : off ≤ i) (h2 : i < off + k) : ((cs.drop off).take k)[i - off]? = some v := by
  rw [List.getElem?_take]
  rw [if_pos (by omega), List.getElem?_drop, show off + (i - off) = i from by omega]
  exact h

theorem Trods.part {t : TypeId} {fs : Array Field} (ht : P.underlying t = some (.struct fs)) {cs : List Value} (h : Trods enc P W t cs) {i : Nat} {f : Field} (hf : fs[i]? = some f) : Trods enc P W f.type ((cs.drop f.offset).take (P.cellsOf f.type)) := by
  obtain ⟨fuel, x, h⟩ := h
  obtain ⟨xs, n, rfl, _, hlen, hxs, hr⟩ := DataW.trod_struct ht h
  have h1 := hr i f hf
  have hi : i < xs.length := by rw [hxs]; exact (Array.getElem?_eq_some_iff.1 hf).1
  rw [List.getElem?_eq_getElem hi] at h1
  exact ⟨_, _, h1⟩

theorem Trods.len {t : TypeId} {fs : Array Field} (ht : P.underlying t = some (.struct fs)) {cs : List Value} (h : Trods enc P W t cs) : cs.length = P.cellsOf t := by
  obtain ⟨fuel, x, h⟩ := h
  obtain ⟨_, _, _, _, hlen, _⟩ := DataW.trod_struct ht h
  exact hlen

theorem Trods.int {t : TypeId} {k : IntKind} (ht : P.underlying t = some (.int k)) {cs : List Value} (h : Trods enc P W t cs) : ∃ n, cs = [.int k n] := by
  obtain ⟨fuel, x, h⟩ := h
  obtain ⟨n, h1, _⟩ := DataW.trod_int ht h
  exact ⟨n, h1⟩
theorem Trods.bool {t : TypeId} (ht : P.underlying t = some .bool) {cs : List Value} (h : Trods enc P W t cs) : ∃ n, cs = [.bool n] := by
  obtain ⟨fuel, x, h⟩ := h
  obtain ⟨n, h1, _⟩ := DataW.trod_bool ht h
  exact ⟨n, h1⟩
theorem Trods.string {t : TypeId} (ht : P.underlying t = some .string) {cs : List Value} (h : Trods enc P W t cs) : ∃ n, cs = [.string n] := by
  obtain ⟨fuel, x, h⟩ := h
  obtain ⟨n, h1, _⟩ := DataW.trod_string ht h
  exact ⟨n, h1⟩

theorem cell_spot {w : World} {a : Addr} {v : Value} (h : w.cell? a = some v) : a.spot = none ∧ a.block < w.heap.size := by
  unfold World.cell? at h
  split at h
  · rename_i c t z hb
    split at h
    · cases h
    · rename_i hs
      exact ⟨by simpa using hs, (haveI : Val := ⟨fun _ => .bool false⟩; heap_lt hb)⟩
  · cases h

/-- a slice: nil, without elements, or with some, in memory -/
theorem Trods.slice {t e : TypeId} (ht : P.underlying t = some (.slice e)) (hc : 0 < P.cellsOf e) {cs : List Value} (h : Trods enc P W t cs) :
    cs = [.slice none 0 0] ∨ (∃ a cap, cs = [.slice (some a) 0 cap]) ∨ ∃ a len cap, cs = [.slice (some a) (len + 1) cap] ∧ a.spot = none ∧ a.block < W.heap.size ∧ len + 1 ≤ cap ∧
      ∀ j, j < len + 1 → ∃ es, es.length = P.cellsOf e ∧ Trods enc P W e es ∧ ∀ c, c < P.cellsOf e → W.cell? ⟨a.block, a.off + (j * P.cellsOf e + c), none⟩ = es[c]? := by
  obtain ⟨fuel, x, h⟩ := h
  rcases DataW.trod_slice ht h with ⟨rfl, _⟩ | ⟨a, len, cap, elems, rest, n, rfl, rfl, _, _, hlc, _, hel, hread, _, _⟩
  · exact .inl rfl
  · cases len with
    | zero => exact .inr (.inl ⟨a, cap, rfl⟩)
    | succ len =>
      have hdat : ∀ j, j < len + 1 → ∃ es, es.length = P.cellsOf e ∧ Trods enc P W e es ∧ ∀ c, c < P.cellsOf e → W.cell? ((a.add (j * P.cellsOf e)).add c) = es[c]? := fun j hj => by
        have hr := hread j hj
        have hlt : j < elems.length := by omega
        rw [List.getElem?_eq_getElem hlt] at hr
        obtain ⟨es, h1, h2⟩ := Option.bind_eq_some_iff.1 hr
        obtain ⟨_, h5, h4⟩ := World.cells?_some h1
        exact ⟨es, h5, ⟨_, _, h2⟩, h4⟩
      have hs : a.spot = none ∧ a.block < W.heap.size := by
        obtain ⟨es, h1, _, h3⟩ := hdat 0 (by omega)
        have h4 := h3 0 hc
        rw [List.getElem?_eq_getElem (by omega)] at h4
        have h5 := cell_spot h4
        unfold Addr.add at h5
        by_cases hk : 0 * P.cellsOf e = 0
        · simpa [hk] using h5
        · exact absurd (Nat.zero_mul _) hk
      refine .inr (.inr ⟨a, len, cap, rfl, hs.1, hs.2, hlc, fun j hj => ?_⟩)
      obtain ⟨es, h1, h2, h3⟩ := hdat j hj
      refine ⟨es, h1, h2, fun c hcs => ?_⟩
      haveI : Val := ⟨fun _ => .bool false⟩
      rw [← h3 c hcs, addr_add _ hs.1, addr_add _ rfl]
      show W.cell? ⟨a.block, a.off + (j * P.cellsOf e + c), none⟩ = W.cell? ⟨a.block, a.off + j * P.cellsOf e + c, none⟩
      rw [Nat.add_assoc]

theorem plain_cells : ∀ {d : Nat} {t : TypeId} {cs : List Value}, plainB P d t = true → Trods enc P W t cs → ∀ (i : Nat) (v : Value), cs[i]? = some v → v.oneCell' = true := by
  intro d
  induction d with
  | zero => intro t cs h; cases h
  | succ d ih =>
    intro t cs hp h i v hv
    unfold plainB at hp
    split at hp
    · rename_i k ht
      obtain ⟨n, rfl⟩ := h.int ht
      cases i with
      | zero => simp at hv; subst hv; rfl
      | succ i => simp at hv
    · rename_i ht
      obtain ⟨n, rfl⟩ := h.bool ht
      cases i with
      | zero => simp at hv; subst hv; rfl
      | succ i => simp at hv
    · rename_i ht
      obtain ⟨n, rfl⟩ := h.string ht
      cases i with
      | zero => simp at hv; subst hv; rfl
      | succ i => simp at hv
    · rename_i e ht
      obtain ⟨fuel, x, h⟩ := h
      rcases DataW.trod_slice ht h with ⟨rfl, _⟩ | ⟨a, len, cap, elems, rest, n, rfl, rfl, _⟩ <;>
      · cases i with
        | zero => simp at hv; subst hv; rfl
        | succ i => simp at hv
    · rename_i fs ht
      rw [Bool.and_eq_true, List.all_eq_true, List.all_eq_true] at hp
      have hlen := h.len ht
      have hi : i < P.cellsOf t := by rw [← hlen]; exact (List.getElem?_eq_some_iff.1 hv).1
      have := hp.2 i (List.mem_range.2 hi)
      rw [List.any_eq_true] at this
      obtain ⟨f, hf, hr⟩ := this
      rw [Bool.and_eq_true] at hr
      obtain ⟨k, hk⟩ := List.getElem?_of_mem hf
      have hk' : fs[k]? = some f := by simpa using hk
      exact ih (hp.1 f hf) (h.part ht hk') (i - f.offset) v (part_get hv (Nat.le_of_ble_eq_true hr.1) (Nat.le_of_ble_eq_true hr.2))
    · cases hp

theorem trods_of {t : TypeId} {v : Value} {d : DataW H} {ps : List MemPlace} (h : DataW.Trod enc P W 0 (fun _ => true) true t v d ps) : Trods enc P W t v.cells.toList := by
  obtain ⟨fuel, h⟩ := h
  exact ⟨fuel, _, h⟩

/-- an argument of which nothing is told: a struct -/
theorem rep_opqs [Val] {X : Nat → Prop} {φ : Loc} {t : TypeId} {cs : Array Value} {d k : Nat} (hp : plainB P d t = true) (h : Trods enc P W t cs.toList) (hk : cs.toList.length = k) : Rep W X φ (.agg (List.replicate k .opq)) (.agg cs) := by
  refine .agg _ cs.toList (by simp [← hk]) fun i c v h1 h2 => ?_
  rw [List.getElem?_replicate] at h1
  split at h1
  · injection h1 with h1; subst h1; exact .opq _ (plain_cells hp h i v h2)
  · cases h1

/-- a call with one argument -/
theorem start_one [Val] {f : Nat} {w : World} {v : Value} {c : V} {nx : Nat} {prim : Prims} {G : Nat → Nat → Value → Prop} (hp : PrimOk P G prim) (hr : startN P prim 5000 f [c] nx isTrue = true) (hG : GAt G w) (h : Rep w (fun _ => False) (Gone nx) c v) : Calls P f #[v] w fun e w' => e = .returned (.bool true) ∧ Below w.heap.size w w' :=
  start_true hp hr w hG [v] rfl fun i c' u g1 g2 => by
    match i, g1, g2 with
    | 0, g1, g2 => have g1 := Option.some.inj g1; have g2 := Option.some.inj g2; subst g1; subst g2; exact h
    | _ + 1, g1, g2 => simp at g1

end
end Go.VM
