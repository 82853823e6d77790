/- fathomlaw36.QueryNobody returns true for every input. -/
import Derived.Test.YtncbmbbdhekljaaGreatRows
import Derived.Test.YtncbmbbdhekljaaGreatQ2
set_option linter.unusedVariables false
set_option linter.unusedSectionVars false
set_option linter.unusedSimpArgs false
set_option linter.constructorNameAsVariable false
section
/- The machine VM, part 20: arguments of a law, cell by cell. -/
set_option linter.unusedVariables false
set_option linter.unusedSectionVars false
set_option linter.unusedSimpArgs false
namespace Go.VM
open Go.ChangeShapes Go.WideShapes Go.ChangeAt Go.RowKit

section
variable {H : Type} {enc : TypeId × Value → H} {P : Program} {W : World}

/-- A type whose cells are numbers, texts, bools and slices. -/
def plainB (P : Program) : Nat → TypeId → Bool
  | 0, _ => false
  | d + 1, t => match P.underlying t with
    | some (.int _) => true
    | some .bool => true
    | some .string => true
    | some (.slice _) => true
    | some (.struct fs) => fs.toList.all (fun f => plainB P d f.type) && (List.range (P.cellsOf t)).all fun i => fs.toList.any fun f => Nat.ble f.offset i && Nat.blt i (f.offset + P.cellsOf f.type)
    | _ => false

/-- reads as data -/
abbrev Trods (enc : TypeId × Value → H) (P : Program) (W : World) (t : TypeId) (cs : List Value) : Prop := ∃ fuel x, DataW.trod enc P W 0 (fun _ => true) true fuel t cs = some x

theorem part_get {cs : List Value} {off k i : Nat} {v : Value} (h : cs[i]? = some v) (h1 : off ≤ i) (h2 : i < off + k) : ((cs.drop off).take k)[i - off]? = some v := by
  rw [List.getElem?_take]
  rw [if_pos (by omega), List.getElem?_drop, show off + (i - off) = i from by omega]
  exact h

theorem Trods.part {t : TypeId} {fs : Array Field} (ht : P.underlying t = some (.struct fs)) {cs : List Value} (h : Trods enc P W t cs) {i : Nat} {f : Field} (hf : fs[i]? = some f) : Trods enc P W f.type ((cs.drop f.offset).take (P.cellsOf f.type)) := by
  obtain ⟨fuel, x, h⟩ := h
  obtain ⟨xs, n, rfl, _, hlen, hxs, hr⟩ := DataW.trod_struct ht h
  have h1 := hr i f hf
  have hi : i < xs.length := by rw [hxs]; exact (Array.getElem?_eq_some_iff.1 hf).1
  rw [List.getElem?_eq_getElem hi] at h1
  exact ⟨_, _, h1⟩

theorem Trods.len {t : TypeId} {fs : Array Field} (ht : P.underlying t = some (.struct fs)) {cs : List Value} (h : Trods enc P W t cs) : cs.length = P.cellsOf t := by
  obtain ⟨fuel, x, h⟩ := h
  obtain ⟨_, _, _, _, hlen, _⟩ := DataW.trod_struct ht h
  exact hlen

theorem Trods.int {t : TypeId} {k : IntKind} (ht : P.underlying t = some (.int k)) {cs : List Value} (h : Trods enc P W t cs) : ∃ n, cs = [.int k n] := by
  obtain ⟨fuel, x, h⟩ := h
  obtain ⟨n, h1, _⟩ := DataW.trod_int ht h
  exact ⟨n, h1⟩
theorem Trods.bool {t : TypeId} (ht : P.underlying t = some .bool) {cs : List Value} (h : Trods enc P W t cs) : ∃ n, cs = [.bool n] := by
  obtain ⟨fuel, x, h⟩ := h
  obtain ⟨n, h1, _⟩ := DataW.trod_bool ht h
  exact ⟨n, h1⟩
theorem Trods.string {t : TypeId} (ht : P.underlying t = some .string) {cs : List Value} (h : Trods enc P W t cs) : ∃ n, cs = [.string n] := by
  obtain ⟨fuel, x, h⟩ := h
  obtain ⟨n, h1, _⟩ := DataW.trod_string ht h
  exact ⟨n, h1⟩

theorem cell_spot {w : World} {a : Addr} {v : Value} (h : w.cell? a = some v) : a.spot = none ∧ a.block < w.heap.size := by
  unfold World.cell? at h
  split at h
  · rename_i c t z hb
    split at h
    · cases h
    · rename_i hs
      exact ⟨by simpa using hs, (haveI : Val := ⟨fun _ => .bool false⟩; heap_lt hb)⟩
  · cases h

/-- a slice: nil, without elements, or with some, in memory -/
theorem Trods.slice {t e : TypeId} (ht : P.underlying t = some (.slice e)) (hc : 0 < P.cellsOf e) {cs : List Value} (h : Trods enc P W t cs) :
    cs = [.slice none 0 0] ∨ (∃ a cap, cs = [.slice (some a) 0 cap]) ∨ ∃ a len cap, cs = [.slice (some a) (len + 1) cap] ∧ a.spot = none ∧ a.block < W.heap.size ∧ len + 1 ≤ cap ∧
      ∀ j, j < len + 1 → ∃ es, es.length = P.cellsOf e ∧ Trods enc P W e es ∧ ∀ c, c < P.cellsOf e → W.cell? ⟨a.block, a.off + (j * P.cellsOf e + c), none⟩ = es[c]? := by
  obtain ⟨fuel, x, h⟩ := h
  rcases DataW.trod_slice ht h with ⟨rfl, _⟩ | ⟨a, len, cap, elems, rest, n, rfl, rfl, _, _, hlc, _, hel, hread, _, _⟩
  · exact .inl rfl
  · cases len with
    | zero => exact .inr (.inl ⟨a, cap, rfl⟩)
    | succ len =>
      have hdat : ∀ j, j < len + 1 → ∃ es, es.length = P.cellsOf e ∧ Trods enc P W e es ∧ ∀ c, c < P.cellsOf e → W.cell? ((a.add (j * P.cellsOf e)).add c) = es[c]? := fun j hj => by
        have hr := hread j hj
        have hlt : j < elems.length := by omega
        rw [List.getElem?_eq_getElem hlt] at hr
        obtain ⟨es, h1, h2⟩ := Option.bind_eq_some_iff.1 hr
        obtain ⟨_, h5, h4⟩ := World.cells?_some h1
        exact ⟨es, h5, ⟨_, _, h2⟩, h4⟩
      have hs : a.spot = none ∧ a.block < W.heap.size := by
        obtain ⟨es, h1, _, h3⟩ := hdat 0 (by omega)
        have h4 := h3 0 hc
        rw [List.getElem?_eq_getElem (by omega)] at h4
        have h5 := cell_spot h4
        unfold Addr.add at h5
        by_cases hk : 0 * P.cellsOf e = 0
        · simpa [hk] using h5
        · exact absurd (Nat.zero_mul _) hk
      refine .inr (.inr ⟨a, len, cap, rfl, hs.1, hs.2, hlc, fun j hj => ?_⟩)
      obtain ⟨es, h1, h2, h3⟩ := hdat j hj
      refine ⟨es, h1, h2, fun c hcs => ?_⟩
      haveI : Val := ⟨fun _ => .bool false⟩
      rw [← h3 c hcs, addr_add _ hs.1, addr_add _ rfl]
      show W.cell? ⟨a.block, a.off + (j * P.cellsOf e + c), none⟩ = W.cell? ⟨a.block, a.off + j * P.cellsOf e + c, none⟩
      rw [Nat.add_assoc]

theorem plain_cells : ∀ {d : Nat} {t : TypeId} {cs : List Value}, plainB P d t = true → Trods enc P W t cs → ∀ (i : Nat) (v : Value), cs[i]? = some v → v.oneCell' = true := by
  intro d
  induction d with
  | zero => intro t cs h; cases h
  | succ d ih =>
    intro t cs hp h i v hv
    unfold plainB at hp
    split at hp
    · rename_i k ht
      obtain ⟨n, rfl⟩ := h.int ht
      cases i with
      | zero => simp at hv; subst hv; rfl
      | succ i => simp at hv
    · rename_i ht
      obtain ⟨n, rfl⟩ := h.bool ht
      cases i with
      | zero => simp at hv; subst hv; rfl
      | succ i => simp at hv
    · rename_i ht
      obtain ⟨n, rfl⟩ := h.string ht
      cases i with
      | zero => simp at hv; subst hv; rfl
      | succ i => simp at hv
    · rename_i e ht
      obtain ⟨fuel, x, h⟩ := h
      rcases DataW.trod_slice ht h with ⟨rfl, _⟩ | ⟨a, len, cap, elems, rest, n, rfl, rfl, _⟩ <;>
      · cases i with
        | zero => simp at hv; subst hv; rfl
        | succ i => simp at hv
    · rename_i fs ht
      rw [Bool.and_eq_true, List.all_eq_true, List.all_eq_true] at hp
      have hlen := h.len ht
      have hi : i < P.cellsOf t := by rw [← hlen]; exact (List.getElem?_eq_some_iff.1 hv).1
      have := hp.2 i (List.mem_range.2 hi)
      rw [List.any_eq_true] at this
      obtain ⟨f, hf, hr⟩ := this
      rw [Bool.and_eq_true] at hr
      obtain ⟨k, hk⟩ := List.getElem?_of_mem hf
      have hk' : fs[k]? = some f := by simpa using hk
      exact ih (hp.1 f hf) (h.part ht hk') (i - f.offset) v (part_get hv (Nat.le_of_ble_eq_true hr.1) (Nat.le_of_ble_eq_true hr.2))
    · cases hp

theorem trods_of {t : TypeId} {v : Value} {d : DataW H} {ps : List MemPlace} (h : DataW.Trod enc P W 0 (fun _ => true) true t v d ps) : Trods enc P W t v.cells.toList := by
  obtain ⟨fuel, h⟩ := h
  exact ⟨fuel, _, h⟩

/-- an argument of which nothing is told: a struct -/
theorem rep_opqs [Val] {X : Nat → Prop} {φ : Loc} {t : TypeId} {cs : Array Value} {d k : Nat} (hp : plainB P d t = true) (h : Trods enc P W t cs.toList) (hk : cs.toList.length = k) : Rep W X φ (.agg (List.replicate k .opq)) (.agg cs) := by
  refine .agg _ cs.toList (by simp [← hk]) fun i c v h1 h2 => ?_
  rw [List.getElem?_replicate] at h1
  split at h1
  · injection h1 with h1; subst h1; exact .opq _ (plain_cells hp h i v h2)
  · cases h1

/-- a call with one argument -/
theorem start_one [Val] {f : Nat} {w : World} {v : Value} {c : V} {nx : Nat} {prim : Prims} {G : Nat → Nat → Value → Prop} (hp : PrimOk P G prim) (hr : startN P prim 5000 f [c] nx isTrue = true) (hG : GAt G w) (h : Rep w (fun _ => False) (Gone nx) c v) : Calls P f #[v] w fun e w' => e = .returned (.bool true) ∧ Below w.heap.size w w' :=
  start_true hp hr w hG [v] rfl fun i c' u g1 g2 => by
    match i, g1, g2 with
    | 0, g1, g2 => have g1 := Option.some.inj g1; have g2 := Option.some.inj g2; subst g1; subst g2; exact h
    | _ + 1, g1, g2 => simp at g1

end
end Go.VM
end

section
/- The machine VM, part 21: a function of a law's own argument, told by its contract. -/
set_option linter.unusedVariables false
set_option linter.unusedSectionVars false
set_option linter.unusedSimpArgs false
namespace Go.VM
open Go.RowKit
variable [Val]

def conUp : Nat → List V → Bool
  | _, [] => true
  | i, .con j :: r => match Nat.beq i j with | true => conUp (Nat.succ i) r | false => false
  | _, _ => false

/-- the function k, of a struct of n cells, whose cells are the values numbered 0, 1, .. -/
def conPrim (k n : Nat) (b : Bool) (rest : Prims) : Prims := fun g h args => match Nat.beq k g with
  | true => match args with
    | [.agg cs] => match Nat.beq cs.length n && conUp 0 cs with | true => some (.raw (.bool b)) | false => none
    | _ => none
  | false => rest g h args

section
variable {P : Program} {G : Nat → Nat → Value → Prop} {w : World} {X : Nat → Prop} {φ : Loc}

theorem conUp_spec : ∀ {l : List V} {i : Nat}, conUp i l = true → ∀ (j : Nat) (d : V), l[j]? = some d → d = .con (i + j)
  | [], i, _, j, d, h => by cases h
  | c :: r, i, hq, j, d, h => by
    cases c with
    | con k =>
      simp only [conUp] at hq
      split at hq
      · rename_i hk
        have hk := Nat.eq_of_beq_eq_true hk
        cases j with
        | zero => simp at h; subst h; rw [hk]; rfl
        | succ j =>
          have := conUp_spec hq j d (by simpa using h)
          rw [this, show Nat.succ i + j = i + (j + 1) from by omega]
      · cases hq
    | _ => cases hq

theorem conPrim_ok {k n : Nat} {b : Bool} {rest : Prims} (hr : PrimOk P G rest) (hf : ∃ fn, P.funcs[k]? = some fn ∧ (fn.name == "runtime.NumGoroutine") = false ∧ fn.body.isNone = false) {cs : Array Value} (hn : cs.size = n) (hρ : ∀ i, i < n → cs[i]? = some (Val.ρ i))
    (hc : ∀ w, GAt G w → Calls P k #[.agg cs] w fun e w' => e = .returned (.bool b) ∧ Below w.heap.size w w') : PrimOk P G (conPrim k n b rest) := by
  intro g h args v hv
  unfold conPrim at hv
  split at hv
  · rename_i h1
    have h1 := Nat.eq_of_beq_eq_true h1
    subst h1
    refine ⟨hf, fun B fr φ w vals H hlen hargs => ?_⟩
    split at hv
    · rename_i ds
      split at hv
      · rename_i hq
        injection hv with hv
        subst hv
        rw [Bool.and_eq_true] at hq
        have hl := Nat.eq_of_beq_eq_true hq.1
        match vals, hlen with
        | [u], _ =>
          obtain ⟨vs, rfl, hlv, hvs⟩ := rep_agg (hargs 0 _ _ rfl rfl)
          have e : vs.toArray = cs := by
            apply Array.ext
            · simp; omega
            · intro i h1 h2
              have hi : i < vs.length := by simpa using h1
              have hd : ds[i]? = some ds[i] := List.getElem?_eq_getElem (by omega)
              have hcon := conUp_spec hq.2 i _ hd
              have hrep := hvs i _ vs[i] hd (by simp [hi])
              rw [hcon, Nat.zero_add] at hrep
              have hv : vs[i] = Val.ρ i := by cases hrep; assumption
              have := hρ i (by omega)
              rw [Array.getElem?_eq_getElem h2] at this
              injection this with this
              rw [this]
              simpa using hv
          rw [show ([Value.agg vs.toArray] : List Value).toArray = #[.agg cs] from by rw [e]]
          refine (hc w fun b o v hb => ⟨(H.gl b o v hb).1.1, (H.gl b o v hb).2⟩).mono ?_
          rintro e w' ⟨rfl, hB⟩
          exact ⟨_, rfl, hB, mk_b⟩
      · cases hv
    · cases hv
  · exact hr g h args v hv

theorem rep_cons {cs : List Value} (h1 : ∀ (i : Nat) (v : Value), cs[i]? = some v → v.oneCell' = true) (hρ : ∀ i, i < cs.length → cs[i]? = some (Val.ρ i)) : Rep w X φ (.agg ((List.range cs.length).map .con)) (.agg cs.toArray) := by
  refine .agg _ cs (by simp) fun i c v g1 g2 => ?_
  rw [List.getElem?_map] at g1
  obtain ⟨j, hj, rfl⟩ := Option.map_eq_some_iff.1 g1
  have hi : i < cs.length := (List.getElem?_eq_some_iff.1 g2).1
  rw [List.getElem?_range hi] at hj
  injection hj with hj
  subst hj
  have := hρ i hi
  rw [g2] at this
  injection this with this
  exact .con i v this (h1 i v g2)

end
end Go.VM
end

section
/- nobody's net: the run -/
set_option maxRecDepth 100000
set_option linter.unusedSectionVars false
namespace Go.Proofs.YtncbmbbdhekljaaGreat
open Go.VM
variable [Val]
theorem run3 : startN Tryz.prog (prims 239 240 mAw_ms) 5000 3 [.opq] 0 isTrue = true := by kernel_rfl
end Go.Proofs.YtncbmbbdhekljaaGreat
end

section
/- fathomlaw36.QueryNobody returns true for every input. -/
set_option maxRecDepth 100000
namespace Go.Proofs.YtncbmbbdhekljaaGreat
open Go.ChangeShapes Go.WideShapes Go.ChangeAt Go.RowKit
theorem own3 : ownKnob Tryz.prog.godebug = none := by kernel_rfl
theorem laid3 : laidOutB Tryz.prog = true := by kernel_rfl
set_option maxRecDepth 100000 in
theorem lifted3 (os : Os) (started : os.Started) (H : Type) (enc : TypeId × Value → H) :
    ReturnsInHanded {} Tryz.checked os 3 .any (Rows.queryNobodySpec.pre6 enc Tryz.prog Tryz.f3 Rows.queryNobodyRow.domain false) (Rows.queryNobodySpec.post enc Tryz.prog Tryz.f3 false true false false) := by
  refine returnsInHanded_of_change_shaped (C := Tryz.checked) own3 started (by kernel_rfl) Tryz.func3
    (ChangeSpec.witness6 (enc := enc) (C := Tryz.checked) false ⟨#[], #[.int .i64 0], []⟩ 8 (by kernel_rfl) (by kernel_rfl) (by kernel_rfl) (by kernel_rfl)) ?_
  intro W base args ds gs before hval0 hW hcnd _ hsh _
  have hval : ∀ (j : Nat) t v, Tryz.f3.params[j]? = some t → args[j]? = some v → Value.okWide Tryz.prog W .any base t v := hval0
  have hW' := hW
  obtain ⟨p, q, hA0, hV, hbe, hfz, hnd⟩ := hW
  have hA : DataW.TrodAll enc Tryz.prog W 0 (fun _ => true) true Tryz.f3.params.toList args.toList ds p := hA0
  rw [Tryz.params3] at hA hval
  obtain ⟨v0, vs0, e0, es0, p0, q0, hargs, rfl, rfl, h0, r0⟩ := trodAll_cons hA
  obtain ⟨rfl, rfl, rfl⟩ := trodAll_nil r0
  obtain rfl : args = #[v0] := by cases args; simp_all
  obtain ⟨m, hG⟩ := Tryz.maxLen W hsh
  have h0T := h0
  have h0 := Go.VM.trods_of h0
  have hv0 := hval 0 _ v0 rfl rfl
  have key : Calls Tryz.prog 3 #[v0] W fun e W' => e = .returned (.bool true) ∧ Below W.heap.size W W' := by
    obtain ⟨x, rfl⟩ := okWide_int Tryz.underlying3 hv0
    letI : Go.VM.Val := ⟨fun _ => .bool false⟩
    exact Go.VM.start_one (Go.VM.prims_ok Tryz.strFns (G := Go.VM.GAll W) hG (mAw_mk hG)) run3 (Go.VM.gall W) (.opq _ rfl)
  refine key.mono fun e W' ⟨he, hB⟩ => ?_
  subst he
  exact ⟨_, rfl, Go.VM.law_post laid3 (by intro t ht; rw [Tryz.params3] at ht; simp at ht; subst ht; exact ⟨by kernel_rfl, of_decide_eq_true (by kernel_rfl)⟩) rfl rfl (by kernel_rfl) hW' rfl hB⟩
theorem queryNobody_holds : Rows.QueryNobodySaid :=
  OpenClaim.holds_of_wide 3 Tryz.f3 rfl rfl rfl rfl rfl rfl rfl ⟨rfl, rfl, rfl, rfl, rfl⟩ rfl rfl rfl rfl rfl (by kernel_rfl) Tryz.func3 (by kernel_rfl)
    (of_decide_eq_true (by kernel_rfl)) (by unfold Func.isWrapper; first | (rw [if_pos (by decide +kernel)]; kernel_rfl) | (rw [if_neg (by decide +kernel)]; exact ⟨rfl, rfl⟩))
    (fun os started H enc _ => lifted3 os started H enc)
end Go.Proofs.YtncbmbbdhekljaaGreat
end
