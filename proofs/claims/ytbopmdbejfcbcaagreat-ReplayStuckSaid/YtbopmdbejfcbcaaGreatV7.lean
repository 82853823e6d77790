/- The machine VM, part 7: the rest of the quiet operations; all of them together. -/
import Derived.Test.YtbopmdbejfcbcaaGreatV6
set_option linter.unusedVariables false
set_option linter.unusedSectionVars false
set_option linter.unusedSimpArgs false
set_option linter.constructorNameAsVariable false
namespace Go.VM
open Go.RowKit
variable [Val]

section
variable {P : Program} {ty : TypeId} {N : Nat} {B : Nat → Prop} {G : Nat → Nat → Value → Prop} {fr : Nat → Prop} {φ : Loc} {a : Act} {w : World} {e : T V} {h : Heap} {nx : Nat} {pr : List Nat}

section ops
variable {o : Oper} {nm : Nat} {r : Option (Option Nat)} {v : V} {new : Option Blk}

theorem q_fad {t : TypeId} {x : Operand} {i : Nat} (ho : o.op = .fieldAddr t x i) {fs : Array Field} (ht : P.underlying t = some (.struct fs)) {f : Field} (hf : fs[i]? = some f) {k : Nat} (hk : tSize P f.type = some (k + 1))
    (hy : yFad f.offset (VM.opd e (tOpd x)) = some (v, new)) (R : RelAt N B G fr φ ⟨e, h, nx, pr⟩ a w) : Comes P B φ a w o nm r v new := by
  have hrun : ∀ ad, ad.spot = none → a.eval x = .pointer (some ad) → ∀ w, (execOp a.eval o).run P w = .ok (.value (.pointer (some ⟨ad.block, ad.off + f.offset, none⟩))) w := fun ad hs h w => by
    simp [execOp, ho, h, fieldAt_run ht hf hk ad hs]
  unfold yFad at hy
  split at hy <;> first | (cases hy; done) | skip
  · rename_i m g hx
    split at hy
    · rename_i hm
      injection hy with hy; injection hy with h1 h2
      subst h1; subst h2
      obtain ⟨ad, g', hv, hs, hxx, hlt, hr, hg, hn⟩ := rep_fpt (R.opd hx)
      have hm : f.offset < m := Nat.le_of_ble_eq_true hm
      refine stay (hrun ad hs hv) (.fpt _ _ ⟨ad.block, ad.off + f.offset, none⟩ (fun c => g' (c + f.offset)) rfl hxx hlt (fun c hc => ?_) (fun c hc => hg (c + f.offset) (by omega)) fun c hc => hn (c + f.offset) (by omega))
      rw [← hr (c + f.offset) (by omega), show ad.off + f.offset + c = ad.off + (c + f.offset) from by omega]
    · cases hy
  · rename_i y off hx
    injection hy with hy; injection hy with h1 h2
    subst h1; subst h2
    obtain ⟨ad, hv, hs, hd, had⟩ := rep_ptr (R.opd hx)
    exact stay (hrun _ hs hv) (.ptr _ _ _ rfl hd fun b hb => by rw [had b hb])

theorem part_run {t : TypeId} {agg : Bool} {k : Nat} (hg : tAgg P t = some agg) (hk : tSize P t = some k) {X : Nat → Prop} {cs : List V} {vs : List Value} (hl : cs.length = vs.length) (h : ∀ (i : Nat) (c : V) (v : Value), cs[i]? = some c → vs[i]? = some v → Rep w X φ c v) {off : Nat} (ho : off + k ≤ cs.length) {c : V}
    (hc : ofCells agg (cut cs off k) = some c) : ∃ v, (∀ w', (part t vs.toArray off).run P w' = .ok v w') ∧ Rep w X φ c v := by
  unfold part
  simp only [Sem.run_bind, tAgg_run hg, Result.andThen_ok]
  have hcl := cut_len ho
  unfold ofCells at hc
  split at hc
  · injection hc with hc
    subst hc
    refine ⟨.agg (vs.toArray.extract off (off + k)), fun w' => by simp [tSize_run hk], ?_⟩
    have e : vs.toArray.extract off (off + k) = ((vs.drop off).take k).toArray := by
      apply Array.ext'
      simp [List.extract_eq_take_drop]
    rw [e]
    refine .agg _ _ (by rw [hcl]; simp; omega) fun i c v h1 h2 => ?_
    obtain ⟨h3, h4⟩ := cut_get h1
    have : ((vs.drop off).take k)[i]? = vs[off + i]? := by
      rw [List.getElem?_take]
      simp [h3]
    rw [this] at h2
    exact h _ _ _ h4 h2
  · rename_i d hd
    injection hc with hc
    subst hc
    have hlen : off < vs.length := by
      have : (cut cs off k)[0]? = some d := by rw [hd]; rfl
      obtain ⟨h3, h4⟩ := cut_get this
      omega
    have : cs[off + 0]? = some d := (cut_get (i := 0) (by rw [hd]; rfl)).2
    refine ⟨vs[off], fun w' => by simp [hlen], h off d _ (by simpa using this) (by simp [hlen])⟩
  · cases hc

theorem q_fld {t : TypeId} {x : Operand} {i : Nat} (ho : o.op = .field t x i) {fs : Array Field} (ht : P.underlying t = some (.struct fs)) {f : Field} (hf : fs[i]? = some f) {agg : Bool} {k : Nat} (hg : tAgg P f.type = some agg) (hk : tSize P f.type = some k)
    (hy : yFld agg f.offset k (VM.opd e (tOpd x)) = some (v, new)) (R : RelAt N B G fr φ ⟨e, h, nx, pr⟩ a w) : Comes P B φ a w o nm r v new := by
  unfold yFld at hy
  split at hy
  · rename_i cs hx
    split at hy
    · rename_i hle
      obtain ⟨hc, rfl⟩ := ret_some hy
      obtain ⟨vs, hv, hl, hh⟩ := rep_agg (R.opd hx)
      obtain ⟨u, hr, hrep⟩ := part_run (P := P) hg hk hl hh (Nat.le_of_ble_eq_true hle) hc
      exact stay (u := u) (fun w' => by simp [execOp, ho, hv, Instr.field, run_underlying ht, hf, asAgg, hr w']) hrep
    · cases hy
  · cases hy

theorem indexAt_run {t el : TypeId} (ht : P.underlying t = some (.slice el)) {k : Nat} (hk : tSize P el = some k) (ad : Addr) (hs : ad.spot = none) (n cap i : Nat) (h1 : i < n) (w : World) :
    (Instr.indexAt t (.slice (some ad) n cap) (.int .i64 (i : Int))).run P w = .ok (.pointer (some ⟨ad.block, ad.off + i * k, none⟩)) w := by
  unfold Instr.indexAt
  simp only [Sem.run_bind, asIntOf, Sem.run_pure, run_underlying ht, Result.andThen_ok, tSize_run hk]
  simp [h1, tSize_run hk, addr_add _ hs]

theorem q_idx {t el : TypeId} {x i : Operand} (ho : o.op = .indexAddr t x i) (ht : P.underlying t = some (.slice el)) {k : Nat} (hk : tSize P el = some k)
    (hy : yIdx k (VM.opd e (tOpd x)) (VM.opd e (tOpd i)) = some (v, new)) (R : RelAt N B G fr φ ⟨e, h, nx, pr⟩ a w) : Comes P B φ a w o nm r v new := by
  have hrun : ∀ (ad : Addr) (n cap j : Nat), ad.spot = none → a.eval x = .slice (some ad) n cap → a.eval i = .int .i64 (j : Int) → j < n → ∀ w, (execOp a.eval o).run P w = .ok (.value (.pointer (some ⟨ad.block, ad.off + j * k, none⟩))) w := fun ad n cap j hs h h' h1 w => by
    simp [execOp, ho, h, h', indexAt_run ht hk ad hs n cap j h1]
  unfold yIdx at hy
  split at hy <;> first | (cases hy; done) | skip
  · rename_i y sz' off n cap j hx hi
    split at hy
    · rename_i hc
      injection hy with hy; injection hy with h1 h2
      subst h1; subst h2
      simp only [Bool.and_eq_true] at hc
      have hsz : k = sz' := Nat.eq_of_beq_eq_true hc.1
      subst hsz
      have hj : j < n := Nat.le_of_ble_eq_true hc.2
      obtain ⟨ad, c, hv, hs, hd, had⟩ := rep_sl (R.opd hx)
      refine stay (hrun ad n c j hs hv (rep_i (R.opd hi)) hj) (.ptr _ _ _ rfl hd fun b hb => ?_)
      obtain ⟨h1, h2, _⟩ := had b hb
      rw [h1 (by omega)]
    · cases hy
  · rename_i sz' n g j hx hi
    split at hy
    · rename_i hc
      injection hy with hy; injection hy with h1 h2
      subst h1; subst h2
      simp only [Bool.and_eq_true] at hc
      have hsz : k = sz' := Nat.eq_of_beq_eq_true hc.1
      subst hsz
      have hj : j < n := Nat.le_of_ble_eq_true hc.2
      have hv := rep_i (R.opd hi)
      have hF := R.opd hx
      cases hF' : a.eval x with
      | slice ad len cap =>
        rw [hF'] at hF
        cases hF with
        | fro _ _ _ ad cap val hs hxx hlt hc hr h1 hf hn =>
          refine stay (hrun ad n cap j hs hF' hv hj) (.fpt _ _ ⟨ad.block, ad.off + j * k, none⟩ (val j) rfl hxx hlt (fun c hc => ?_) (fun c hc => hf j c hj hc) fun c hc => hn j c hj hc)
          rw [← hr j c hj hc, Nat.add_assoc]
        | froNil _ _ => exfalso; omega
        | froZero _ _ _ _ => exfalso; omega
      | _ => rw [hF'] at hF; cases hF
    · cases hy

theorem q_six {t : TypeId} {x i : Operand} (ho : o.op = .index t x i) (ht : P.underlying t = some .string) (hy : ySix (VM.opd e (tOpd x)) (VM.opd e (tOpd i)) = some (v, new)) (R : RelAt N B G fr φ ⟨e, h, nx, pr⟩ a w) : Comes P B φ a w o nm r v new := by
  unfold ySix at hy
  split at hy
  · rename_i t' j hx hi
    unfold u8 at hy
    split at hy
    · rename_i b hb
      injection hy with hy; injection hy with h1 h2
      subst h1; subst h2
      have hv : a.eval i = .int .i64 (j : Int) := rep_i (R.opd hi)
      obtain ⟨str, hx', hs⟩ := rep_str (R.opd hx)
      rw [← hs] at hb
      simp only [List.getElem?_map] at hb
      obtain ⟨c, hc, rfl⟩ := Option.map_eq_some_iff.1 hb
      have hlt : j < str.size := by
        have := (List.getElem?_eq_some_iff.1 hc).1
        simpa using this
      have hget : str[j]? = some c := by
        rw [getElem?_pos str j hlt]
        have : str.data[j]? = some c := by simpa using hc
        have h2 : j < str.data.size := hlt
        rw [getElem?_pos str.data j h2] at this
        exact this
      exact stay (u := .int .u8 (c.toNat : Int)) (fun w' => by simp [execOp, ho, hx', hv, Instr.index, asIntOf, run_underlying ht, hget]) mk_i
    · cases hy
  · cases hy

theorem q_ext {x : Operand} {i : Nat} (ho : o.op = .extract x i) (hy : yExt i (VM.opd e (tOpd x)) = some (v, new)) (R : RelAt N B G fr φ ⟨e, h, nx, pr⟩ a w) : Comes P B φ a w o nm r v new := by
  unfold yExt at hy
  split at hy
  · rename_i cs hx
    obtain ⟨hd, rfl⟩ := ret_some hy
    obtain ⟨vs, hv, hl, hh⟩ := rep_tup (R.opd hx)
    have hlt : i < vs.length := by rw [← hl]; exact (List.getElem?_eq_some_iff.1 hd).1
    exact stay (u := vs[i]) (fun w' => by simp [execOp, ho, hv, Instr.extract, hlt]) (hh i _ _ hd (by simp [hlt]))
  · cases hy

end ops
end
end Go.VM
