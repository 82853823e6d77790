/- Part 2 of the proof. fathomlaw28.StepRuns returns true for every input. -/
import Derived.Test.YtfbipcdllbdijaaGreatQR1
set_option linter.unusedVariables false
set_option linter.unusedSimpArgs false
set_option linter.unusedSectionVars false
set_option linter.constructorNameAsVariable false
namespace Go.TM
open Go.RowKit
theorem bytesI_extract (s : ByteArray) (l h : Nat) : bytesI (s.extract l h) = cutL (bytesI s) l h := by
  unfold bytesI cutL
  have : (s.extract l h).data = s.data.extract l h := by simp
  rw [this]
  simp [List.extract_eq_take_drop, List.drop_take]
section
variable {P : Program} {ty : TypeId} {N : Nat} {B : Nat → Prop} {G : Nat → Nat → Value → Prop} {fr : Nat → Prop} {φ : Loc} {a : Act} {w : World} {e : T V} {h : Heap} {nx : Nat} {pr ks : Nat → Bool}
section ops
variable {o : Oper} {nm : Nat} {r : Option (List Nat)} {v : V} {new : Option Blk}
theorem q_tslc {t : TypeId} {x : Operand} {lo hi : Option Operand} (ho : o.op = .slice t x lo hi none) (ht : P.underlying t = some .string)
    (hy : yTslc (bound e (tOpt lo)) (bound e (tOpt hi)) (TM.opd e (tOpd x)) = some (true, v, new)) (H : RelAt N B G fr φ ⟨e, h, nx, pr, ks⟩ a w) : Comes P B φ a w o nm r v new := by
  unfold yTslc at hy
  split at hy
  · rename_i lv hv s hlo hhi hx
    unfold yTslc2 at hy
    split at hy
    · rename_i p l m hb
      simp only [Option.some.injEq, Prod.mk.injEq] at hy
      obtain ⟨rfl, rfl, rfl⟩ := hy
      obtain ⟨t', hv', hs⟩ := rep_str (H.opd hx)
      have hlen : s.length = t'.size := by rw [← hs, bytesI_len]
      rw [hlen] at hb
      obtain ⟨h1, h2, h3⟩ := bounds_run (P := P) hlo hhi H hb (Nat.le_refl _) false
      exact stay (u := .string (t'.extract l m)) (fun w' => by simp [execOp, ho, hv', Instr.sliceAt, Instr.slice, run_underlying ht, h1 w']) (.str _ _ (by rw [bytesI_extract, hs]))
    · cases hy
  · cases hy
theorem fieldAt_run {t : TypeId} {fs : Array Field} (ht : P.underlying t = some (.struct fs)) {i : Nat} {f : Field} (hf : fs[i]? = some f) {k : Nat} (hk : tSize P f.type = some (k + 1)) (ad : Addr) (hs : ad.spot = none) (w : World) :
    (Instr.fieldAt t (.pointer (some ad)) i).run P w = .ok (.pointer (some ⟨ad.block, ad.off + f.offset, none⟩)) w := by
  unfold Instr.fieldAt
  simp only [Sem.run_bind, run_underlying ht, Result.andThen_ok, hf, sureAddr_run, fieldPlace, tSize_run hk]
  simp [addr_add _ hs]
theorem fz_drop {X : Nat → Prop} {b off : Nat} {us : List Value} (h : Fz w X b off us) (k : Nat) : Fz w X b (off + k) (us.drop k) :=
  ⟨h.out, h.lt, fun c u hu => by rw [List.getElem?_drop] at hu; rw [Nat.add_assoc]; exact h.cell _ u hu⟩
theorem q_fad {t : TypeId} {x : Operand} {i : Nat} (ho : o.op = .fieldAddr t x i) {fs : Array Field} (ht : P.underlying t = some (.struct fs)) {f : Field} (hf : fs[i]? = some f) {k : Nat} (hk : tSize P f.type = some (k + 1))
    (hy : yFad f.offset (TM.opd e (tOpd x)) = some (true, v, new)) (H : RelAt N B G fr φ ⟨e, h, nx, pr, ks⟩ a w) : Comes P B φ a w o nm r v new := by
  have hrun : ∀ ad, ad.spot = none → a.eval x = .pointer (some ad) → ∀ w, (execOp a.eval o).run P w = .ok (.value (.pointer (some ⟨ad.block, ad.off + f.offset, none⟩))) w := fun ad hs h w => by
    simp [execOp, ho, h, fieldAt_run ht hf hk ad hs]
  have frozen : ∀ {ad : Addr} {us : List Value} {cs : List V}, a.eval x = .pointer (some ad) → ad.spot = none → Fz w (Excl B φ) ad.block ad.off us → LW w (Excl B φ) φ cs us → Comes P B φ a w o nm r (.fpt (cs.drop f.offset)) none := fun {ad us cs} hv hs hz hl => by
    have hl' := hl.drop f.offset
    exact stay (hrun ad hs hv) (.fpt _ ⟨ad.block, ad.off + f.offset, none⟩ (us.drop f.offset) rfl hl'.1 (fz_drop hz _) (fun i c v g1 g2 => (hl'.2 i c v g1 g2).1) hl'.one)
  unfold yFad at hy
  split at hy <;> first | (cases hy; done) | skip
  · rename_i cs hx
    split at hy
    · simp only [Option.some.injEq, Prod.mk.injEq, true_and] at hy
      obtain ⟨rfl, rfl⟩ := hy
      obtain ⟨ad, us, hv, hs, hlen, hz, hr, h1⟩ := rep_fpt (H.opd hx)
      exact frozen hv hs hz ⟨hlen, fun i c v g1 g2 => ⟨hr i c v g1 g2, h1 v (List.mem_of_getElem? g2)⟩⟩
    · cases hy
  · rename_i el oo hx
    split at hy
    · simp only [Option.some.injEq, Prod.mk.injEq] at hy
      obtain ⟨hso, rfl, rfl⟩ := hy
      have hr := rep_tp (H.opd hx)
      cases oo with
      | none => cases hso
      | some y =>
        obtain ⟨ad, us, hv, hs, hz, hrt⟩ := hr
        injection hv with hv
        exact frozen hv hs hz (RT.cells hrt)
    · cases hy
  · rename_i y off hx
    simp only [Option.some.injEq, Prod.mk.injEq, true_and] at hy
    obtain ⟨rfl, rfl⟩ := hy
    obtain ⟨⟨ad, hv, hs⟩, hd, had⟩ := rep_ptr (H.opd hx)
    exact stay (hrun _ hs hv) (.ptr _ _ _ ⟨_, rfl, rfl⟩ hd fun b hb => by rw [had b hb] at hv; injection hv with hv; injection hv with hv; subst hv; rfl)
  · rename_i rr sz j c hx
    simp only [Option.some.injEq, Prod.mk.injEq, true_and] at hy
    obtain ⟨rfl, rfl⟩ := hy
    obtain ⟨⟨ad, hv, hs⟩, hd, hok, hel⟩ := rep_elt (H.opd hx)
    refine stay (hrun _ hs hv) (.elt _ _ _ _ _ ⟨_, rfl, rfl⟩ hd hok fun u hu => ?_)
    obtain ⟨ad', m, cap, h1, h2, h3, h4⟩ := hel u hu
    refine ⟨ad', m, cap, h1, h2, h3, ?_⟩
    rw [hv] at h4
    injection h4 with h4; injection h4 with h4
    subst h4
    dsimp only
    rw [Nat.add_assoc]
theorem part_run {t : TypeId} {agg : Bool} {k : Nat} (hg : tAgg P t = some agg) (hk : tSize P t = some k) {X : Nat → Prop} {cs : List V} {vs : List Value} (hl : cs.length = vs.length) (h : ∀ (i : Nat) (c : V) (v : Value), cs[i]? = some c → vs[i]? = some v → Rep w X φ c v) {off : Nat} (ho : off + k ≤ cs.length) {c : V}
    (hc : ofCells agg (cut cs off k) = some c) : ∃ v, (∀ w', (part t vs.toArray off).run P w' = .ok v w') ∧ Rep w X φ c v := by
  unfold part
  simp only [Sem.run_bind, tAgg_run hg, Result.andThen_ok]
  have hcl := cut_len ho
  unfold ofCells at hc
  split at hc
  · injection hc with hc
    subst hc
    refine ⟨.agg (vs.toArray.extract off (off + k)), fun w' => by simp [tSize_run hk], ?_⟩
    have e : vs.toArray.extract off (off + k) = ((vs.drop off).take k).toArray := by
      apply Array.ext'
      simp [List.extract_eq_take_drop]
    rw [e]
    refine .agg _ _ (by rw [hcl]; simp; omega) fun i c v h1 h2 => ?_
    obtain ⟨h3, h4⟩ := cut_get h1
    have : ((vs.drop off).take k)[i]? = vs[off + i]? := by
      rw [List.getElem?_take]
      simp [h3]
    rw [this] at h2
    exact h _ _ _ h4 h2
  · rename_i d hd
    injection hc with hc
    subst hc
    have hlen : off < vs.length := by
      have : (cut cs off k)[0]? = some d := by rw [hd]; rfl
      obtain ⟨h3, h4⟩ := cut_get this
      omega
    have : cs[off + 0]? = some d := (cut_get (i := 0) (by rw [hd]; rfl)).2
    refine ⟨vs[off], fun w' => by simp [hlen], h off d _ (by simpa using this) (by simp [hlen])⟩
  · cases hc
theorem q_fld {t : TypeId} {x : Operand} {i : Nat} (ho : o.op = .field t x i) {fs : Array Field} (ht : P.underlying t = some (.struct fs)) {f : Field} (hf : fs[i]? = some f) {agg : Bool} {k : Nat} (hg : tAgg P f.type = some agg) (hk : tSize P f.type = some k)
    (hy : yFld agg f.offset k (TM.opd e (tOpd x)) = some (true, v, new)) (H : RelAt N B G fr φ ⟨e, h, nx, pr, ks⟩ a w) : Comes P B φ a w o nm r v new := by
  unfold yFld at hy
  split at hy
  · rename_i cs hx
    split at hy
    · rename_i hle
      obtain ⟨hc, rfl⟩ := ret_some hy
      obtain ⟨vs, hv, hl, hh⟩ := rep_agg (H.opd hx)
      obtain ⟨u, hr, hrep⟩ := part_run (P := P) hg hk hl hh (Nat.le_of_ble_eq_true hle) hc
      exact stay (u := u) (fun w' => by simp [execOp, ho, hv, Instr.field, run_underlying ht, hf, asAgg, hr w']) hrep
    · cases hy
  · cases hy
theorem indexAt_run {t el : TypeId} (ht : P.underlying t = some (.slice el)) {k : Nat} (hk : tSize P el = some k) (ad : Addr) (hs : ad.spot = none) (n cap i : Nat) (h1 : i < n) (w : World) :
    (Instr.indexAt t (.slice (some ad) n cap) (.int .i64 (i : Int))).run P w = .ok (.pointer (some ⟨ad.block, ad.off + i * k, none⟩)) w := by
  unfold Instr.indexAt
  simp only [Sem.run_bind, asIntOf, Sem.run_pure, run_underlying ht, Result.andThen_ok, tSize_run hk]
  simp [h1, tSize_run hk, addr_add _ hs]
theorem q_idx {t el : TypeId} {x i : Operand} (ho : o.op = .indexAddr t x i) (ht : P.underlying t = some (.slice el)) {k : Nat} (hk : tSize P el = some k)
    (hy : yIdx h k (TM.opd e (tOpd x)) (TM.opd e (tOpd i)) = some (true, v, new)) (H : RelAt N B G fr φ ⟨e, h, nx, pr, ks⟩ a w) : Comes P B φ a w o nm r v new := by
  have hrun : ∀ (ad : Addr) (n cap j : Nat), ad.spot = none → a.eval x = .slice (some ad) n cap → a.eval i = .int .i64 (j : Int) → j < n → ∀ w, (execOp a.eval o).run P w = .ok (.value (.pointer (some ⟨ad.block, ad.off + j * k, none⟩))) w := fun ad n cap j hs h h' h1 w => by
    simp [execOp, ho, h, h', indexAt_run ht hk ad hs n cap j h1]
  unfold yIdx at hy
  split at hy <;> first | (cases hy; done) | skip
  · rename_i el' xs j hx hi
    split at hy
    · rename_i hsz
      simp only [Option.some.injEq, Prod.mk.injEq] at hy
      obtain ⟨hin, rfl, rfl⟩ := hy
      have hsz := beq_true hsz
      obtain ⟨m, rfl, hm, hlt⟩ := inB_true hin
      rw [hm]
      obtain ⟨hd, cap, h1, h2, h3, h4⟩ := rep_ts (H.opd hx)
      injection h1 with h1
      obtain ⟨ad, us, g1, g2, g3, g4⟩ := h4 m _ (getD_lt (d := el'.dft) hlt)
      subst g1
      have hl : LW w (Excl B φ) φ _ us := RT.cells g4
      refine stay (hrun ad _ _ m g2 h1 (rep_i (H.opd hi)) hlt) (.fpt _ ⟨ad.block, ad.off + m * k, none⟩ us rfl hl.1 (by rw [hsz]; exact g3) (fun i c v q1 q2 => (hl.2 i c v q1 q2).1) hl.one)
    · cases hy
  · rename_i rr j hx hi
    unfold yIdxR at hy
    split at hy
    · rename_i p n sz hl hz
      split at hy
      · rename_i hsz
        simp only [Option.some.injEq, Prod.mk.injEq] at hy
        obtain ⟨hp, rfl, rfl⟩ := hy
        obtain ⟨rfl, hin⟩ := andB_true hp
        obtain rfl := beq_true hsz
        obtain ⟨m, rfl, hm, hlt⟩ := inB_true hin
        rw [hm]
        obtain ⟨_, hd0, hok, hvv⟩ := rep_own (H.opd hx)
        obtain ⟨u, hd, cap, hu, h1⟩ := lenR_spec H.toHeapAt hl hok
        obtain ⟨ad, rfl, hs⟩ := h1.spot m hlt
        refine stay (hrun ad n cap m hs ((hvv u hu).trans h1.eq) (rep_i (H.opd hi)) hlt) (.elt _ _ _ _ _ ⟨_, rfl, rfl⟩ hd0 hok fun u' hu' => ?_)
        rw [hu] at hu'; injection hu' with hu'; subst hu'
        exact ⟨ad, n, cap, h1.eq, hs, hlt, rfl⟩
      · cases hy
    · cases hy
  · rename_i rr sz' lo n j hx hi
    unfold yIdxS at hy
    split at hy
    · rename_i p n0 hl
      split at hy
      · rename_i hsz
        simp only [Option.some.injEq, Prod.mk.injEq] at hy
        obtain ⟨hp, rfl, rfl⟩ := hy
        obtain ⟨rfl, hin⟩ := andB_true hp
        obtain rfl := beq_true hsz
        obtain ⟨m, rfl, hm, hlt⟩ := inB_true hin
        rw [hm]
        obtain ⟨_, hd0, hok, hvv⟩ := rep_sub (H.opd hx)
        obtain ⟨u, hd, cap, hu, h1⟩ := lenR_spec H.toHeapAt hl hok
        obtain ⟨hd', m', cap', ad', g1, g2, g3, g4, g5, g6⟩ := hvv u hu
        have heq := h1.eq
        rw [g1] at heq
        injection heq with e1 e2 e3
        subst e1; subst e2; subst e3
        have hle := h1.le
        obtain ⟨ad, rfl, hs⟩ := h1.spot (lo + m) (by omega)
        have hv' : a.eval x = .slice (some ⟨ad.block, ad.off + lo * k, none⟩) n (cap' - lo) := by rw [g3, g5 (by omega) ad rfl hs]
        have hmul : (lo + m) * k = lo * k + m * k := Nat.add_mul _ _ _
        refine stay (hrun _ n _ m rfl hv' (rep_i (H.opd hi)) hlt) (.elt _ _ _ _ _ ⟨_, rfl, rfl⟩ hd0 hok fun u' hu' => ?_)
        rw [hu] at hu'; injection hu' with hu'; subst hu'
        exact ⟨ad, m', cap', g1, hs, by omega, by dsimp only; rw [hmul, Nat.add_assoc, Nat.add_zero]⟩
      · cases hy
    · cases hy
theorem q_pidx {t el : TypeId} {n : Nat} {x i : Operand} (ho : o.op = .indexAddr t x i) (ht : P.underlying t = some (.array n el)) {k : Nat} (hk : tSize P el = some k)
    (hy : yPidx n k (TM.opd e (tOpd x)) (TM.opd e (tOpd i)) = some (true, v, new)) (H : RelAt N B G fr φ ⟨e, h, nx, pr, ks⟩ a w) : Comes P B φ a w o nm r v new := by
  have hrun : ∀ (ad : Addr) (j : Nat), ad.spot = none → a.eval x = .pointer (some ad) → a.eval i = .int .i64 (j : Int) → j < n → ∀ w, (execOp a.eval o).run P w = .ok (.value (.pointer (some ⟨ad.block, ad.off + j * k, none⟩))) w := fun ad j hs h h' h1 w => by
    simp [execOp, ho, h, h', Instr.indexAt, asIntOf, run_underlying ht, Instr.sureAddr, h1, tSize_run hk, addr_add _ hs]
  unfold yPidx at hy
  split at hy <;> first | (cases hy; done) | skip
  · rename_i cs j hx hi
    split at hy
    · rename_i hm
      simp only [Option.some.injEq, Prod.mk.injEq, true_and] at hy
      obtain ⟨rfl, rfl⟩ := hy
      rw [Bool.and_eq_true] at hm
      obtain ⟨ad, us, hv, hs, hlen, hz, hr, h1⟩ := rep_fpt (H.opd hx)
      have hl : LW w (Excl B φ) φ cs us := ⟨hlen, fun i c v g1 g2 => ⟨hr i c v g1 g2, h1 v (List.mem_of_getElem? g2)⟩⟩
      have hl' := hl.drop (j * k)
      exact stay (hrun ad j hs hv (rep_i (H.opd hi)) (blt_true hm.1)) (.fpt _ ⟨ad.block, ad.off + j * k, none⟩ _ rfl hl'.1 (fz_drop hz _) (fun i c v g1 g2 => (hl'.2 i c v g1 g2).1) hl'.one)
    · cases hy
  · rename_i y off j hx hi
    split at hy
    · rename_i hm
      simp only [Option.some.injEq, Prod.mk.injEq, true_and] at hy
      obtain ⟨rfl, rfl⟩ := hy
      obtain ⟨⟨ad, hv, hs⟩, hd, had⟩ := rep_ptr (H.opd hx)
      exact stay (hrun _ j hs hv (rep_i (H.opd hi)) (blt_true hm)) (.ptr _ _ _ ⟨_, rfl, rfl⟩ hd fun b hb => by rw [had b hb] at hv; injection hv with hv; injection hv with hv; subst hv; rfl)
    · cases hy
theorem q_aix {t el : TypeId} {n : Nat} {x i : Operand} (ho : o.op = .index t x i) (ht : P.underlying t = some (.array n el)) {agg : Bool} {k : Nat} (hg : tAgg P el = some agg) (hk : tSize P el = some k)
    (hy : yAix agg n k (TM.opd e (tOpd x)) (TM.opd e (tOpd i)) = some (true, v, new)) (H : RelAt N B G fr φ ⟨e, h, nx, pr, ks⟩ a w) : Comes P B φ a w o nm r v new := by
  unfold yAix at hy
  split at hy
  · rename_i cs j hx hi
    split at hy
    · rename_i hle
      rw [Bool.and_eq_true] at hle
      have hj : j < n := Nat.le_of_ble_eq_true hle.1
      obtain ⟨hc, rfl⟩ := ret_some hy
      obtain ⟨vs, hv, hl, hh⟩ := rep_agg (H.opd hx)
      have hvi : a.eval i = .int .i64 (j : Int) := rep_i (H.opd hi)
      obtain ⟨u, hr, hrep⟩ := part_run (P := P) hg hk hl hh (Nat.le_of_ble_eq_true hle.2) hc
      exact stay (u := u) (fun w' => by simp [execOp, ho, hv, hvi, Instr.index, asIntOf, run_underlying ht, tSize_run hk, hj, hr w']) hrep
    · cases hy
  · cases hy
theorem q_six {t : TypeId} {x i : Operand} (ho : o.op = .index t x i) (ht : P.underlying t = some .string) (hy : ySix (TM.opd e (tOpd x)) (TM.opd e (tOpd i)) = some (true, v, new)) (H : RelAt N B G fr φ ⟨e, h, nx, pr, ks⟩ a w) : Comes P B φ a w o nm r v new := by
  unfold ySix at hy
  split at hy
  · rename_i s j' hx hi
    simp only [Option.some.injEq, Prod.mk.injEq] at hy
    obtain ⟨hin, rfl, rfl⟩ := hy
    obtain ⟨j, rfl, hm, hlt⟩ := inB_true hin
    rw [hm]
    have hv : a.eval i = .int .i64 (j : Int) := rep_i (H.opd hi)
    obtain ⟨str, hx', hs⟩ := rep_str (H.opd hx)
    have hlt' : j < str.size := by rw [← bytesI_len, hs]; exact hlt
    have h2 : j < str.data.size := hlt'
    have hget : str[j]? = some str.data[j] := by
      rw [getElem?_pos str j hlt']
      rfl
    have hd : s.getD j 0 = ((str.data[j]).toNat : Int) := by
      rw [← hs]
      have h3 : j < str.size := hlt'
      simp [bytesI, List.getD_eq_getElem?_getD, h3]
    rw [hd]
    exact stay (u := .int .u8 ((str.data[j]).toNat : Int)) (fun w' => by simp [execOp, ho, hx', hv, Instr.index, asIntOf, run_underlying ht, hget]) mk_i
  · cases hy
theorem q_ext {x : Operand} {i : Nat} (ho : o.op = .extract x i) (hy : yExt i (TM.opd e (tOpd x)) = some (true, v, new)) (H : RelAt N B G fr φ ⟨e, h, nx, pr, ks⟩ a w) : Comes P B φ a w o nm r v new := by
  unfold yExt at hy
  split at hy
  · rename_i cs hx
    obtain ⟨hd, rfl⟩ := ret_some hy
    obtain ⟨vs, hv, hl, hh⟩ := rep_tup (H.opd hx)
    have hlt : i < vs.length := by rw [← hl]; exact (List.getElem?_eq_some_iff.1 hd).1
    exact stay (u := vs[i]) (fun w' => by simp [execOp, ho, hv, Instr.extract, hlt]) (hh i _ _ hd (by simp [hlt]))
  · cases hy
theorem len_run {x : Value} {t : TypeId} (n : Nat) (h : (∃ b, x = .string b ∧ n = b.size ∧ P.underlying t = some .string) ∨ ∃ q k e, x = .slice q n k ∧ P.underlying t = some (.slice e)) (w : World) : (Builtin.len_ #[t] ty #[x]).run P w = .ok (goInt n) w := by
  rcases h with ⟨b, rfl, rfl, ht⟩ | ⟨q, k, e, rfl, ht⟩ <;> simp [Builtin.len_, run_underlying ht]
theorem getObj_chan {b cap : Nat} {buf : Array Value} {s r : Nat} {w : World} (h : w.heap[b]? = some (.chan cap buf false s r false)) : (getObj b).run P w = .ok (.chan cap buf false s r false) w := by
  show Sem.run P (.getObj b .pure) w = _
  simp only [Sem.run, h]
theorem chanOf_spec (H : HeapAt B G fr φ h w) {rr : Ref} {c : Nat × Nat} (hq : chanOf h rr = some c) (hok : rr.ok φ) : ChanAt w (φ rr.nm) c.1 c.2 := by
  cases rr with
  | top x =>
    simp only [chanOf] at hq
    split at hq
    · rename_i cap n hs
      injection hq with hq
      subst hq
      exact H.st x _ hs
    · cases hq
  | mem x g j =>
    simp only [chanOf] at hq
    split at hq
    · rename_i g' xs hs
      split at hq
      · rename_i hg
        obtain rfl := beq_true hg
        injection hq with hq
        subst hq
        have hB := H.st x _ hs
        exact hB.2 j _ (getD_lt (d := (0, 0)) (fam_lt hB hok))
      · cases hq
    · cases hq
theorem q_len {x : Operand} {t : TypeId} {c : Call} (hcl : c.callee = .builtin .len) (hca : c.args = #[x]) (hct : c.argTypes = #[t]) (ho : o.op = .call c) {kd : Nat} (ht : (kd = 0 → P.underlying t = some .string) ∧ (kd = 1 → ∃ e, P.underlying t = some (.slice e)) ∧ (kd = 3 → ∃ d e, P.underlying t = some (.chan d e)) ∧ (kd = 2 → ∃ k e, P.underlying t = some (.map k e)))
    (hy : yLen h kd (TM.opd e (tOpd x)) = some (true, v, new)) (H : RelAt N B G fr φ ⟨e, h, nx, pr, ks⟩ a w) : Comes P B φ a w o nm (reads (.len kd (tOpd x)) (TM.opd e (COp.addr (.len kd (tOpd x))))) v new := by
  have hrun : ∀ n : Nat, ((∃ b, a.eval x = .string b ∧ n = b.size ∧ P.underlying t = some .string) ∨ ∃ q k e, a.eval x = .slice q n k ∧ P.underlying t = some (.slice e)) → ∀ w', (execOp a.eval o).run P w' = .ok (.value (.int .i64 n)) w' := fun n h w' => by
    simp [execOp, ho, Go.resolve, invoke, builtin, hcl, hca, hct, len_run (P := P) (ty := o.type) n h, goInt]
  have nm' : ∀ {p : Bool} {n : Nat}, num p n = some (true, v, new) → p = true ∧ v = .raw (.int .i64 (n : Int)) ∧ new = none := fun {p n} h => by
    unfold num at h; simp only [Option.some.injEq, Prod.mk.injEq] at h; exact ⟨h.1, h.2.1.symm, h.2.2.symm⟩
  unfold yLen at hy
  split at hy <;> first | (cases hy; done) | skip
  · rename_i el xs hx
    obtain ⟨_, rfl, rfl⟩ := nm' hy
    obtain ⟨e', he⟩ := ht.2.1 rfl
    obtain ⟨hd, cap, h1⟩ := rt_hd (rep_ts (H.opd hx))
    exact stay (hrun _ (.inr ⟨_, _, _, h1.eq, he⟩)) mk_i
  · rename_i rr hx
    unfold yLenR at hy
    split at hy
    · rename_i p n hl
      obtain ⟨rfl, rfl, rfl⟩ := nm' hy
      obtain ⟨e', he⟩ := ht.2.1 rfl
      obtain ⟨_, hd0, hok, hvv⟩ := rep_own (H.opd hx)
      obtain ⟨u, hd, cap, hu, h1⟩ := lenR_spec H.toHeapAt hl hok
      exact stay (hrun _ (.inr ⟨_, _, _, (hvv u hu).trans h1.eq, he⟩)) mk_i
    · cases hy
  · rename_i rr sz lo n hx
    unfold yLenS at hy
    split at hy
    · rename_i p n0 hl
      obtain ⟨rfl, rfl, rfl⟩ := nm' hy
      obtain ⟨e', he⟩ := ht.2.1 rfl
      obtain ⟨_, hd0, hok, hvv⟩ := rep_sub (H.opd hx)
      obtain ⟨u, hd, cap, hu, h1⟩ := lenR_spec H.toHeapAt hl hok
      obtain ⟨ad, cap', h2, h3, _⟩ := sub_sub h1 (hvv u hu) (l := 0) (k := 0) (Nat.le_refl _) (Nat.zero_le _)
      exact stay (hrun _ (.inr ⟨_, _, _, h2, he⟩)) mk_i
    · cases hy
  · rename_i hx
    obtain ⟨_, rfl, rfl⟩ := nm' hy
    obtain ⟨e', he⟩ := ht.2.1 rfl
    rcases rep_emp (H.opd hx) with hv | ⟨ad, hv⟩
    · exact stay (hrun _ (.inr ⟨_, _, _, hv, he⟩)) mk_i
    · exact stay (hrun _ (.inr ⟨_, _, _, hv, he⟩)) mk_i
  · rename_i hx
    obtain ⟨_, rfl, rfl⟩ := nm' hy
    obtain ⟨e', he⟩ := ht.2.1 rfl
    exact stay (hrun _ (.inr ⟨_, _, _, (rep_raw (H.opd hx)).1, he⟩)) mk_i
  · rename_i t' hx
    obtain ⟨_, rfl, rfl⟩ := nm' hy
    obtain ⟨s, hv, hs⟩ := rep_str (H.opd hx)
    exact stay (hrun _ (.inl ⟨s, hv, by rw [← hs, bytesI_len], ht.1 rfl⟩)) mk_i
  · rename_i rr hx
    unfold yLenC at hy
    split at hy
    · rename_i cc hc
      obtain ⟨_, rfl, rfl⟩ := nm' hy
      obtain ⟨d, e', he⟩ := ht.2.2.1 rfl
      obtain ⟨_, hd0, hok, hvv⟩ := rep_chn (H.opd hx)
      obtain ⟨b, buf, s, r', h1, h2, h3, _⟩ := chanOf_spec H.toHeapAt hc hok
      have hv := hvv b h1
      refine ⟨.int .i64 (cc.2 : Int), fun b' => b' = b, mk_i, fun w' hw => ?_, fun ys hr b' hb' => by cases hr⟩
      have h2' := (hw b rfl).trans h2
      simp [execOp, ho, Go.resolve, invoke, builtin, hcl, hca, hct, hv, Builtin.len_, run_underlying he, getObj_chan h2', goInt, h3]
    · cases hy
  · rename_i y hx
    unfold yLenM at hy
    split at hy
    · rename_i mv ds hs
      obtain ⟨_, rfl, rfl⟩ := nm' hy
      obtain ⟨k', e', he⟩ := ht.2.2.2 rfl
      obtain ⟨b, mes, clock, hb, hh, hM⟩ := (show ∃ b mes clock, φ (y, 0) = .blk b ∧ w.heap[b]? = some (.map mes clock) ∧ MapAt w (Excl B φ) mv mes clock ds from H.st y _ hs)
      have hv : a.eval x = .map (some b) := (rep_mp (H.opd hx)).2.2 b hb
      have hsz : ds.length = mes.size := by have := hM.1.1; simpa using this
      refine ⟨.int .i64 (ds.length : Int), fun b' => b' = b, mk_i, fun w' hw => ?_, fun ys hr b' hb' => by cases hr⟩
      have h2' := (hw b rfl).trans hh
      simp [execOp, ho, Go.resolve, invoke, builtin, hcl, hca, hct, hv, Builtin.len_, run_underlying he, getObj_map h2', goInt, hsz]
    · cases hy
theorem q_cap {x : Operand} {t : TypeId} {c : Call} (hcl : c.callee = .builtin .cap) (hca : c.args = #[x]) (hct : c.argTypes = #[t]) (ho : o.op = .call c) {d : ChanDir} {el : TypeId} (ht : P.underlying t = some (.chan d el))
    (hy : yCap h (TM.opd e (tOpd x)) = some (true, v, new)) (H : RelAt N B G fr φ ⟨e, h, nx, pr, ks⟩ a w) : Comes P B φ a w o nm (reads (.cap (tOpd x)) (TM.opd e (COp.addr (.cap (tOpd x))))) v new := by
  unfold yCap at hy
  split at hy <;> first | (cases hy; done) | skip
  rename_i rr hx
  unfold yCapC at hy
  split at hy
  · rename_i cc hc
    unfold num at hy
    simp only [Option.some.injEq, Prod.mk.injEq, true_and] at hy
    obtain ⟨rfl, rfl⟩ := hy
    obtain ⟨_, hd0, hok, hvv⟩ := rep_chn (H.opd hx)
    obtain ⟨b, buf, s, r', h1, h2, h3, _⟩ := chanOf_spec H.toHeapAt hc hok
    have hv := hvv b h1
    refine ⟨.int .i64 (cc.1 : Int), fun b' => b' = b, mk_i, fun w' hw => ?_, fun ys hr b' hb' => by cases hr⟩
    have h2' := (hw b rfl).trans h2
    simp [execOp, ho, Go.resolve, invoke, builtin, hcl, hca, hct, hv, Builtin.cap_, run_underlying ht, getObj_chan h2', goInt]
  · cases hy
theorem ints_run (H : RelAt N B G fr φ ⟨e, h, nx, pr, ks⟩ a w) : ∀ {xs : List Operand} {cs : List V} {l : List Int}, TM.opds e (tOpds xs) = some cs → ints cs = some l → xs.map a.eval = l.map (Value.int .i64)
  | [], cs, l, h1, h2 => by
    simp only [tOpds, TM.opds, Option.some.injEq] at h1
    subst h1
    simp only [ints, Option.some.injEq] at h2
    subst h2
    rfl
  | x :: xs, cs, l, h1, h2 => by
    simp only [tOpds, TM.opds] at h1
    split at h1
    · rename_i c d hc hd
      injection h1 with h1
      subst h1
      simp only [ints] at h2
      split at h2
      · rename_i n l' hn hl
        injection h2 with h2
        subst h2
        have hcn : c = .raw (.int .i64 n) := by
          unfold i64? at hn
          split at hn
          · injection hn with hn; subst hn; rfl
          · cases hn
        subst hcn
        simp only [List.map_cons, rep_i (H.opd hc), ints_run H hd hl]
      · cases h2
    · cases h1
theorem max_fold (w : World) : ∀ (l : List Int) (n : Int), ((l.map (Value.int .i64)).foldlM Builtin.max2 (Value.int .i64 n)).run P w = .ok (.int .i64 (mostI true n l)) w
  | [], n => rfl
  | m :: l, n => by
    simp only [List.map_cons, List.foldlM_cons, Sem.run_bind, Builtin.max2, Sem.run_pure, Result.andThen_ok, mostI]
    have : (if m > n then m else n) = (match ltI n m with | true => m | false => n) := by
      rw [ltI_eq]
      by_cases h : n < m
      · rw [if_pos h, decide_eq_true h]
      · rw [if_neg h, decide_eq_false h]
    rw [this]
    exact max_fold w l _
theorem min_fold (w : World) : ∀ (l : List Int) (n : Int), ((l.map (Value.int .i64)).foldlM Builtin.min2 (Value.int .i64 n)).run P w = .ok (.int .i64 (mostI false n l)) w
  | [], n => rfl
  | m :: l, n => by
    simp only [List.map_cons, List.foldlM_cons, Sem.run_bind, Builtin.min2, Sem.run_pure, Result.andThen_ok, mostI]
    have : (if m < n then m else n) = (match ltI m n with | true => m | false => n) := by
      rw [ltI_eq]
      by_cases h : m < n
      · rw [if_pos h, decide_eq_true h]
      · rw [if_neg h, decide_eq_false h]
    rw [this]
    exact min_fold w l _
theorem q_most {mx : Bool} {c : Call} {xs : List Operand} (hcl : c.callee = .builtin (if mx then .max else .min)) (hca : c.args.toList = xs) (ho : o.op = .call c) (hy : yMost mx (TM.opds e (tOpds xs)) = some (true, v, new)) (H : RelAt N B G fr φ ⟨e, h, nx, pr, ks⟩ a w) : Comes P B φ a w o nm r v new := by
  unfold yMost at hy
  split at hy
  · rename_i cs hcs
    split at hy
    · rename_i n l hl
      simp only [Option.some.injEq, Prod.mk.injEq, true_and] at hy; obtain ⟨h1, h2⟩ := hy
      subst h1; subst h2
      have hm := ints_run H hcs hl
      subst hca
      have hm' : (c.args.map a.eval).toList = Value.int .i64 n :: l.map (Value.int .i64) := by simpa using hm
      refine stay (u := .int .i64 (mostI mx n l)) (fun w' => ?_) mk_i
      cases mx
      · have : ∀ (t : Array TypeId) (y : TypeId), (Builtin.min_ t y (c.args.map a.eval)).run P w' = .ok (.int .i64 (mostI false n l)) w' := fun t y => by
          unfold Builtin.min_
          rw [hm']
          exact min_fold w' l n
        simp [execOp, ho, Go.resolve, invoke, builtin, hcl, this]
      · have : ∀ (t : Array TypeId) (y : TypeId), (Builtin.max_ t y (c.args.map a.eval)).run P w' = .ok (.int .i64 (mostI true n l)) w' := fun t y => by
          unfold Builtin.max_
          rw [hm']
          exact max_fold w' l n
        simp [execOp, ho, Go.resolve, invoke, builtin, hcl, this]
    · cases hy
  · cases hy
theorem sameOpd_eq {l c : Operand} (h : sameOpd l c = true) : a.eval l = a.eval c := by
  unfold sameOpd at h
  split at h
  · have := Nat.eq_of_beq_eq_true h; subst this; rfl
  · rw [beq_iff_eq] at h; subst h; rfl
  · cases h
theorem quiet_call {c : Call} (ho : o.op = .call c) {op : COp} (hc : tCall P c = op) (hy : yv e h nm op = some (true, v, new)) (H : RelAt N B G fr φ ⟨e, h, nx, pr, ks⟩ a w) : Comes P B φ a w o nm (reads op (TM.opd e op.addr)) v new := by
  unfold tCall at hc
  split at hc
  · subst hc; cases hy
  · subst hc; cases hy
  · rename_i b hcl
    split at hc
    · rename_i x t hca hct
      have hca : c.args = #[x] := by apply Array.ext'; simpa using hca
      have hct : c.argTypes = #[t] := by apply Array.ext'; simpa using hct
      split at hc
      · rename_i ht
        subst hc
        exact q_len hcl hca hct ho ⟨fun _ => ht, fun h => (by cases h), fun h => (by cases h), fun h => (by cases h)⟩ hy H
      · rename_i ht
        subst hc
        exact q_len hcl hca hct ho ⟨fun h => (by cases h), fun _ => ⟨_, ht⟩, fun h => (by cases h), fun h => (by cases h)⟩ hy H
      · rename_i ht
        subst hc
        exact q_len hcl hca hct ho ⟨fun h => (by cases h), fun h => (by cases h), fun h => (by cases h), fun _ => ⟨_, _, ht⟩⟩ hy H
      · rename_i ht
        subst hc
        exact q_len hcl hca hct ho ⟨fun h => (by cases h), fun h => (by cases h), fun _ => ⟨_, _, ht⟩, fun h => (by cases h)⟩ hy H
      · subst hc; cases hy
    · split at hc <;> (subst hc; cases hy)
    · rename_i x t hca hct
      have hca : c.args = #[x] := by apply Array.ext'; simpa using hca
      have hct : c.argTypes = #[t] := by apply Array.ext'; simpa using hct
      split at hc
      · rename_i ht
        subst hc
        exact q_cap hcl hca hct ho ht hy H
      · subst hc; cases hy
    · split at hc
      · split at hc
        · split at hc <;> (subst hc; cases hy)
        · subst hc; cases hy
      · subst hc; cases hy
    · rename_i x xs t ts hca hct
      split at hc
      · subst hc
        exact q_most (mx := true) (xs := x :: xs) hcl hca ho hy H
      · subst hc; cases hy
    · rename_i x xs t ts hca hct
      split at hc
      · subst hc
        exact q_most (mx := false) (xs := x :: xs) hcl hca ho hy H
      · subst hc; cases hy
    · subst hc; cases hy
theorem sound_quiet {op : COp} (hc : tOp P o.op = op) (hy : yv e h nm op = some (true, v, new)) (H : RelAt N B G fr φ ⟨e, h, nx, pr, ks⟩ a w) : Comes P B φ a w o nm (reads op (TM.opd e op.addr)) v new := by
  cases ho : o.op with
  | call c => rw [ho] at hc; exact quiet_call ho hc hy H
  | move x => rw [ho] at hc; simp only [tOp] at hc; subst hc; exact q_mv (.inl ho) hy H
  | assign x => rw [ho] at hc; simp only [tOp] at hc; subst hc; exact q_mv (.inr ho) hy H
  | pick x y z => rw [ho] at hc; simp only [tOp] at hc; subst hc; exact q_pick ho hy H
  | alloc t =>
    rw [ho] at hc; simp only [tOp] at hc
    split at hc
    · rename_i zs hz; subst hc; exact q_alloc ho hz hy
    · subst hc; cases hy
  | box t x =>
    rw [ho] at hc; simp only [tOp] at hc
    split at hc
    · subst hc; exact q_box ho hy H
    · subst hc; cases hy
  | build t ps =>
    rw [ho] at hc; simp only [tOp] at hc
    split at hc
    · rename_i zs fs hz ht
      split at hc
      · rename_i pl hpl
        split at hc
        · rename_i qs hq; subst hc; exact q_build ho hz (.inl ⟨_, _, ht, hpl, rfl⟩) hq hy H
        · subst hc; cases hy
      · subst hc; cases hy
    · rename_i zs n el hz ht
      split at hc
      · rename_i k hk
        split at hc
        · rename_i qs hq; subst hc; exact q_build ho hz (.inr ⟨_, _, _, ht, hk, rfl⟩) hq hy H
        · subst hc; cases hy
      · subst hc; cases hy
    · subst hc; cases hy
  | buildSlice t len ps =>
    rw [ho] at hc; simp only [tOp] at hc
    split at hc
    · split at hc
      · split at hc
        · split at hc <;> (subst hc; cases hy)
        · split at hc
          · split at hc <;> (subst hc; cases hy)
          · subst hc; cases hy
      · subst hc; cases hy
    · subst hc; cases hy
  | makeChan t x =>
    rw [ho] at hc; simp only [tOp] at hc
    split at hc
    · rename_i d el ht
      split at hc
      · rename_i i hi
        split at hc
        · rename_i hb
          subst hc
          rw [Bool.and_eq_true] at hb
          exact q_mkch ho ht hi (beq_true hb.2) hy H
        · subst hc; cases hy
      · subst hc; cases hy
    · subst hc; cases hy
  | load t x =>
    rw [ho] at hc; simp only [tOp] at hc
    split at hc
    · rename_i g k hg hk; subst hc; exact q_load ho hg hk hy H
    · subst hc; cases hy
  | nilCheck x => rw [ho] at hc; simp only [tOp] at hc; subst hc; exact q_nil ho hy H
  | binOp op t x y t' =>
    rw [ho] at hc; simp only [tOp, tBin] at hc
    split at hc
    · subst hc; exact q_bin ho ⟨fun h => (by cases h), fun h => (by cases h), fun h => (by cases h), fun h => (by cases h)⟩ hy H
    · subst hc; exact q_bin ho ⟨fun h => (by cases h), fun h => (by cases h), fun h => (by cases h), fun h => (by cases h)⟩ hy H
    · rename_i ht; subst hc; exact q_bin ho ⟨fun _ => ht, fun h => (by cases h), fun h => (by cases h), fun h => (by cases h)⟩ hy H
    · rename_i ht; subst hc; exact q_bin ho ⟨fun h => (by cases h), fun _ => ⟨_, ht⟩, fun h => (by cases h), fun h => (by cases h)⟩ hy H
    · rename_i ht
      split at hc
      · rename_i hyn
        subst hc
        refine q_bin (y := y) (kd := 3) ho ⟨fun h => (by cases h), fun h => (by cases h), fun _ => ⟨_, ht⟩, fun h => (by cases h)⟩ ?_ H
        rw [hyn]
        exact hy
      · subst hc; exact q_bin ho ⟨fun h => (by cases h), fun h => (by cases h), fun _ => ⟨_, ht⟩, fun h => (by cases h)⟩ hy H
    · rename_i ht; subst hc; exact q_bin ho ⟨fun h => (by cases h), fun h => (by cases h), fun h => (by cases h), fun _ => ⟨_, _, ht⟩⟩ hy H
    · rename_i fs ht
      split at hc
      · rename_i l hm hf; subst hc; exact q_beq ho ht hf hm hy H
      · subst hc; cases hy
    · subst hc; cases hy
  | unOp op t x => rw [ho] at hc; simp only [tOp] at hc; subst hc; exact q_un ho hy H
  | convert t d x =>
    rw [ho] at hc; simp only [tOp] at hc
    split at hc
    · rename_i u k hu hd; subst hc; exact q_conv ho hd ⟨_, hu⟩ hy H
    · split at hc <;> (subst hc; cases hy)
    · split at hc <;> (subst hc; cases hy)
    · subst hc; cases hy
  | makeFunc f x y => rw [ho] at hc; simp only [tOp] at hc; subst hc; exact q_fn ho hy H
  | makeSlice t l c =>
    rw [ho] at hc; simp only [tOp] at hc
    split at hc
    · rename_i el hel
      split at hc
      · rename_i i zs et hi hz he
        split at hc
        · rename_i hb
          subst hc
          simp only [Bool.and_eq_true] at hb
          exact q_mksl ho (tElem_eq hel) hi (blt_true hb.1.1.1.1) (blt_true hb.1.1.1.2) hz (beq_true hb.1.1.2) (sameOpd_eq hb.2) (beq_true hb.1.2) hy H
        · subst hc; cases hy
      · subst hc; cases hy
    · subst hc; cases hy
  | slice t x lo hi mx =>
    rw [ho] at hc; simp only [tOp] at hc
    split at hc
    · rename_i ht
      split at hc
      · subst hc; exact q_tslc ho ht hy H
      · subst hc; cases hy
    · rename_i el ht
      split at hc
      · rename_i k hk; subst hc; exact q_slc ho ht hk hy H
      · subst hc; cases hy
    · subst hc; cases hy
  | fieldAddr t x i =>
    rw [ho] at hc; simp only [tOp] at hc
    split at hc
    · rename_i fs ht
      split at hc
      · rename_i f hf
        split at hc
        · rename_i k hk; subst hc; exact q_fad ho ht hf hk hy H
        · subst hc; cases hy
      · subst hc; cases hy
    · subst hc; cases hy
  | field t x i =>
    rw [ho] at hc; simp only [tOp] at hc
    split at hc
    · rename_i fs ht
      split at hc
      · rename_i f hf
        split at hc
        · rename_i g k hg hk; subst hc; exact q_fld ho ht hf hg hk hy H
        · subst hc; cases hy
      · subst hc; cases hy
    · subst hc; cases hy
  | indexAddr t x i =>
    rw [ho] at hc; simp only [tOp] at hc
    split at hc
    · rename_i el ht
      split at hc
      · rename_i k hk; subst hc; exact q_idx ho ht hk hy H
      · subst hc; cases hy
    · rename_i n el ht
      split at hc
      · rename_i k hk; subst hc; exact q_pidx ho ht hk hy H
      · subst hc; cases hy
    · subst hc; cases hy
  | index t x i =>
    rw [ho] at hc; simp only [tOp] at hc
    split at hc
    · rename_i ht; subst hc; exact q_six ho ht hy H
    · rename_i n el ht
      split at hc
      · rename_i g k hg hk; subst hc; exact q_aix ho ht hg hk hy H
      · subst hc; cases hy
    · subst hc; cases hy
  | extract x i => rw [ho] at hc; simp only [tOp] at hc; subst hc; exact q_ext ho hy H
  | makeMap t n =>
    rw [ho] at hc
    cases n with
    | some n => simp only [tOp] at hc; subst hc; cases hy
    | none =>
      simp only [tOp] at hc
      split at hc
      · rename_i k el ht
        split at hc
        · rename_i mv hmv
          subst hc
          simp only [yv, Option.some.injEq, Prod.mk.injEq, true_and] at hy
          obtain ⟨rfl, rfl⟩ := hy
          exact q_mkmap ho ht
        · subst hc
          simp only [yv, Option.some.injEq, Prod.mk.injEq, true_and] at hy
          obtain ⟨rfl, rfl⟩ := hy
          exact q_mkmap ho ht
      · subst hc; cases hy
  | lookup t m k ok =>
    rw [ho] at hc; simp only [tOp] at hc
    split at hc
    · rename_i mv ht; subst hc; exact q_look ho ht hy H
    · subst hc; cases hy
  | entry x => rw [ho] at hc; simp only [tOp] at hc; subst hc; exact q_ent ho hy H
  | mapUpdate t m k x =>
    rw [ho] at hc; simp only [tOp] at hc
    split at hc <;> (subst hc; cases hy)
  | range t x =>
    rw [ho] at hc; simp only [tOp] at hc
    split at hc <;> (subst hc; cases hy)
  | next x s =>
    rw [ho] at hc
    cases s <;> (simp only [tOp] at hc; subst hc; cases hy)
  | store t a x =>
    rw [ho] at hc; simp only [tOp] at hc
    split at hc <;> (subst hc; cases hy)
  | select cs b =>
    rw [ho] at hc; simp only [tOp] at hc
    split at hc
    · split at hc <;> (subst hc; cases hy)
    · subst hc; cases hy
  | _ => rw [ho] at hc; simp only [tOp] at hc; subst hc; cases hy
end ops
end
end Go.TM
namespace Go.TM
open Go.RowKit
section
variable {P : Program} {ty : TypeId} {N : Nat} {B : Nat → Prop} {G : Nat → Nat → Value → Prop} {fr U : Nat → Prop} {φ : Loc} {a : Act} {w : World} {e : T V} {h : Heap} {nx : Nat} {pr ks : Nat → Bool} {R : Type} {res : R}
theorem HeapAt.mv (H : HeapAt B G fr φ h w) {ns wn : List Nat} (hp : ∀ n ∈ ns, pr n = false) (hpw : ∀ n ∈ wn, pr n = false) {h1 : Heap} (hsub : ∀ y k, h1.get y = some k → h.get y = some k ∧ ∀ n, Uses y k n → n.1 ∉ ns ∧ n.1 ∉ wn)
    {Fp : Nat → Prop} (hF : ∀ x, Fp x → fr x) {φ' : Loc} (hout : ∀ n, ¬ Fp n.1 → φ' n = φ.kill ns n) {w' : World} (hs : w.heap.size ≤ w'.heap.size) (hb : ∀ b, b < w.heap.size → (∀ m, (φ m).has b → m.1 ∉ ns ∧ m.1 ∉ wn) → w'.heap[b]? = w.heap[b]?)
    (ho : w'.os = w.os) (ht : w'.tape = w.tape) (hu : w'.output = w.output) (hL : ∀ n b, Fp n.1 → (φ' n).has b → (∃ m, m.1 ∈ ns ∧ (φ m).has b) ∨ (w.heap.size ≤ b ∧ b < w'.heap.size)) (hinj : ∀ n m b, Fp n.1 → Fp m.1 → (φ' n).has b → (φ' m).has b → n = m) :
    Fwd pr φ w φ' w' ∧ HeapAt B G (fun x => fr x ∧ ¬ Fp x) φ' h1 w' := by
  have hfree : ∀ n, Fp n.1 → φ n = .free := fun n hn => (H.free n.1 (hF _ hn)).1 n.2
  have hold : ∀ n b, ¬ Fp n.1 → (φ' n).has b → n.1 ∉ ns ∧ (φ n).has b := fun n b hn hh => by rw [hout n hn] at hh; exact φ.kill_has hh
  have F : Fwd pr φ w φ' w' := by
    refine ⟨ho, ht, hu, hs, fun b hlt hn => hb b hlt fun m hm => ⟨fun hmn => ?_, fun hmn => ?_⟩, fun n b hh => ?_, fun n hn => ?_⟩
    · have := hn m hm; rw [hp _ hmn] at this; cases this
    · have := hn m hm; rw [hpw _ hmn] at this; cases this
    · by_cases hf : Fp n.1
      · rcases hL n b hf hh with ⟨m, h1, h2⟩ | ⟨h1, _⟩
        · exact .inl ⟨m, h2, .inr (hp _ h1)⟩
        · exact .inr h1
      · exact .inl ⟨n, (hold n b hf hh).2, .inl rfl⟩
    · have hf : ¬ Fp n.1 := fun hf => hn (hfree n hf)
      rw [hout n hf]
      by_cases hm : n.1 ∈ ns
      · rcases φ.kill_in hm with hk | ⟨_, h2⟩
        · exact .inr ⟨hk, hp _ hm⟩
        · exact absurd h2 hn
      · exact .inl (φ.kill_out hm)
  have hfam : ∀ {x g}, famOf (h1.get x) = some g → famOf (h.get x) = some g := fun {x g} hx => by
    cases hk : h1.get x with
    | none => rw [hk] at hx; cases hx
    | some k => rw [(hsub x k hk).1]; rw [hk] at hx; exact hx
  have hnone : ∀ {g}, h.get g = none → h1.get g = none := fun {g} hg => by
    cases hk : h1.get g with
    | none => rfl
    | some k => have := (hsub g k hk).1; rw [hg] at this; cases this
  refine ⟨F, H.step F (fun x k hk => ?_) (fun x y g h2 h3 => H.gen x y g (hfam h2) (hfam h3)) (fun x g h2 => hnone (H.gtop x g (hfam h2))) (fun n m b h2 h3 => ?_) (fun n b hh => ?_) fun x hx => ⟨fun i => ?_, fun y hy => (H.free x hx.1).2 y (hfam hy)⟩⟩
  · obtain ⟨g1, g2⟩ := hsub x k hk
    have hl : ∀ {n}, Uses x k n → φ n ≠ .free ∧ φ n ≠ .dead := fun hn => (H.st x k g1).live hn
    refine .inl ⟨g1, fun n hn => ?_, fun n b hn hbb => hb b (H.lt n b hbb).1 fun m hm => ?_⟩
    · rw [hout n (fun hf => (hl hn).1 (hfree n hf)), φ.kill_out (g2 n hn).1]
    · have := H.inj n m b hbb hm
      subst this
      exact g2 n hn
  · by_cases hf : Fp n.1 <;> by_cases hf' : Fp m.1
    · exact hinj n m b hf hf' h2 h3
    · exfalso
      obtain ⟨q1, q2⟩ := hold m b hf' h3
      rcases hL n b hf h2 with ⟨k, k1, k2⟩ | ⟨k1, _⟩
      · have := H.inj m k b q2 k2; subst this; exact q1 k1
      · have := (H.lt m b q2).1; omega
    · exfalso
      obtain ⟨q1, q2⟩ := hold n b hf h2
      rcases hL m b hf' h3 with ⟨k, k1, k2⟩ | ⟨k1, _⟩
      · have := H.inj n k b q2 k2; subst this; exact q1 k1
      · have := (H.lt n b q2).1; omega
    · exact H.inj n m b (hold n b hf h2).2 (hold m b hf' h3).2
  · by_cases hf : Fp n.1
    · rcases hL n b hf hh with ⟨m, _, h2⟩ | ⟨h2, h3⟩
      · have := H.lt m b h2; exact ⟨Nat.lt_of_lt_of_le this.1 hs, this.2⟩
      · exact ⟨h3, fun hB => by have := H.ltB b hB; omega⟩
    · have := H.lt n b (hold n b hf hh).2; exact ⟨Nat.lt_of_lt_of_le this.1 hs, this.2⟩
  · rw [hout (x, i) hx.2]
    exact φ.kill_free.2 ((H.free x hx.1).1 i)
theorem sub_of_without {ns : List Nat} (H : HeapAt B G fr φ h w) (hn : OkNs h ns) {h1 : Heap} (hw : Without h ns h1) : ∀ y k, h1.get y = some k → h.get y = some k ∧ ∀ n, Uses y k n → n.1 ∉ ns ∧ n.1 ∉ ([] : List Nat) := fun y k hk => by
  rw [hw y] at hk
  split at hk
  · cases hk
  · rename_i hx
    refine ⟨hk, fun n hu => ⟨?_, by simp⟩⟩
    cases k with
    | fam c g xs =>
      rcases hu with rfl | ⟨j, hj, rfl⟩
      · exact hx
      · intro hg; exact hx (hn g hg y (by rw [hk]; rfl))
    | _ => rw [show n = (y, 0) from hu]; exact hx
theorem HeapAt.add' (H : HeapAt B G fr φ h w) {x : Nat} {k : Blk} (hk : BlkAt w (Excl B φ) φ x k) (hx : ∀ y, famOf (h.get y) ≠ some x) (hg : ∀ g, famOf (some k) = some g → (∀ y, y ≠ x → famOf (h.get y) ≠ some g) ∧ h.get g = none ∧ g ≠ x ∧ ¬ fr g) {h' : Heap} (hp : Put h x (some k) h') : HeapAt B G fr φ h' w :=
  { H with
    st := fun y k' hk' => by
      rw [hp y] at hk'
      split at hk'
      · rename_i hy
        subst hy
        injection hk' with hk'
        subst hk'
        exact hk
      · exact H.st y k' hk'
    gen := fun y z g h1 h2 => by
      rw [hp y] at h1; rw [hp z] at h2
      split at h1
      · rename_i hy
        split at h2
        · rename_i hz; rw [hy, hz]
        · rename_i hz; exact absurd h2 ((hg g h1).1 z hz)
      · rename_i hy
        split at h2
        · exact absurd h1 ((hg g h2).1 y hy)
        · exact H.gen y z g h1 h2
    gtop := fun y g h1 => by
      rw [hp y] at h1
      rw [hp g]
      split at h1
      · rw [if_neg (hg g h1).2.2.1]; exact (hg g h1).2.1
      · split
        · rename_i hgx; subst hgx; exact absurd h1 (hx y)
        · exact H.gtop y g h1
    free := fun y hy => ⟨(H.free y hy).1, fun z => by
      rw [hp z]
      split
      · intro h1; exact (hg y h1).2.2.2 hy
      · exact (H.free y hy).2 z⟩ }
theorem famOf_none {x : Nat} (H : HeapAt B G fr φ h w) {k : Blk} (hx : h.get x = some k) : ∀ y, famOf (h.get y) ≠ some x := fun y hy => by
  have := H.gtop y x hy
  rw [hx] at this; cases this
theorem without1 {x : Nat} {h1 : Heap} (hp : Put h x none h1) : Without h [x] h1 := fun y => by
  rw [hp y]; simp
theorem uses_inj (H : HeapAt B G fr φ h w) {x y : Nat} {k k' : Blk} (hx : h.get x = some k) (hy : h.get y = some k') {n : Nm} (h1 : Uses x k n) (h2 : Uses y k' n) : x = y := by
  have key : ∀ {x : Nat} {k : Blk}, h.get x = some k → Uses x k n → n = (x, 0) ∨ ∃ g j, famOf (h.get x) = some g ∧ n = (g, j + 1) := fun {x k} hx hu => by
    cases k with
    | fam c g xs =>
      rcases hu with rfl | ⟨j, hj, rfl⟩
      · exact .inl rfl
      · exact .inr ⟨g, j, by rw [hx]; rfl, rfl⟩
    | _ => exact .inl hu
  rcases key hx h1 with rfl | ⟨g, j, h3, rfl⟩ <;> rcases key hy h2 with h4 | ⟨g', j', h4, h5⟩
  · injection h4
  · injection h5 with h5 h6; omega
  · injection h4 with h4 h6; omega
  · injection h5 with h5 h6; subst h5; exact H.gen x y g h3 h4
theorem HeapAt.wr (H : HeapAt B G fr φ h w) {x : Nat} {k0 : Blk} (hx : h.get x = some k0) {n0 : Nm} (hu : Uses x k0 n0) (hpr : pr n0.1 = false) {b : Nat} (hb : (φ n0).has b) {w' : World} (hs : w'.heap.size = w.heap.size) (ho : ∀ c, c ≠ b → w'.heap[c]? = w.heap[c]?) (ho' : w'.os = w.os) (ht : w'.tape = w.tape) (hu' : w'.output = w.output)
    {k : Blk} (hf : famOf (some k) = famOf (some k0)) (hbl : (∀ t x vs, RT w (Excl B φ) t x vs → RT w' (Excl B φ) t x vs) → (∀ c v, Rep w (Excl B φ) φ c v → Rep w' (Excl B φ) φ c v) → BlkAt w' (Excl B φ) φ x k) {h' : Heap} (hp : Put h x (some k) h') : Fwd pr φ w φ w' ∧ HeapAt B G fr φ h' w' := by
  have F : Fwd pr φ w φ w' := ⟨ho', ht, hu', Nat.le_of_eq hs.symm, fun c hc hn => ho c fun e => (by have := hn n0 (e ▸ hb); rw [hpr] at this; cases this), fun n c hn => .inl ⟨n, hn, .inl rfl⟩, fun _ _ => .inl rfl⟩
  have hfam : ∀ y, famOf (h'.get y) = famOf (h.get y) := fun y => by
    rw [hp y]
    split
    · rename_i hy; rw [hf, hy, hx]
    · rfl
  refine ⟨F, H.step F (fun y k' hk' => ?_) (fun y z g h1 h2 => H.gen y z g (by rw [← hfam]; exact h1) (by rw [← hfam]; exact h2)) (fun y g h1 => ?_) H.inj (fun n c hc => ?_) fun y hy => ⟨(H.free y hy).1, fun z => by rw [hfam]; exact (H.free y hy).2 z⟩⟩
  · rw [hp y] at hk'
    split at hk'
    · rename_i hy
      subst hy
      injection hk' with hk'
      subst hk'
      exact .inr (hbl (fun t x vs h => F.keeps.rt h) fun c v hr => F.rep hr)
    · rename_i hy
      refine .inl ⟨hk', fun _ _ => rfl, fun n c hn hc => ho c fun e => ?_⟩
      subst e
      have := H.inj n n0 c hc hb
      subst this
      exact hy (uses_inj H hk' hx hn hu)
  · rw [hfam] at h1
    rw [hp g]
    split
    · rename_i hgx; subst hgx; exact absurd h1 (famOf_none H hx y)
    · exact H.gtop y g h1
  · have := H.lt n c hc; rw [hs]; exact this
def setL (cur : Array Value) (o : Nat) : List Value → Array Value
  | [] => cur
  | v :: r => setL (cur.setIfInBounds o v) (o + 1) r
theorem setL_size : ∀ (vs : List Value) (cur : Array Value) (o : Nat), (setL cur o vs).size = cur.size
  | [], cur, o => rfl
  | v :: r, cur, o => by simp [setL, setL_size r]
theorem setL_get : ∀ (vs : List Value) (cur : Array Value) (o i : Nat), o + vs.length ≤ cur.size → (setL cur o vs)[i]? = if o ≤ i ∧ i < o + vs.length then vs[i - o]? else cur[i]?
  | [], cur, o, i, h => by simp only [setL, List.length_nil]; rw [if_neg (by omega)]
  | v :: vs, cur, o, i, h => by
    simp only [List.length_cons] at h
    simp only [setL]
    rw [setL_get vs _ (o + 1) i (by simp; omega)]
    by_cases hi : i = o
    · subst hi
      rw [if_neg (by omega), if_pos ⟨by omega, by simp⟩]
      simp [show i < cur.size by omega]
    · by_cases h2 : o + 1 ≤ i ∧ i < o + 1 + vs.length
      · rw [if_pos h2, if_pos ⟨by omega, by simp; omega⟩, show i - o = (i - (o + 1)) + 1 from by omega]
        simp
      · rw [if_neg h2, if_neg (by simp; omega), Array.getElem?_setIfInBounds_ne (by omega)]
theorem putCells_get : ∀ (ds cs : List V) (off i : Nat), off + ds.length ≤ cs.length → (putCells cs off ds)[i]? = if off ≤ i ∧ i < off + ds.length then ds[i - off]? else cs[i]?
  | [], cs, off, i, h => by simp only [putCells, List.length_nil]; rw [if_neg (by omega)]
  | d :: ds, cs, off, i, h => by
    simp only [List.length_cons] at h
    simp only [putCells]
    rw [putCells_get ds (cs.set off d) (off + 1) i (by simp; omega)]
    by_cases hi : i = off
    · subst hi
      rw [if_neg (by omega), if_pos ⟨by omega, by simp⟩]
      simp [show i < cs.length by omega]
    · by_cases h2 : off + 1 ≤ i ∧ i < off + 1 + ds.length
      · rw [if_pos h2, if_pos ⟨by omega, by simp; omega⟩, show i - off = (i - (off + 1)) + 1 from by omega]
        simp
      · rw [if_neg h2, if_neg (by simp; omega), List.getElem?_set_ne (by omega)]
theorem putCells_len : ∀ (ds cs : List V) (off : Nat), (putCells cs off ds).length = cs.length
  | [], cs, off => rfl
  | d :: ds, cs, off => by simp [putCells, putCells_len ds]
def putVs (us : List Value) (o : Nat) (ds : List Value) : List Value := us.take o ++ ds ++ us.drop (o + ds.length)
theorem putVs_get {us ds : List Value} {o i : Nat} (h : o + ds.length ≤ us.length) : (putVs us o ds)[i]? = if o ≤ i ∧ i < o + ds.length then ds[i - o]? else us[i]? := by
  unfold putVs
  have hl : (us.take o).length = o := by simp; omega
  by_cases h1 : i < o
  · rw [if_neg (by omega), List.append_assoc, List.getElem?_append_left (by omega), List.getElem?_take, if_pos h1]
  · rw [List.append_assoc, List.getElem?_append_right (by omega), hl]
    by_cases h2 : i < o + ds.length
    · rw [if_pos ⟨by omega, h2⟩, List.getElem?_append_left (by omega)]
    · rw [if_neg (by omega), List.getElem?_append_right (by omega), List.getElem?_drop]
      congr 1; omega
theorem lw_put {X : Nat → Prop} {cs ds : List V} {us es : List Value} (h : LW w X φ cs us) (k : LW w X φ ds es) {o : Nat} (ho : o + ds.length ≤ cs.length) : LW w X φ (putCells cs o ds) (putVs us o es) := by
  have hk := k.1
  have hh := h.1
  refine ⟨?_, fun i c v g1 g2 => ?_⟩
  · rw [putCells_len]; unfold putVs; simp; omega
  · rw [putCells_get _ _ _ _ ho] at g1
    rw [putVs_get (by omega)] at g2
    by_cases hi : o ≤ i ∧ i < o + ds.length
    · rw [if_pos hi] at g1; rw [if_pos (by omega)] at g2; exact k.2 _ c v g1 g2
    · rw [if_neg hi] at g1; rw [if_neg (by omega)] at g2; exact h.2 _ c v g1 g2
theorem setCells_spec {b : Nat} {t : TypeId} {z : Nat × Nat} : ∀ (vs : List Value) (o : Nat) (w : World) (cur : Array Value), w.heap[b]? = some (.cells cur t z) →
    (w.setCells b o vs).heap.size = w.heap.size ∧ (∀ c, c ≠ b → (w.setCells b o vs).heap[c]? = w.heap[c]?) ∧ (w.setCells b o vs).os = w.os ∧ (w.setCells b o vs).tape = w.tape ∧ (w.setCells b o vs).output = w.output ∧ (w.setCells b o vs).heap[b]? = some (.cells (setL cur o vs) t z)
  | [], o, w, cur, h => ⟨rfl, fun _ _ => rfl, rfl, rfl, rfl, h⟩
  | v :: r, o, w, cur, h => by
    simp only [World.setCells, setL]
    rw [setCell_eq_setRow w b o cur t z v h]
    obtain ⟨h1, h2, h3, h4, h5, h6⟩ := setCells_spec r (o + 1) (w.setRow b (cur.setIfInBounds o v)) _ (setRow_heap w b cur _ t z h)
    exact ⟨h1.trans (by simp), fun c hc => (h2 c hc).trans (setRow_other w b c _ hc), h3, h4, h5, h6⟩
theorem storeCells_run {b : Nat} {vs : Array Value} {t : TypeId} {z : Nat × Nat} (hh : w.heap[b]? = some (.cells vs t z)) (hz : Open vs z) {off : Nat} {us : List Value} (hfit : off + us.length ≤ vs.size) (h1 : ∀ u ∈ us, u.oneCell' = true) :
    (storeCells ⟨b, off, none⟩ us).run P w = .ok () (w.setCells b off us) := by
  have := run_storeCells_cells (P := P) b off us 0 w (fun j hj => by rw [cell_of_heap hh]; simp; omega) (fun j hj => by
    have hzz := hz (off + 0 + j) (by omega)
    simp only [World.frozen?, hh]
    rw [Bool.eq_false_iff]
    intro hc
    simp only [Bool.and_eq_true, decide_eq_true_eq] at hc
    exact hzz hc) h1
  simpa using this
theorem storeVar_run {t : TypeId} {k : Nat} (hk : tSize P t = some k) {b off : Nat} {u : Value} (hu : u.cells.size = k) {w' : World} (hr : (storeCells ⟨b, off, none⟩ u.cells.toList).run P w = .ok () w') : (storeVar t ⟨b, off, none⟩ u).run P w = .ok () w' := by
  unfold storeVar
  simp only [Sem.run_bind, tSize_run hk, Result.andThen_ok, hu, ne_eq, not_true_eq_false, if_false, Sem.run_ite, ite_not]
  simpa using hr
def Does (P : Program) (N : Nat) (B : Nat → Prop) (G : Nat → Nat → Value → Prop) (U : Nat → Prop) (pr ks : Nat → Bool) (nx : Nat) (φ : Loc) (w : World) (a : Act) (o : Oper) (q : S → Option R) (res : R) : Prop :=
  ∀ Q : Exit → Act → World → Prop, o.wp P a w (After N B G U pr ks nx φ a w q res) Q
theorem does_value {o : Oper} {q : S → Option R} {u : Value} {w' : World} (hx : (execOp a.eval o).run P w = .ok (.value u) w') (h : After N B G U pr ks nx φ a w q res (a.put o.dst u) w') : Does P N B G U pr ks nx φ w a o q res := fun Q => by
  unfold Oper.wp
  rw [hx]
  exact h
theorem does_skip {o : Oper} {q : S → Option R} {w' : World} (hx : (execOp a.eval o).run P w = .ok .skip w') (h : After N B G U pr ks nx φ a w q res (a.put o.dst undef) w') : Does P N B G U pr ks nx φ w a o q res := fun Q => by
  unfold Oper.wp
  rw [hx]
  exact h
end
end Go.TM
namespace Go.TM
open Go.RowKit
theorem fold_set : ∀ (us : List Value) (j : Nat) (vs : Array Value) (off : Nat), off + j + us.length ≤ vs.size →
    ((us.zipIdx j).foldl (fun cs (p : Value × Nat) => cs.setIfInBounds (off + p.2) p.1) vs).size = vs.size ∧
    ∀ i, ((us.zipIdx j).foldl (fun cs (p : Value × Nat) => cs.setIfInBounds (off + p.2) p.1) vs)[i]? = if off + j ≤ i ∧ i < off + j + us.length then us[i - (off + j)]? else vs[i]?
  | [], j, vs, off, h => ⟨rfl, fun i => by simp only [List.zipIdx_nil, List.foldl_nil, List.length_nil]; rw [if_neg (by omega)]⟩
  | u :: us, j, vs, off, h => by
    simp only [List.length_cons] at h
    obtain ⟨h1, h2⟩ := fold_set us (j + 1) (vs.setIfInBounds (off + j) u) off (by simp; omega)
    simp only [List.zipIdx_cons, List.foldl_cons]
    refine ⟨by rw [h1]; simp, fun i => ?_⟩
    rw [h2 i]
    by_cases hi : i = off + j
    · subst hi
      rw [if_neg (by omega), if_pos ⟨by omega, by simp⟩]
      simp [show off + j < vs.size by omega]
    · by_cases hr : off + (j + 1) ≤ i ∧ i < off + (j + 1) + us.length
      · rw [if_pos hr, if_pos ⟨by omega, by simp; omega⟩]
        rw [show i - (off + j) = (i - (off + (j + 1))) + 1 from by omega]
        simp
      · rw [if_neg hr, if_neg (by simp; omega), Array.getElem?_setIfInBounds_ne (by omega)]
section
variable {P : Program} {ty : TypeId} {N : Nat} {B : Nat → Prop} {G : Nat → Nat → Value → Prop} {fr U : Nat → Prop} {φ : Loc} {a : Act} {w : World} {e : T V} {h : Heap} {nx : Nat} {pr ks : Nat → Bool} {R : Type} {res : R}
theorem row_write {l : Lc} {sz len : Nat} {Q : Nat → List Value → Prop} (hr : RowAt w l sz len Q) {u v : Value} (hu : l.hd = some u) {j c : Nat} (hel : EltAt sz j c u v) {ds : List Value} (hfit : c + ds.length ≤ sz) :
    ∃ b pos vs t z us, v = .pointer (some ⟨b, pos, none⟩) ∧ l.has b ∧ j < len ∧ Q j us ∧ us.length = sz ∧ w.heap[b]? = some (.cells vs t z) ∧ Open vs z ∧ pos + ds.length ≤ vs.size ∧
      ∀ (w' : World) (Q' : Nat → List Value → Prop), w'.heap[b]? = some (.cells (setL vs pos ds) t z) → (∀ i us, i ≠ j → i < len → Q i us → Q' i us) → Q' j (putVs us c ds) → RowAt w' l sz len Q' := by
  rcases hr with ⟨v', rfl, h1, h2⟩ | ⟨b, off, cap, vs, t, z, rfl, h2, h3, h4, h5, h6⟩
  · simp only [Lc.hd, Option.some.injEq] at hu
    subst hu
    obtain ⟨ad, m, cap, h3, _, h4, _⟩ := hel
    rcases h2 with rfl | ⟨ad', rfl⟩ <;> (injection h3 with h3 h5; omega)
  · simp only [Lc.hd, Option.some.injEq] at hu
    subst hu
    obtain ⟨ad, m, cap', h7, _, h8, h9⟩ := hel
    injection h7 with h7 h10 h11
    injection h7 with h7
    subst h7; subst h10; subst h11
    obtain ⟨us, g1, g2, g3⟩ := h6 j h8
    have hjm : (j + 1) * sz ≤ cap * sz := Nat.mul_le_mul_right _ (by omega)
    rw [Nat.add_mul] at hjm
    have hpos : off + j * sz + c + ds.length ≤ vs.size := by omega
    refine ⟨b, off + j * sz + c, vs, t, z, us, h9, rfl, h8, g1, g2, h3, h4, hpos, fun w' Q' hw' hq hqj => .inr ⟨b, off, cap, setL vs (off + j * sz + c) ds, t, z, rfl, h2, hw', ?_, by rw [setL_size]; exact h5, fun i hi => ?_⟩⟩
    · unfold Open; rw [setL_size]; exact h4
    · by_cases hij : i = j
      · subst hij
        have hle : c + ds.length ≤ us.length := by omega
        refine ⟨_, hqj, by unfold putVs; simp; omega, fun k x hx => ?_⟩
        rw [putVs_get hle] at hx
        rw [setL_get _ _ _ _ hpos]
        by_cases hk : c ≤ k ∧ k < c + ds.length
        · rw [if_pos hk] at hx
          rw [if_pos (by omega), show off + i * sz + k - (off + i * sz + c) = k - c from by omega]
          exact hx
        · rw [if_neg hk] at hx
          rw [if_neg (by omega)]
          exact g3 k x hx
      · obtain ⟨us', q1, q2, q3⟩ := h6 i hi
        refine ⟨us', hq i us' hij hi q1, q2, fun k x hx => ?_⟩
        have hk : k < sz := by rw [← q2]; exact (List.getElem?_eq_some_iff.1 hx).1
        rw [setL_get _ _ _ _ hpos, if_neg ?_]
        · exact q3 k x hx
        · rcases Nat.lt_or_ge i j with hlt | hge
          · have : (i + 1) * sz ≤ j * sz := Nat.mul_le_mul_right _ hlt
            rw [Nat.add_mul] at this
            omega
          · have : (j + 1) * sz ≤ i * sz := Nat.mul_le_mul_right _ (by omega)
            rw [Nat.add_mul] at this
            omega
theorem dropS_spec {ns : List Nat} {q : S → Option R} (hq : dropS ⟨e, h, nx, pr, ks⟩ ns q = some res) : (∀ n ∈ ns, pr n = false) ∧ ∃ h', Without h ns h' ∧ q ⟨e, h', nx, pr, ks⟩ = some res := dropN_spec hq
section ops
variable {o : Oper} {nm : Nat} {q : S → Option R}
theorem fill_lit (H : RelAt N B G fr φ ⟨e, h, nx, pr, ks⟩ a w) (el : TC) : ∀ (ps : List (Nat × Operand)) (n : Nat) (xs : List el.D) (ns : List Nat) (vs : Array Value), litT h e el n (tLits ps) = some (true, xs, ns) → (n + ps.length) * el.sz ≤ vs.size →
    xs.length = ps.length ∧ OkNs h ns ∧ ∃ us, Instr.fill (fun i => some (i * el.sz, el.sz)) vs (ps.map fun p => (p.1, a.eval p.2)) = some us ∧ us.size = vs.size ∧ (∀ i, i < n * el.sz → us[i]? = vs[i]?) ∧
      ∀ j x, xs[j]? = some x → ∃ cs, RT w (Wo B φ ns) el x cs ∧ ∀ (c : Nat) (u : Value), cs[c]? = some u → us[(n + j) * el.sz + c]? = some u
  | [], n, xs, ns, vs, hq, hs => by
    simp only [tLits, litT, Option.some.injEq, Prod.mk.injEq, true_and] at hq
    obtain ⟨rfl, rfl⟩ := hq
    exact ⟨rfl, okns_nil, vs, rfl, rfl, fun i _ => rfl, fun j x hx => by cases hx⟩
  | (i, x) :: ps, n, xs, ns, vs, hq, hs => by
    simp only [tLits, litT] at hq
    split at hq
    · rename_i c hi hx
      split at hq
      · rename_i p y ns1 hg
        split at hq
        · rename_i p2 ys ms hl
          simp only [Option.some.injEq, Prod.mk.injEq] at hq
          obtain ⟨hp, rfl, rfl⟩ := hq
          obtain ⟨rfl, rfl⟩ := andB_true hp
          obtain rfl := beq_true hi
          unfold grabC at hg
          split at hg
          · rename_i hone
            have hlw := rep_cells (H.opd hx) hone
            obtain ⟨hrt, hok1⟩ := grabT_all H.toHeapAt hg hlw
            have hvk : (a.eval x).cells.size = el.sz := by have := RT.len hrt; simpa using this
            have e1 : (i + (ps.length + 1)) * el.sz = i * el.sz + el.sz + ps.length * el.sz := by rw [Nat.add_mul, Nat.add_mul]; omega
            have e2 : (i + 1 + ps.length) * el.sz = i * el.sz + el.sz + ps.length * el.sz := by rw [Nat.add_mul, Nat.add_mul]; omega
            have e3 : (i + 1) * el.sz = i * el.sz + el.sz := by rw [Nat.add_mul]; omega
            simp only [List.length_cons, e1] at hs
            have hlen : (a.eval x).cells.toList.length = el.sz := by simpa using hvk
            obtain ⟨g1, g2⟩ := fold_set (a.eval x).cells.toList 0 vs (i * el.sz) (by rw [hlen]; omega)
            obtain ⟨q1, hok2, us, q2, q3, q4, q5⟩ := fill_lit H el ps (i + 1) ys ms _ hl (by rw [g1, e2]; omega)
            refine ⟨by simp [q1], okns_append hok1 hok2, us, ?_, by rw [q3, g1], fun m hm => ?_, fun j z hz => ?_⟩
            · simp only [List.map_cons, Instr.fill]
              rw [if_neg (by simp; omega)]
              rw [← q2]
              congr 1
              rw [← Array.foldl_toList]
              simp
            · rw [q4 m (by rw [e3]; omega), g2 m, if_neg (by omega)]
            · cases j with
              | zero =>
                simp only [List.getElem?_cons_zero, Option.some.injEq] at hz
                subst hz
                refine ⟨_, RT.mono (fun b hb => wo_mono (fun n hn => List.mem_append.2 (.inl hn)) hb) hrt, fun c u hu => ?_⟩
                have hc : c < el.sz := by rw [← hlen]; exact (List.getElem?_eq_some_iff.1 hu).1
                rw [Nat.add_zero, q4 (i * el.sz + c) (by rw [e3]; omega), g2, if_pos ⟨by omega, by omega⟩, show i * el.sz + c - (i * el.sz + 0) = c from by omega]
                exact hu
              | succ j =>
                obtain ⟨cs, h1, h2⟩ := q5 j z (by simpa using hz)
                refine ⟨cs, RT.mono (fun b hb => wo_mono (fun n hn => List.mem_append.2 (.inr hn)) hb) h1, fun c u hu => ?_⟩
                rw [← h2 c u hu, show i + (j + 1) = i + 1 + j from by omega]
          · cases hg
        · cases hq
      · cases hq
    · cases hq
theorem e_lit {t el' : TypeId} {len : Nat} {ps : Array (Nat × Operand)} (ho : o.op = .buildSlice t len ps) (ht : P.underlying t = some (.slice el')) {el : TC} {k : Nat} (hk : tSize P el' = some k) (hke : el.sz = k) {zr : Value} (hzr : ∀ w, (zeroValue el').run P w = .ok zr w) (hcap : len * k ≤ 16777216) (hk0 : 0 < k)
    (hU : U nm) (hnx : nm + 1 < nx) (hd : ∀ d, o.dst = some d → d < N)
    (hq : evLit ⟨e, h, nx, pr, ks⟩ nm o.dst el len (tLits ps.toList).length q (litT h e el 0 (tLits ps.toList)) = some res) (H : RelAt N B G (FR U nx) φ ⟨e, h, nx, pr, ks⟩ a w) : Does P N B G (Used U nm) pr ks nx φ w a o q res := by
  unfold evLit at hq
  split at hq
  · rename_i p xs ns hl
    split at hq
    · rename_i hc
      obtain ⟨hp0, hq2⟩ := need_some hq
      clear hq
      subst hp0
      have hq := hq2
      clear hq2
      obtain ⟨hpn, h1, hw1, hq⟩ := dropS_spec hq
      have hps : ps.toList.length = len := by rw [← beq_true hc, tLits_len]
      subst hke
      obtain ⟨q1, hok, us, q2, q3, q4, q5⟩ := fill_lit H el ps.toList 0 xs ns ((Array.range (len * el.sz)).map (zr.cells[· % zr.cells.size]!)) hl (by rw [hps]; simp)
      have hsz : us.size = len * el.sz := by rw [q3]; simp
      have hrun : (Instr.buildSlice t len (ps.map fun (i, x) => (i, a.eval x))).run P w = .ok (.slice (some ⟨w.heap.size, 0, none⟩) len len) (w.alloc (.cells us el')) := by
        have hq2 : Instr.fill (fun i => some (i * el.sz, el.sz)) ((Array.range (len * el.sz)).map (zr.cells[· % zr.cells.size]!)) (ps.map fun (i, x) => (i, a.eval x)).toList = some us := by
          rw [← q2]; simp
        unfold Instr.buildSlice
        simp only [Sem.run_bind, run_underlying ht, Result.andThen_ok, tSize_run hk]
        rw [if_neg (by omega)]
        by_cases h0 : len * el.sz = 0
        · have hr0 : (Array.range (len * el.sz)).map (zr.cells[· % zr.cells.size]!) = (Array.range (len * el.sz)).map ((#[] : Array Value)[· % (#[] : Array Value).size]!) := by
            rw [h0]; simp [Array.range_zero']
          rw [hr0] at hq2
          simp only [if_pos h0, Sem.run_bind, Sem.run_pure, Result.andThen_ok, hq2, newRow, run_newObj]
          simp
        · simp only [if_neg h0, Sem.run_bind, hzr, Sem.run_pure, Result.andThen_ok, hq2, newRow, run_newObj]
          simp
      obtain ⟨F, H1⟩ := H.kill hpn hok hw1
      have hex : Excl B (φ.kill ns) = Wo B φ ns := excl_kill φ ns
      obtain ⟨u, w', l, r1, r2, r3, r4, r5, r6, r7⟩ := (newArr (P := P) (B := B) (φ := φ.kill ns) (a := a) (w := w) (o := o) (nm := nm) (r := none) (xs := xs) (n := len) (vs := us) (by rw [q1, hps]) (by rw [hsz]; exact Nat.le_refl _) (fun j x hj => by
        obtain ⟨cs, g1, g2⟩ := q5 j x hj
        rw [hex]
        exact ⟨cs, g1, fun c u hu => by rw [← g2 c u hu, Nat.zero_add]⟩) (t := el') (by simp [execOp, ho, hrun]) : Comes P B (φ.kill ns) a w o nm none _ _)
      exact does_value r1 ((out_new H1 hU hnx r2 r3 r4 r5 r6 r7 hd hq).from F (Kept.refl _ _) (Nat.le_refl _))
    · cases hq
  · cases hq
theorem wrote (H : RelAt N B G (FR U nx) φ ⟨e, h, nx, pr, ks⟩ a w) (hd : ∀ d, o.dst = some d → d < N) {w' : World} {h' : Heap} (F : Fwd pr φ w φ w') (H' : HeapAt B G (FR U nx) φ h' w') (hx : (execOp a.eval o).run P w = .ok .skip w') (hq : void o.dst q ⟨e, h', nx, pr, ks⟩ = some res) : Does P N B G U pr ks nx φ w a o q res :=
  does_skip hx ((void_spec (H.step (pr'' := pr) (ks' := ks) (nx' := nx) F H') hd hq undef).from F (Kept.refl _ _) (Nat.le_refl _))
theorem ex_store {t : TypeId} {x y : Operand} (ho : o.op = .store t x y) {ad : Addr} (hx : a.eval x = .pointer (some ad)) {w' : World} (hr : (storeVar t ad (a.eval y)).run P w = .ok () w') : (execOp a.eval o).run P w = .ok .skip w' := by
  simp [execOp, ho, hx, Instr.storeAt, sureAddr_run, hr]
theorem e_storeB {t : TypeId} {x y : Operand} (ho : o.op = .store t x y) {k : Nat} (hk : tSize P t = some k) (hd : ∀ d, o.dst = some d → d < N) {z off : Nat} {c : V} (hx : TM.opd e (tOpd x) = some (.ptr z off)) (hy : TM.opd e (tOpd y) = some c)
    (hq : evStoreB ⟨e, h, nx, pr, ks⟩ o.dst z off k c q (h.get z) = some res) (H : RelAt N B G (FR U nx) φ ⟨e, h, nx, pr, ks⟩ a w) : Does P N B G U pr ks nx φ w a o q res := by
  unfold evStoreB at hq
  split at hq
  · rename_i cs hs
    split at hq
    · rename_i hc
      simp only [Bool.and_eq_true] at hc
      have h1 : off + k ≤ cs.length := ble_true hc.1.1
      have h2 : c.cells.length = k := beq_true hc.1.2
      obtain ⟨hpr, h', hp, hq⟩ := setB_spec hq
      obtain ⟨b, vs, t', zz, hb, hh, hop, hle, hv⟩ := H.st z _ hs
      obtain ⟨_, _, had⟩ := rep_ptr (H.opd hx)
      have hxv := had b hb
      have hlw := rep_cells (H.opd hy) hc.2
      have hul : (a.eval y).cells.toList.length = k := by rw [← hlw.1, h2]
      have hfit : off + (a.eval y).cells.toList.length ≤ vs.size := by omega
      obtain ⟨g1, g2, g3, g4, g5, g6⟩ := setCells_spec (a.eval y).cells.toList off w vs hh
      obtain ⟨F, H'⟩ := H.toHeapAt.wr hs (n0 := (z, 0)) rfl hpr (b := b) (by rw [hb]; rfl) g1 g2 g3 g4 g5 (k := .box (putCells cs off c.cells)) rfl (fun hrt hrep => ⟨b, _, t', zz, hb, g6, by unfold Open; rw [setL_size]; exact hop, by rw [setL_size, putCells_len]; exact hle, fun i c' v h3 h4 => by
        rw [putCells_get _ _ _ _ (by omega)] at h3
        rw [setL_get _ _ _ _ hfit] at h4
        by_cases hi : off ≤ i ∧ i < off + c.cells.length
        · rw [if_pos hi] at h3
          rw [if_pos (by omega)] at h4
          have := hlw.2 _ _ _ h3 h4
          exact ⟨hrep _ _ this.1, this.2⟩
        · rw [if_neg hi] at h3
          rw [if_neg (by omega)] at h4
          have := hv _ _ _ h3 h4
          exact ⟨hrep _ _ this.1, this.2⟩⟩) hp
      exact wrote H hd F H' (ex_store ho hxv (storeVar_run hk (by simpa using hul) (storeCells_run hh hop hfit hlw.one))) hq
    · cases hq
  · cases hq
theorem newCells_lw {X : Nat → Prop} {el : TC} {x : el.D} {us : List Value} (hx : RT w X el x us) {c k : Nat} {new : List V} {ds : List Value} (hn : LW w X φ new ds) (hk : new.length = k) (hfit : c + k ≤ el.sz) : LW w X φ (newCells el x c k new) (putVs us c ds) := by
  unfold newCells
  split
  · rename_i hb
    have hb := beq_true hb
    have : putVs us 0 ds = ds := by
      unfold putVs
      have h1 := RT.len hx
      have h2 := hn.1
      simp only [List.take_zero, List.nil_append, Nat.zero_add]
      rw [List.drop_eq_nil_of_le (by omega), List.append_nil]
    rw [this]
    exact hn
  · exact lw_put (RT.cells hx) hn (by rw [cellsOf_len]; omega)
theorem e_storeT {t : TypeId} {x y : Operand} (ho : o.op = .store t x y) {k : Nat} (hk : tSize P t = some k) (hd : ∀ d, o.dst = some d → d < N) {z sz j c : Nat} {v : V} (hx : TM.opd e (tOpd x) = some (.elt (.top z) sz j c)) (hy : TM.opd e (tOpd y) = some v) {el : TC} {xs : List el.D} (hs : h.get z = some (.arr el xs))
    (hsz : sz = el.sz) (hck : c + k ≤ sz) (hvk : v.cells.length = k) (hone : allOne v.cells = true) (hq : setE ⟨e, h, nx, pr, ks⟩ o.dst z el xs j q (grabT h el (newCells el (xs.getD j el.dft) c k v.cells)) = some res) (H : RelAt N B G (FR U nx) φ ⟨e, h, nx, pr, ks⟩ a w) : Does P N B G U pr ks nx φ w a o q res := by
  unfold setE at hq
  split at hq
  · rename_i p y' ns hg
    split at hq
    · cases hq
    · rename_i hmem
      obtain ⟨hp0, hq2⟩ := need_some hq
      clear hq
      subst hp0
      have hq := hq2
      clear hq2
      obtain ⟨hpn, h1, hw1, hq⟩ := dropS_spec hq
      obtain ⟨hpr, h2, hp2, hq⟩ := setB_spec hq
      subst hsz
      have hzn : z ∉ ns := memN_not hmem
      obtain ⟨_, hd0, hok, hel⟩ := rep_elt (H.opd hx)
      have hA : ArrAt w (Excl B φ) (φ (z, 0)) el xs := H.st z _ hs
      obtain ⟨u0, hu0, _⟩ := row_hd hA
      have hlw := rep_cells (H.opd hy) hone
      have hul : (a.eval y).cells.toList.length = k := by rw [← hlw.1, hvk]
      obtain ⟨b, pos, vs, t', zz, us, hxv, hb, hj, hQ, husl, hh, hop, hfit, hW⟩ := row_write hA hu0 (hel u0 hu0) (ds := (a.eval y).cells.toList) (by rw [hul]; exact hck)
      have hrt := hQ _ (getD_lt (d := el.dft) hj)
      obtain ⟨hnew, hokn⟩ := grabT_all H.toHeapAt hg (newCells_lw hrt hlw hvk hck)
      obtain ⟨F1, H1⟩ := H.kill hpn hokn hw1
      have hs1 : h1.get z = some (.arr el xs) := by rw [hw1 z, if_neg hzn]; exact hs
      have hφz : φ.kill ns (z, 0) = φ (z, 0) := φ.kill_out hzn
      obtain ⟨g1, g2, g3, g4, g5, g6⟩ := setCells_spec (a.eval y).cells.toList pos w vs hh
      obtain ⟨F, H'⟩ := H1.toHeapAt.wr hs1 (n0 := (z, 0)) rfl hpr (b := b) (by rw [hφz]; exact hb) g1 g2 g3 g4 g5 (k := .arr el (xs.set j y')) rfl (fun hrt' hrep => by
        show ArrAt _ _ (φ.kill ns (z, 0)) el (xs.set j y')
        rw [hφz]
        unfold ArrAt
        rw [List.length_set]
        refine hW _ _ g6 (fun i us' hij hi hq' x' hx' => ?_) fun x' hx' => ?_
        · rw [List.getElem?_set_ne (Ne.symm hij)] at hx'
          exact hrt' _ _ _ (by rw [excl_kill]; exact RT.mono (fun b hb => wo_sub hb) (hq' x' hx'))
        · have : x' = y' := by simpa [List.getElem?_set, hj] using hx'.symm
          subst this
          exact hrt' _ _ _ (by rw [excl_kill]; exact hnew)) hp2
      have := wrote (P := P) (o := o) H1 hd F H' (ex_store ho hxv (storeVar_run hk (by simpa using hul) (storeCells_run hh hop hfit hlw.one))) hq
      exact fun Q => Oper.wp_mono (fun a' w' hh => hh.from F1 (Kept.refl _ _) (Nat.le_refl _)) (this Q)
  · cases hq
end ops
end
end Go.TM
namespace Go.TM
open Go.RowKit
def T.flt {α : Type} (f : Nat → Bool) : T α → T α
  | .e => .e
  | .n l v r => .n (l.flt fun i => f (2 * i + 1)) (match f 0 with | true => v | false => none) (r.flt fun i => f (2 * i + 2))
theorem flt_get {α : Type} : ∀ (t : T α) (f : Nat → Bool) (k : Nat), (t.flt f).get k = if f k = true then t.get k else none
  | .e, f, k => by simp [T.flt, T.get_e]
  | .n l v r, f, k => by
    simp only [T.flt]
    rw [get_n, get_n]
    by_cases h0 : k = 0
    · subst h0
      simp only [if_true]
      cases f 0 <;> rfl
    · rw [if_neg h0, if_neg h0]
      by_cases h1 : (k - 1) % 2 = 0
      · rw [if_pos h1, if_pos h1, flt_get l, show 2 * ((k - 1) / 2) + 1 = k from by omega]
      · rw [if_neg h1, if_neg h1, flt_get r, show 2 * ((k - 1) / 2) + 2 = k from by omega]
section
variable {P : Program} {ty : TypeId} {N : Nat} {B : Nat → Prop} {G : Nat → Nat → Value → Prop} {fr U : Nat → Prop} {φ : Loc} {a : Act} {w : World} {e : T V} {h : Heap} {nx : Nat} {pr ks : Nat → Bool} {R : Type} {res : R}
theorem arr_keep {w' : World} {X X' : Nat → Prop} (hrt : ∀ t x vs, RT w X t x vs → RT w' X' t x vs) {l : Lc} (hb : ∀ b, l.has b → w'.heap[b]? = w.heap[b]?) {e : TC} {xs : List e.D} (h : ArrAt w X l e xs) : ArrAt w' X' l e xs :=
  RowAt.same hb (fun j us _ h x hx => hrt _ _ _ (h x hx)) h
theorem mem_keep {w' : World} {X X' : Nat → Prop} (hrt : ∀ t x vs, RT w X t x vs → RT w' X' t x vs) {l : Lc} (hb : ∀ b, l.has b → w'.heap[b]? = w.heap[b]?) {c : FC} {x : c.D} (h : MemAt w X l c x) : MemAt w' X' l c x := by
  cases c with
  | row e =>
    obtain ⟨xs, o⟩ := x
    match o with
    | 0 => obtain ⟨v, h1, h2⟩ := (show ∃ v, l = .val v ∧ RT w X (.sl e) xs [v] from h); exact ⟨v, h1, hrt _ _ _ h2⟩
    | 1 => exact arr_keep hrt hb (show ArrAt w X l e xs from h)
    | _ + 2 => exact h
  | chan => exact Keeps.chan hb (show ChanAt w l x.1 x.2 from h)
theorem HeapAt.mv1 (H : HeapAt B G fr φ h w) {ns wn ds : List Nat} {x : Nat} {kx : Blk} (hp : ∀ n ∈ ns, pr n = false) (hpw : ∀ n ∈ wn, pr n = false) {h' : Heap} (hch : ∀ y, h'.get y = if y = x then some kx else if y ∈ ds then none else h.get y)
    (huse : ∀ y k, y ≠ x → y ∉ ds → h.get y = some k → ∀ n, Uses y k n → n.1 ∉ ns ∧ n.1 ∉ wn)
    {Fp : Nat → Prop} (hF : ∀ x, Fp x → fr x) {φ' : Loc} (hout : ∀ n, ¬ Fp n.1 → φ' n = φ.kill ns n) {w' : World} (hs : w.heap.size ≤ w'.heap.size) (hb : ∀ b, b < w.heap.size → (∀ m, (φ m).has b → m.1 ∉ ns ∧ m.1 ∉ wn) → w'.heap[b]? = w.heap[b]?)
    (ho : w'.os = w.os) (ht : w'.tape = w.tape) (hu : w'.output = w.output) (hL : ∀ n b, Fp n.1 → (φ' n).has b → (∃ m, m.1 ∈ ns ∧ (φ m).has b) ∨ (w.heap.size ≤ b ∧ b < w'.heap.size)) (hinj : ∀ n m b, Fp n.1 → Fp m.1 → (φ' n).has b → (φ' m).has b → n = m)
    (hxg : ∀ y, y ≠ x → famOf (h.get y) ≠ some x) (hg : ∀ g, famOf (some kx) = some g → ((fr g ∧ Fp g) ∨ famOf (h.get x) = some g) ∧ g ≠ x)
    (hbl : (∀ t x vs, RT w (Excl B φ) t x vs → RT w' (Excl B φ') t x vs) → (∀ c v, Rep w (Excl B φ) φ c v → Rep w' (Excl B φ') φ' c v) → BlkAt w' (Excl B φ') φ' x kx) :
    Fwd pr φ w φ' w' ∧ HeapAt B G (fun x => fr x ∧ ¬ Fp x) φ' h' w' := by
  classical
  have hget : ∀ y, (h.flt fun y => decide (y ≠ x ∧ y ∉ ds)).get y = if y ≠ x ∧ y ∉ ds then h.get y else none := fun y => by rw [flt_get]; simp only [decide_eq_true_eq]
  obtain ⟨F, H1⟩ := H.mv (h1 := h.flt fun y => decide (y ≠ x ∧ y ∉ ds)) hp hpw (fun y k hk => by
    rw [hget] at hk
    split at hk
    · rename_i hy; exact ⟨hk, huse y k hy.1 hy.2 hk⟩
    · cases hk) hF hout hs hb ho ht hu hL hinj
  have hfam : ∀ {y g}, famOf ((h.flt fun y => decide (y ≠ x ∧ y ∉ ds)).get y) = some g → y ≠ x ∧ famOf (h.get y) = some g := fun {y g} hy => by
    rw [hget] at hy
    split at hy
    · rename_i hyx; exact ⟨hyx.1, hy⟩
    · cases hy
  refine ⟨F, H1.add' (hbl (fun t x vs h => F.keeps.rt h) fun c v hr => F.rep hr) (fun y hy => hxg y (hfam hy).1 (hfam hy).2) (fun g hgk => ?_) fun y => ?_⟩
  · obtain ⟨h1, h2⟩ := hg g hgk
    refine ⟨fun y hyx hy => ?_, ?_, h2, fun hfr => ?_⟩
    · rcases h1 with ⟨h1, _⟩ | h1
      · exact (H.free g h1).2 y (hfam hy).2
      · exact hyx (H.gen y x g (hfam hy).2 h1)
    · rw [hget]
      split
      · rcases h1 with ⟨h1, _⟩ | h1
        · exact H.noKey h1
        · exact H.gtop x g h1
      · rfl
    · rcases h1 with ⟨_, h1⟩ | h1
      · exact hfr.2 h1
      · exact (H.free g hfr.1).2 x h1
  · rw [hch y, hget]
    by_cases hyx : y = x
    · simp [hyx]
    · by_cases hyd : y ∈ ds
      · simp [hyx, hyd]
      · simp [hyx, hyd]
section ops
variable {o : Oper} {nm : Nat} {q : S → Option R}
theorem e_storeR {t : TypeId} {x y : Operand} (ho : o.op = .store t x y) {k : Nat} (hk : tSize P t = some k) (hd : ∀ d, o.dst = some d → d < N) {z g j sz i c : Nat} {v : V} (hx : TM.opd e (tOpd x) = some (.elt (.mem z g j) sz i c)) (hy : TM.opd e (tOpd y) = some v) {el : TC} {xs : List (FC.row el).D} (hs : h.get z = some (.fam (.row el) g xs))
    (hsz : sz = el.sz) (hck : c + k ≤ sz) (hvk : v.cells.length = k) (hone : allOne v.cells = true) (hq : setR ⟨e, h, nx, pr, ks⟩ o.dst z el g xs j i q (grabT h el (newCells el ((xs.getD j ([], 0)).1.getD i el.dft) c k v.cells)) = some res) (H : RelAt N B G (FR U nx) φ ⟨e, h, nx, pr, ks⟩ a w) : Does P N B G U pr ks nx φ w a o q res := by
  unfold setR at hq
  split at hq
  · rename_i p y' hg
    dsimp only at hq
    split at hq
    · cases hq
    · rename_i hprg
      obtain ⟨hp0, hq2⟩ := need_some hq
      obtain ⟨hp1, hfl⟩ := andB_true hp0
      have hfl := beq_true hfl
      obtain ⟨hpr, h2, hp2, hq⟩ := setB_spec hq2
      subst hsz
      rw [hp1] at hg
      obtain ⟨_, hd0, hok, hel⟩ := rep_elt (H.opd hx)
      have hB := H.st z _ hs
      have hj := fam_lt hB hok
      have hm := hB.2 j _ (getD_lt (d := ([], 0)) hj)
      have hA : ArrAt w (Excl B φ) (φ (g, j + 1)) el (xs.getD j ([], 0)).1 := by
        revert hm hfl
        generalize xs.getD j ([], 0) = yy
        obtain ⟨ys, fl⟩ := yy
        rintro rfl hm
        exact hm
      obtain ⟨u0, hu0, _⟩ := row_hd hA
      have hlw := rep_cells (H.opd hy) hone
      have hul : (a.eval y).cells.toList.length = k := by rw [← hlw.1, hvk]
      obtain ⟨b, pos, vs, t', zz, us, hxv, hb, hi, hQ, husl, hh, hop, hfit, hW⟩ := row_write hA hu0 (hel u0 hu0) (ds := (a.eval y).cells.toList) (by rw [hul]; exact hck)
      have hrt := hQ _ (getD_lt (d := el.dft) hi)
      obtain ⟨hnew, _⟩ := grabT_all H.toHeapAt hg (newCells_lw hrt hlw hvk hck)
      rw [wo_nil] at hnew
      obtain ⟨g1, g2, g3, g4, g5, g6⟩ := setCells_spec (a.eval y).cells.toList pos w vs hh
      have hoth : ∀ n b', n ≠ (g, j + 1) → (φ n).has b' → (w.setCells b pos (a.eval y).cells.toList).heap[b']? = w.heap[b']? := fun n b' hn hb' => g2 b' fun e => by
        subst e; exact hn (H.inj _ _ _ hb' hb)
      obtain ⟨F, H'⟩ := H.toHeapAt.wr hs (n0 := (g, j + 1)) (.inr ⟨j, hj, rfl⟩) hprg (b := b) hb g1 g2 g3 g4 g5 (k := .fam (.row el) g (xs.set j ((xs.getD j ([], 0)).1.set i y', 1))) rfl (fun hrt' hrep => by
        refine ⟨?_, fun j' yy hj' => ?_⟩
        · rw [List.length_set]
          exact RowAt.same (fun b' hb' => hoth (z, 0) b' (fun e => by injection e with e1 e2; omega) hb') (fun _ _ _ hq' => hq') hB.1
        · by_cases hjj : j' = j
          · subst hjj
            have : yy = ((xs.getD j' ([], 0)).1.set i y', 1) := by simpa [List.getElem?_set, hj] using hj'.symm
            subst this
            show ArrAt _ _ (φ (g, j' + 1)) el ((xs.getD j' ([], 0)).1.set i y')
            unfold ArrAt
            rw [List.length_set]
            refine hW _ _ g6 (fun i' us' hij hi' hq' x' hx' => ?_) fun x' hx' => ?_
            · rw [List.getElem?_set_ne (Ne.symm hij)] at hx'
              exact hrt' _ _ _ (hq' x' hx')
            · have : x' = y' := by
                have h9 : i < (xs.getD j' ([], 0)).1.length := hi
                rw [List.getElem?_set, if_pos rfl, if_pos h9] at hx'
                injection hx' with hx'
                exact hx'.symm
              subst this
              exact hrt' _ _ _ hnew
          · rw [List.getElem?_set_ne (Ne.symm hjj)] at hj'
            exact mem_keep hrt' (fun b' hb' => hoth (g, j' + 1) b' (fun e => by injection e with e1 e2; omega) hb') (hB.2 j' yy hj')) hp2
      exact wrote H hd F H' (ex_store ho hxv (storeVar_run hk (by simpa using hul) (storeCells_run hh hop hfit hlw.one))) hq
  · cases hq
theorem sub_row {X : Nat → Prop} {l : Lc} {el : TC} {ys : List el.D} (hA : ArrAt w X l el ys) {u v : Value} (hu : l.hd = some u) {lo n : Nat} (hs : SubAt el.sz lo n u v) : ∃ l', l'.hd = some v ∧ (∀ b, l'.has b → l.has b) ∧ ArrAt w X l' el ((ys.drop lo).take n) := by
  obtain ⟨hd, m, cap, ad, g1, g2, g3, g4, g5, g6⟩ := hs
  have empty : n = 0 → cap - lo = 0 → ∃ l' : Lc, l'.hd = some v ∧ (∀ b, l'.has b → l.has b) ∧ ArrAt w X l' el ((ys.drop lo).take n) := fun hn hc => by
    refine ⟨.val v, rfl, fun b hb => hb.elim, .inl ⟨v, rfl, by simp [hn], ?_⟩⟩
    rw [g3, hn, hc]
    cases ad with
    | none => exact .inl rfl
    | some ad => exact .inr ⟨ad, rfl⟩
  rcases hA with ⟨v', rfl, h1, h2⟩ | ⟨b, off, cap', vs, t, z, rfl, h2, h3, h4, h5, h6⟩
  · simp only [Lc.hd, Option.some.injEq] at hu
    subst hu
    have : m = 0 ∧ cap = 0 := by rcases h2 with rfl | ⟨ad', rfl⟩ <;> (injection g1 with e1 e2 e3; exact ⟨e2.symm, e3.symm⟩)
    exact empty (by omega) (by omega)
  · simp only [Lc.hd, Option.some.injEq] at hu
    subst hu
    injection g1 with e1 e2 e3
    subst e1; subst e2; subst e3
    rcases Nat.eq_zero_or_pos (cap' - lo) with h0 | h0
    · exact empty (by omega) h0
    · have hmul : cap' * el.sz = lo * el.sz + (cap' - lo) * el.sz := by rw [← Nat.add_mul]; congr 1; omega
      have hlen : ((ys.drop lo).take n).length = n := by simp; omega
      refine ⟨.at_ b (off + lo * el.sz) n (cap' - lo), by rw [g3, g5 h0 _ rfl rfl]; rfl, fun c hc => hc, .inr ⟨b, off + lo * el.sz, cap' - lo, vs, t, z, by rw [hlen], by rw [hlen]; omega, h3, h4, by omega, fun j hj => ?_⟩⟩
      rw [hlen] at hj
      obtain ⟨us, q1, q2, q3⟩ := h6 (lo + j) (by omega)
      refine ⟨us, fun x hx => q1 x ?_, q2, fun c u hu => ?_⟩
      · rw [List.getElem?_take, if_pos hj, List.getElem?_drop] at hx; exact hx
      · rw [← q3 c u hu, Nat.add_mul]; congr 1; omega
theorem e_setM {t : TypeId} {x y : Operand} (ho : o.op = .store t x y) (hk : tSize P t = some 1) (hd : ∀ d, o.dst = some d → d < N) {z j : Nat} (hx : TM.opd e (tOpd x) = some (.elt (.top z) 1 j 0)) {el : TC} {g : Nat} {xs : List (FC.row el).D} (hs : h.get z = some (.fam (.row el) g xs))
    {ds : List Nat} (hds : ∀ y ∈ ds, y ≠ z ∧ ∃ k, h.get y = some k ∧ famOf (some k) = none) (hprd : ∀ y ∈ ds, pr y = false) {L : Lc} {yy : (FC.row el).D} (hone : (a.eval y).oneCell' = true) (hLv : L.hd = some (a.eval y)) (hLb : ∀ b, L.has b → ∃ m, (φ m).has b ∧ (m = (g, j + 1) ∨ m.1 ∈ ds)) (hLm : MemAt w (Excl B φ) L (.row el) yy) {h1 : Heap} (hw1 : Without h ds h1)
    (hU' : U (nm + 1)) (hq : setM ⟨e, h1, nx, pr, ks⟩ nm o.dst z el g xs j yy q = some res) (H : RelAt N B G (FR U nx) φ ⟨e, h, nx, pr, ks⟩ a w) (hnx : nm + 1 < nx) : Does P N B G (Used U nm) pr ks nx φ w a o q res := by
  unfold setM at hq
  dsimp only at hq
  split at hq
  · cases hq
  · rename_i hprg
    obtain ⟨hpr, h2, hp2, hq⟩ := setB_spec hq
    obtain ⟨_, hd0, hok, hel⟩ := rep_elt (H.opd hx)
    have hB := H.st z _ hs
    obtain ⟨u0, hu0, _⟩ := row_hd hB.1
    obtain ⟨b, pos, vs, t', zz, us, hxv, hb, hj, hQ, husl, hh, hop, hfit, hW⟩ := row_write hB.1 hu0 (hel u0 hu0) (ds := [a.eval y]) (by simp)
    obtain ⟨g1, g2, g3, g4, g5, g6⟩ := setCells_spec [a.eval y] pos w vs hh
    have hzg : z ≠ g := fun e => by have := H.gtop z g (by rw [hs]; rfl); rw [← e, hs] at this; cases this
    have hzd : z ∉ ds := fun hz => (hds z hz).1 rfl
    have hgd : g ∉ ds := fun hg => by obtain ⟨_, k, hk, _⟩ := hds g hg; have := H.gtop z g (by rw [hs]; rfl); rw [hk] at this; cases this
    let φ' : Loc := fun n => if n.1 = nm + 1 then (match n.2 with | 0 => .free | i + 1 => if i = j then L else φ (g, i + 1)) else φ.kill (g :: ds) n
    have p0 : φ' (nm + 1, 0) = .free := by simp [φ']
    have pj : φ' (nm + 1, j + 1) = L := by simp [φ']
    have pi : ∀ i, i ≠ j → φ' (nm + 1, i + 1) = φ (g, i + 1) := fun i hi => by simp [φ', hi]
    have po : ∀ n : Nm, ¬ n.1 = nm + 1 → φ' n = φ.kill (g :: ds) n := fun n hn => by simp [φ', hn]
    have hznm : ¬ z = nm + 1 := fun e => by
      have := (H.free (nm + 1) (.inl hU')).1 0
      have hl := (hB.live (n := (z, 0)) (.inl rfl)).1
      rw [e] at hl; exact hl this
    have pz : φ' (z, 0) = φ (z, 0) := by rw [po _ hznm]; exact φ.kill_out (by simp [hzg, hzd])
    have hnot : ∀ n, n ≠ (z, 0) → ∀ b', (φ n).has b' → (w.setCells b pos [a.eval y]).heap[b']? = w.heap[b']? := fun n hn b' hb' => g2 b' fun e => by subst e; exact hn (H.inj _ _ _ hb' hb)
    have hch : ∀ y', h2.get y' = if y' = z then some (.fam (.row el) (nm + 1) (xs.set j yy)) else if y' ∈ ds then none else h.get y' := fun y' => by
      rw [hp2 y', hw1 y']
    have members : ∀ n b', n.1 = nm + 1 → (φ' n).has b' → ∃ i, n = (nm + 1, i + 1) ∧ ((i = j ∧ L.has b') ∨ (i ≠ j ∧ (φ (g, i + 1)).has b')) := fun n b' hn hh' => by
      obtain ⟨n1, n2⟩ := n
      have hn : n1 = nm + 1 := hn
      subst hn
      cases n2 with
      | zero => rw [p0] at hh'; exact hh'.elim
      | succ i =>
        by_cases hi : i = j
        · subst hi; rw [pj] at hh'; exact ⟨i, rfl, .inl ⟨rfl, hh'⟩⟩
        · rw [pi i hi] at hh'; exact ⟨i, rfl, .inr ⟨hi, hh'⟩⟩
    obtain ⟨F, H'⟩ := H.toHeapAt.mv1 (ns := g :: ds) (wn := [z]) (ds := ds) (x := z) (kx := .fam (.row el) (nm + 1) (xs.set j yy)) (h' := h2) (Fp := fun x => x = nm + 1) (φ' := φ') (w' := w.setCells b pos [a.eval y]) (pr := pr)
      (fun n hn => by rcases List.mem_cons.1 hn with rfl | hn; exact hprg; exact hprd n hn) (fun n hn => by simp only [List.mem_singleton] at hn; subst hn; exact hpr) hch
      (fun y' k hy hyd hk n hn => by
        have huz : ¬ Uses z (.fam (.row el) g xs) n := fun hu => hy (uses_inj H.toHeapAt hk hs hn hu)
        cases k with
        | fam c g' ys =>
          have hgg : g' ≠ g := fun e => hy (H.gen y' z g (by rw [hk, e]; rfl) (by rw [hs]; rfl))
          have hgz : g' ≠ z := fun e => by have := H.gtop y' g' (by rw [hk]; rfl); rw [e, hs] at this; cases this
          have hgd' : g' ∉ ds := fun hg => by obtain ⟨_, k, hk', _⟩ := hds g' hg; have := H.gtop y' g' (by rw [hk]; rfl); rw [hk'] at this; cases this
          have hyg : y' ≠ g := fun e => by have := H.gtop z g (by rw [hs]; rfl); rw [← e, hk] at this; cases this
          rcases hn with rfl | ⟨j', hj', rfl⟩
          · exact ⟨by simp [hyg, hyd], by simp [hy]⟩
          · exact ⟨by simp [hgg, hgd'], by simp [hgz]⟩
        | _ =>
          have hyg : y' ≠ g := fun e => by have := H.gtop z g (by rw [hs]; rfl); rw [← e, hk] at this; cases this
          rw [show n = (y', 0) from hn]
          exact ⟨by simp [hyg, hyd], by simp [hy]⟩)
      (fun x hx => by rw [hx]; exact .inl hU') po (Nat.le_of_eq g1.symm)
      (fun b' hlt hn => by
        by_cases he : b' = b
        · subst he; exact absurd (by simp) (hn (z, 0) hb).2
        · exact g2 b' he) g3 g4 g5
      (fun n b' hn hh' => by
        obtain ⟨i, rfl, ⟨_, hl⟩ | ⟨_, hl⟩⟩ := members n b' hn hh'
        · obtain ⟨m, h3, rfl | h3'⟩ := hLb b' hl
          · exact .inl ⟨_, by simp, h3⟩
          · exact .inl ⟨m, by simp [h3'], h3⟩
        · exact .inl ⟨_, by simp, hl⟩)
      (fun n m b' hn hm hh1 hh2 => by
        obtain ⟨i, rfl, hi⟩ := members n b' hn hh1
        obtain ⟨i', rfl, hi'⟩ := members m b' hm hh2
        have cross : ∀ {i0 : Nat}, i0 ≠ j → L.has b' → (φ (g, i0 + 1)).has b' → False := fun {i0} hne hl hg => by
          obtain ⟨m, h3, rfl | h3'⟩ := hLb b' hl
          · have := H.inj _ _ _ h3 hg; injection this with _ h; omega
          · have := H.inj _ _ _ h3 hg; subst this; exact hgd h3'
        rcases hi with ⟨rfl, hl⟩ | ⟨hne, hl⟩ <;> rcases hi' with ⟨rfl, hl'⟩ | ⟨hne', hl'⟩
        · rfl
        · exact (cross hne' hl hl').elim
        · exact (cross hne hl' hl).elim
        · have := H.inj _ _ _ hl hl'; injection this with _ h; rw [h])
      (fun y' _ hy => famOf_none H.toHeapAt hs y' hy)
      (fun g' hg' => by
        simp only [famOf, Option.some.injEq] at hg'
        subst hg'
        exact ⟨.inl ⟨.inl hU', rfl⟩, fun e => hznm e.symm⟩)
      (fun hrt hrep => by
        refine ⟨?_, fun i y' hi => ?_⟩
        · rw [List.length_set, pz]
          refine hW _ _ g6 (fun i us' hij hi ⟨v, h3, h4⟩ => ⟨v, h3, ?_⟩) ⟨a.eval y, ?_, ?_⟩
          · rw [pi i hij]; exact h4
          · obtain ⟨v, h3, _⟩ := hQ
            rw [h3]; rfl
          · rw [pj]; exact hLv
        · by_cases hij : i = j
          · subst hij
            have : y' = yy := by
              rw [List.getElem?_set, if_pos rfl, if_pos hj] at hi
              injection hi with hi
              exact hi.symm
            subst this
            rw [pj]
            refine mem_keep hrt (fun b' hb' => ?_) hLm
            obtain ⟨m, h3, h4⟩ := hLb b' hb'
            refine hnot m (fun e => ?_) b' h3
            rcases h4 with rfl | h4
            · injection e with e1 e2; omega
            · rw [e] at h4; exact hzd h4
          · rw [List.getElem?_set_ne (Ne.symm hij)] at hi
            rw [pi i hij]
            exact mem_keep hrt (fun b' hb' => hnot _ (fun e => by injection e with e1 e2; omega) b' hb') (hB.2 i y' hi)) 
    have hst : (storeVar t ⟨b, pos, none⟩ (a.eval y)).run P w = .ok () (w.setCells b pos [a.eval y]) := by
      have hc : (a.eval y).cells = #[a.eval y] := by cases hv : a.eval y <;> rw [hv] at hone <;> first | rfl | cases hone
      refine storeVar_run hk (by rw [hc]; rfl) ?_
      rw [hc]
      exact storeCells_run hh hop hfit (by simpa using hone)
    refine does_skip (ex_store ho hxv hst) ((void_spec (U := Used U nm) ((H.step (pr'' := pr) (ks' := ks) (nx' := nx) F H').less fun x hx => ?_) hd hq undef).from F (Kept.refl _ _) (Nat.le_refl _))
    rcases hx with ⟨hx, h3, h4⟩ | hx
    · exact ⟨.inl hx, h4⟩
    · exact ⟨.inr hx, by omega⟩
end ops
end
end Go.TM
namespace Go.TM
open Go.RowKit
section
variable {P : Program} {ty : TypeId} {N : Nat} {B : Nat → Prop} {G : Nat → Nat → Value → Prop} {fr U : Nat → Prop} {φ : Loc} {a : Act} {w : World} {e : T V} {h : Heap} {nx : Nat} {pr ks : Nat → Bool} {R : Type} {res : R}
def Rd (w : World) (X : Nat → Prop) (e : TC) (ys : List e.D) (v : Value) : Prop := ∃ hd cap, v = .slice hd ys.length cap ∧ ys.length ≤ cap ∧ (hd = none → cap = 0) ∧
  ∀ j x, ys[j]? = some x → ∃ ad us, hd = some ad ∧ ad.spot = none ∧ (∀ (c : Nat) (u : Value), us[c]? = some u → w.cell? ⟨ad.block, ad.off + j * e.sz + c, none⟩ = some u) ∧ RT w X e x us
theorem rd_rt {X : Nat → Prop} {e : TC} {ys : List e.D} {v : Value} (h : RT w X (.sl e) ys [v]) : Rd w X e ys v := by
  obtain ⟨hd, cap, h1, h2, h3, h4⟩ := h
  injection h1 with h1
  refine ⟨hd, cap, h1, h2, h3, fun j x hj => ?_⟩
  obtain ⟨ad, us, g1, g2, g3, g4⟩ := h4 j x hj
  exact ⟨ad, us, g1, g2, g3.cell, g4⟩
theorem rd_arr {X : Nat → Prop} {l : Lc} {e : TC} {ys : List e.D} (h : ArrAt w X l e ys) : ∃ u, l.hd = some u ∧ Rd w X e ys u := by
  rcases h with ⟨v, rfl, h1, h2⟩ | ⟨b, off, cap, vs, t, z, rfl, h2, h3, h4, h5, h6⟩
  · have : ys = [] := List.eq_nil_of_length_eq_zero h1
    subst this
    exact ⟨v, rfl, rd_rt (bare_rt h2)⟩
  · refine ⟨_, rfl, some ⟨b, off, none⟩, cap, rfl, h2, nofun, fun j x hj => ?_⟩
    obtain ⟨us, g1, g2, g3⟩ := h6 j (List.getElem?_eq_some_iff.1 hj).1
    exact ⟨_, us, rfl, rfl, fun c u hu => by rw [cell_of_heap h3]; exact g3 c u hu, g1 x hj⟩
theorem rd_sub {X : Nat → Prop} {e : TC} {xs : List e.D} {u v : Value} (hr : Rd w X e xs u) {lo n : Nat} (hs : SubAt e.sz lo n u v) : Rd w X e ((xs.drop lo).take n) v := by
  obtain ⟨hd, cap, h1, h2, h3, h4⟩ := hr
  subst h1
  obtain ⟨hd', m, cap', ad, g1, g2, g3, g4, g5, g6⟩ := hs
  injection g1 with e1 e2 e3
  subst e1; subst e2; subst e3
  subst g3
  have hlen : ((xs.drop lo).take n).length = n := by simp; omega
  refine ⟨ad, cap - lo, by rw [hlen], by rw [hlen]; omega, g6, fun j x hj => ?_⟩
  rw [List.getElem?_take] at hj
  split at hj
  · rw [List.getElem?_drop] at hj
    obtain ⟨ad0, us, q1, q2, q3, q4⟩ := h4 (lo + j) x hj
    exact ⟨_, us, g5 (by omega) ad0 q1 q2, rfl, fun c u hu => by rw [← q3 c u hu]; dsimp only; rw [Nat.add_mul, Nat.add_assoc, Nat.add_assoc, Nat.add_assoc, Nat.add_assoc], q4⟩
  · cases hj
theorem refS_rd (H : HeapAt B G fr φ h w) {e : TC} {r : Ref} {xs : List e.D} {ns : List Nat} (hq : refS h e r = some (true, xs, ns)) (hok : r.ok φ) : ∃ u, (φ r.nm).hd = some u ∧ Rd w (Excl B φ) e xs u := by
  cases r with
  | top x =>
    simp only [refS] at hq
    split at hq
    · rename_i e' ys hs
      obtain ⟨he, rfl, _, rfl⟩ := elsC_some hq
      subst he
      exact rd_arr (H.st x _ hs)
    · cases hq
  | mem x g j =>
    simp only [refS] at hq
    unfold memOf at hq
    split at hq
    · rename_i e' g' ys hs
      split at hq
      · rename_i hg
        obtain rfl := beq_true hg
        obtain ⟨he, rfl, hp, rfl⟩ := elsC_some hq
        subst he
        have hB := H.st x _ hs
        have hj := fam_lt hB hok
        obtain ⟨u, hu, _⟩ := mem_hd (hB.2 j _ (getD_lt (d := ([], 0)) hj))
        rcases mem_row hB hp.symm hu hj with ⟨_, hrt, _⟩ | ⟨_, hA⟩
        · exact ⟨u, hu, rd_rt hrt⟩
        · exact rd_arr hA
      · cases hq
    · cases hq
theorem src_rd (H : HeapAt B G fr φ h w) {e : TC} {c : V} {v : Value} {ys : List e.D} {ns : List Nat} (hq : srcT h e c = some (true, ys, ns)) (hr : Rep w (Excl B φ) φ c v) : Rd w (Excl B φ) e ys v := by
  unfold srcT at hq
  split at hq
  · rename_i e' xs
    obtain ⟨he, rfl, _, rfl⟩ := elsC_some hq
    subst he
    exact rd_rt (rep_ts hr)
  · simp only [Option.some.injEq, Prod.mk.injEq, true_and] at hq
    obtain ⟨rfl, rfl⟩ := hq
    exact rd_rt (bare_rt (.inl (rep_raw hr).1))
  · simp only [Option.some.injEq, Prod.mk.injEq, true_and] at hq
    obtain ⟨rfl, rfl⟩ := hq
    exact rd_rt (bare_rt (rep_emp hr))
  · rename_i r
    obtain ⟨_, _, hok, hv⟩ := rep_own hr
    obtain ⟨u, hu, hrd⟩ := refS_rd H hq hok
    rw [hv u hu]; exact hrd
  · rename_i r sz lo n
    split at hq
    · rename_i hsz
      obtain rfl := beq_true hsz
      unfold subOf at hq
      split at hq
      · rename_i p xs ms hrf
        simp only [Option.some.injEq, Prod.mk.injEq] at hq
        obtain ⟨hp, rfl, rfl⟩ := hq
        obtain ⟨rfl, hle⟩ := andB_true hp
        obtain ⟨_, _, hok, hv⟩ := rep_sub hr
        obtain ⟨u, hu, hrd⟩ := refS_rd H hrf hok
        exact rd_sub hrd (hv u hu)
      · cases hq
    · cases hq
  · cases hq
theorem flat_cells {α : Type} {sz : Nat} {Q : α → List Value → Prop} : ∀ {xs : List α} {W : Nat → Nat → Option Value}, (∀ j x, xs[j]? = some x → ∃ us, Q x us ∧ us.length = sz ∧ ∀ (c : Nat) (u : Value), us[c]? = some u → W j c = some u) →
    ∃ news : List Value, news.length = xs.length * sz ∧ (∀ j c, j < xs.length → c < sz → news[j * sz + c]? = W j c) ∧ ∀ j x, xs[j]? = some x → ∃ us, Q x us ∧ us.length = sz ∧ ∀ (c : Nat) (u : Value), us[c]? = some u → news[j * sz + c]? = some u
  | [], W, h => ⟨[], by simp, fun j c hj => by simp at hj, fun j x hx => by cases hx⟩
  | x :: xs, W, h => by
    obtain ⟨us, h1, h2, h3⟩ := h 0 x rfl
    obtain ⟨news, g1, g2, g3⟩ := flat_cells (xs := xs) (W := fun j c => W (j + 1) c) fun j y hy => h (j + 1) y (by simpa using hy)
    have e1 : ∀ j c, (j + 1) * sz + c - us.length = j * sz + c := fun j c => by rw [Nat.add_mul]; omega
    refine ⟨us ++ news, by rw [List.length_append, g1, h2, List.length_cons, Nat.add_mul]; omega, fun j c hj hc => ?_, fun j y hy => ?_⟩
    · cases j with
      | zero =>
        rw [Nat.zero_mul, Nat.zero_add, List.getElem?_append_left (by omega)]
        have : us[c]? = some us[c] := by simp [show c < us.length by omega]
        rw [this, h3 c _ this]
      | succ j =>
        rw [List.getElem?_append_right (by rw [Nat.add_mul]; omega), e1]
        exact g2 j c (by simpa using hj) hc
    · cases j with
      | zero =>
        simp only [List.getElem?_cons_zero, Option.some.injEq] at hy
        subst hy
        refine ⟨us, h1, h2, fun c u hu => ?_⟩
        rw [Nat.zero_mul, Nat.zero_add, List.getElem?_append_left (List.getElem?_eq_some_iff.1 hu).1]
        exact hu
      | succ j =>
        obtain ⟨us', q1, q2, q3⟩ := g3 j y (by simpa using hy)
        refine ⟨us', q1, q2, fun c u hu => ?_⟩
        have hc : c < sz := by rw [← q2]; exact (List.getElem?_eq_some_iff.1 hu).1
        rw [List.getElem?_append_right (by rw [Nat.add_mul]; omega), e1]
        exact q3 c u hu
theorem src_of (w : World) {X : Nat → Prop} {t el' : TypeId} (ht : P.underlying t = some (.slice el')) {el : TC} {ys : List el.D} {v : Value} (h : Rd w X el ys v) (h0 : 0 < el.sz) :
    ∃ news, Src P el.sz t v ys.length news w ∧ ∀ j x, ys[j]? = some x → ∃ us, RT w X el x us ∧ us.length = el.sz ∧ ∀ (c : Nat) (u : Value), us[c]? = some u → news[j * el.sz + c]? = some u := by
  obtain ⟨hd, cap, rfl, hle, hn, hel⟩ := h
  cases hd with
  | none =>
    have hc := hn rfl
    have hlen : ys.length = 0 := by omega
    have : ys = [] := List.eq_nil_of_length_eq_zero hlen
    subst this
    exact ⟨[], Src.ofNil w ht cap, fun j x hj => by cases hj⟩
  | some ad =>
    obtain ⟨news, g1, g2, g3⟩ := flat_cells (sz := el.sz) (Q := fun x us => RT w X el x us) (xs := ys) (W := fun j c => w.cell? ⟨ad.block, ad.off + j * el.sz + c, none⟩) fun j x hj => by
      obtain ⟨ad', us, q1, q2, q3, q4⟩ := hel j x hj
      injection q1 with q1
      subst q1
      exact ⟨us, q4, RT.len q4, q3⟩
    refine ⟨news, Src.ofSlice w ht ad ys.length cap news g1 (fun j u hj => ?_) (fun u hu => ?_), g3⟩
    · have hj' : j < ys.length * el.sz := by rw [← g1]; exact (List.getElem?_eq_some_iff.1 hj).1
      have hd : j / el.sz < ys.length := Nat.div_lt_of_lt_mul (by rw [Nat.mul_comm]; exact hj')
      have hm : j % el.sz < el.sz := Nat.mod_lt _ h0
      have hjj : j / el.sz * el.sz + j % el.sz = j := by rw [Nat.mul_comm]; exact Nat.div_add_mod _ _
      have := g2 (j / el.sz) (j % el.sz) hd hm
      rw [hjj, hj] at this
      obtain ⟨ad', us, q1, q2, _⟩ := hel (j / el.sz) _ (getD_lt (d := el.dft) hd)
      injection q1 with q1
      subst q1
      rw [addr_add _ q2, show ad.off + j = ad.off + j / el.sz * el.sz + j % el.sz from by omega]
      exact this.symm
    · obtain ⟨j, hj⟩ := List.mem_iff_getElem?.1 hu
      have hj' : j < ys.length * el.sz := by rw [← g1]; exact (List.getElem?_eq_some_iff.1 hj).1
      have hd : j / el.sz < ys.length := Nat.div_lt_of_lt_mul (by rw [Nat.mul_comm]; exact hj')
      have hm : j % el.sz < el.sz := Nat.mod_lt _ h0
      have hjj : j / el.sz * el.sz + j % el.sz = j := by rw [Nat.mul_comm]; exact Nat.div_add_mod _ _
      obtain ⟨us, q1, q2, q3⟩ := g3 (j / el.sz) _ (getD_lt (d := el.dft) hd)
      have := q3 (j % el.sz) us[j % el.sz] (by simp [q2, hm])
      rw [hjj, hj] at this
      injection this with this
      subst this
      exact RT.one q1 _ (by simp)
theorem app_row {t el' : TypeId} (ht : P.underlying t = some (.slice el')) {i : TypeInfo} (hi : P.info? el' = some i) {z : Value} (hz : i.zero = some z) (hzs : z.cells.size = i.size) (h0 : 0 < i.size) (hby : 0 < i.bytes)
    {l0 : Lc} {n : Nat} {Q : Nat → List Value → Prop} (hr : RowAt w l0 i.size n Q) {v0 : Value} (hv0 : l0.hd = some v0) {y : Value} {m : Nat} {news : List Value} (hS : Src P i.size t y m news w) (hfit : (n + m) * i.bytes ≤ 140737488355328) :
    ∃ v w' l, (Builtin.append_ #[t, t] ty #[v0, y]).run P w = .ok v w' ∧ l.hd = some v ∧ v.oneCell' = true ∧ w.heap.size ≤ w'.heap.size ∧ w'.os = w.os ∧ w'.tape = w.tape ∧ w'.output = w.output ∧ (∀ b, b < w.heap.size → ¬ l0.has b → w'.heap[b]? = w.heap[b]?) ∧
      (∀ b, l.has b → l0.has b ∨ (w.heap.size ≤ b ∧ b < w'.heap.size)) ∧ ∀ Q' : Nat → List Value → Prop, (∀ j us, j < n → Q j us → Q' j us) → (∀ j, j < m → ∃ us, Q' (n + j) us ∧ us.length = i.size ∧ ∀ (c : Nat) (u : Value), us[c]? = some u → news[j * i.size + c]? = some u) → RowAt w' l i.size (n + m) Q' := by
  have h63 : ((n + m : Nat) : Int) ≤ 9223372036854775807 := by
    have : (n + m) * 1 ≤ (n + m) * i.bytes := Nat.mul_le_mul_left _ hby
    omega
  -- into a new row
  have grow : ∀ (base : Option Addr) (cap : Nat) (olds : List Value), v0 = .slice base n cap → cap < n + m → (∀ w' : World, (∀ b : Nat, w'.heap[b]? = w.heap[b]?) → (Builtin.firstCells i.size n (.slice base n cap)).run P w' = .ok olds.toArray w') → olds.length = n * i.size →
      (∀ j, j < n → ∃ us, Q j us ∧ us.length = i.size ∧ ∀ (c : Nat) (u : Value), us[c]? = some u → olds[j * i.size + c]? = some u) → ∃ v w' l, (Builtin.append_ #[t, t] ty #[v0, y]).run P w = .ok v w' ∧ l.hd = some v ∧ v.oneCell' = true ∧ w.heap.size ≤ w'.heap.size ∧ w'.os = w.os ∧ w'.tape = w.tape ∧ w'.output = w.output ∧ (∀ b, b < w.heap.size → ¬ l0.has b → w'.heap[b]? = w.heap[b]?) ∧
      (∀ b, l.has b → l0.has b ∨ (w.heap.size ≤ b ∧ b < w'.heap.size)) ∧ ∀ Q' : Nat → List Value → Prop, (∀ j us, j < n → Q j us → Q' j us) → (∀ j, j < m → ∃ us, Q' (n + j) us ∧ us.length = i.size ∧ ∀ (c : Nat) (u : Value), us[c]? = some u → news[j * i.size + c]? = some u) → RowAt w' l i.size (n + m) Q' := by
    intro base cap olds hv hlt hold hol hq
    have hrun := run_append_grow_src (P := P) w t t ty el' i z ht hi hz base n cap olds (hold w.drew (fun _ => rfl)) y m news hS hlt h63 (growslice_fits hlt hfit)
    have hge := grownCap_ge w (n + m) cap el'
    generalize hgc : grownCap w (n + m) cap el' = gc at hrun hge
    refine ⟨_, w.drew.alloc (.cells ((olds ++ news).toArray ++ Builtin.zeroCells z.cells (gc - (n + m))) el'), .at_ w.heap.size 0 (n + m) gc, by rw [hv]; exact hrun, rfl, rfl, by simp, rfl, rfl, rfl, fun b hb _ => Below.heap_alloc w.drew _ b hb, fun b hb => .inr ?_, fun Q' h1 h2 => ?_⟩
    · have : w.heap.size = b := hb
      subst this
      exact ⟨Nat.le_refl _, by simp⟩
    · have hnl := hS.newsLen
      have hlen : (olds ++ news).length = (n + m) * i.size := by rw [List.length_append, hol, hnl, Nat.add_mul]
      refine .inr ⟨w.heap.size, 0, gc, _, el', (0, 0), rfl, hge, drew_alloc_at _ _, fun _ _ => by omega, ?_, fun j hj => ?_⟩
      · have hzc : (Builtin.zeroCells z.cells (gc - (n + m))).size = (gc - (n + m)) * z.cells.size := by simp [Builtin.zeroCells]
        rw [Array.size_append, hzc, hzs, List.size_toArray, hlen, ← Nat.add_mul, Nat.zero_add]
        exact Nat.le_of_eq (by congr 1; omega)
      · have hjl : ∀ c, c < i.size → 0 + j * i.size + c < (olds ++ news).length := fun c hc => by
          rw [hlen]
          have : (j + 1) * i.size ≤ (n + m) * i.size := Nat.mul_le_mul_right _ hj
          rw [Nat.add_mul] at this
          omega
        have fin : ∀ us : List Value, us.length = i.size → (∀ (c : Nat) (u : Value), us[c]? = some u → (olds ++ news)[j * i.size + c]? = some u) → ∀ (c : Nat) (u : Value), us[c]? = some u → ((olds ++ news).toArray ++ Builtin.zeroCells z.cells (gc - (n + m)))[0 + j * i.size + c]? = some u := fun us hl hu c u hc => by
          have hc' : c < i.size := by rw [← hl]; exact (List.getElem?_eq_some_iff.1 hc).1
          rw [Array.getElem?_append_left (by simpa using hjl c hc'), List.getElem?_toArray, Nat.zero_add]
          exact hu c u hc
        rcases Nat.lt_or_ge j n with hjn | hjn
        · obtain ⟨us, q1, q2, q3⟩ := hq j hjn
          refine ⟨us, h1 j us hjn q1, q2, fin us q2 fun c u hu => ?_⟩
          have hc' : c < i.size := by rw [← q2]; exact (List.getElem?_eq_some_iff.1 hu).1
          have : (j + 1) * i.size ≤ n * i.size := Nat.mul_le_mul_right _ hjn
          rw [Nat.add_mul] at this
          rw [List.getElem?_append_left (by omega)]
          exact q3 c u hu
        · obtain ⟨us, q1, q2, q3⟩ := h2 (j - n) (by omega)
          rw [show n + (j - n) = j from by omega] at q1
          refine ⟨us, q1, q2, fin us q2 fun c u hu => ?_⟩
          have : n * i.size + (j - n) * i.size = j * i.size := by rw [← Nat.add_mul]; congr 1; omega
          rw [List.getElem?_append_right (by omega), hol, show j * i.size + c - n * i.size = (j - n) * i.size + c from by omega]
          exact q3 c u hu
  rcases hr with ⟨v', rfl, rfl, hb⟩ | ⟨b, off, cap, vs, t', zz, rfl, hle, hh, hop, hsz, hel⟩
  · -- nothing as yet
    simp only [Lc.hd, Option.some.injEq] at hv0
    subst hv0
    rcases Nat.eq_zero_or_pos m with rfl | hm
    · have hnil : news = [] := List.eq_nil_of_length_eq_zero (by rw [hS.newsLen]; simp)
      subst hnil
      have hrun : (Builtin.append_ #[t, t] ty #[v', y]).run P w = .ok v' w := by
        rcases hb with rfl | ⟨ad, rfl⟩
        · exact run_append_nothing w t t ty el' i ht hi none 0 0 (Nat.le_refl _) _ hS
        · exact run_append_nothing w t t ty el' i ht hi (some ad) 0 0 (Nat.le_refl _) _ hS
      exact ⟨v', w, .val v', hrun, rfl, bare_one hb, Nat.le_refl _, rfl, rfl, rfl, fun _ _ _ => rfl, fun b hb => hb.elim, fun Q' _ _ => .inl ⟨v', rfl, rfl, hb⟩⟩
    · rcases hb with rfl | ⟨ad, rfl⟩
      · exact grow none 0 [] rfl (by omega) (fun w' _ => by simp [Builtin.firstCells]) (by simp) fun j hj => by omega
      · exact grow (some ad) 0 [] rfl (by omega) (fun w' _ => run_firstCells_some w' i.size 0 ad 0 0 [] (by simp) fun j v h => by cases h) (by simp) fun j hj => by omega
  · simp only [Lc.hd, Option.some.injEq] at hv0
    subst hv0
    rcases Nat.lt_or_ge cap (n + m) with hlt | hge
    · -- a new one
      have hcn : n * i.size ≤ cap * i.size := Nat.mul_le_mul_right _ hle
      have hcut : ((vs.toList.drop off).take (n * i.size)).length = n * i.size := by simp; omega
      refine grow (some ⟨b, off, none⟩) cap ((vs.toList.drop off).take (n * i.size)) rfl hlt (fun w' hw' => run_firstCells_some w' i.size n ⟨b, off, none⟩ n cap _ hcut fun j u hu => ?_) hcut fun j hj => ?_
      · rw [List.getElem?_take] at hu
        split at hu
        · rw [addr_add _ rfl]
          simp only [World.cell?, hw' b, hh]
          simpa using hu
        · cases hu
      · obtain ⟨us, q1, q2, q3⟩ := hel j hj
        refine ⟨us, q1, q2, fun c u hu => ?_⟩
        have hc' : c < i.size := by rw [← q2]; exact (List.getElem?_eq_some_iff.1 hu).1
        have : (j + 1) * i.size ≤ n * i.size := Nat.mul_le_mul_right _ hj
        rw [Nat.add_mul] at this
        rw [List.getElem?_take, if_pos (by omega), List.getElem?_drop, ← Nat.add_assoc]
        simpa using q3 c u hu
    · -- there is room
      have hnl := hS.newsLen
      have hmul : (n + m) * i.size = n * i.size + m * i.size := Nat.add_mul _ _ _
      have hcm : (n + m) * i.size ≤ cap * i.size := Nat.mul_le_mul_right _ hge
      have hrun := run_append_room_src (P := P) w t t ty el' i ht hi b off n cap y m news hS hge (fun j hj => by rw [cell_of_heap hh]; simp; omega) fun j hj => by
        have hz1 := hop (off + n * i.size + j) (by omega)
        simp only [World.frozen?, hh]
        rw [Bool.eq_false_iff]
        intro hc
        simp only [Bool.and_eq_true, decide_eq_true_eq] at hc
        exact hz1 hc
      obtain ⟨k1, k2, k3, k4, k5, k6⟩ := setCells_spec news (off + n * i.size) w vs hh
      have hfit' : off + n * i.size + news.length ≤ vs.size := by omega
      refine ⟨_, _, .at_ b off (n + m) cap, hrun, rfl, rfl, Nat.le_of_eq k1.symm, k3, k4, k5, fun b' _ hb' => k2 b' fun e => hb' e.symm, fun b' hb' => .inl hb', fun Q' h1 h2 => .inr ⟨b, off, cap, _, t', zz, rfl, hge, k6, by unfold Open; rw [setL_size]; exact hop, by rw [setL_size]; exact hsz, fun j hj => ?_⟩⟩
      rcases Nat.lt_or_ge j n with hjn | hjn
      · obtain ⟨us, q1, q2, q3⟩ := hel j hjn
        refine ⟨us, h1 j us hjn q1, q2, fun c u hu => ?_⟩
        have hc' : c < i.size := by rw [← q2]; exact (List.getElem?_eq_some_iff.1 hu).1
        have : (j + 1) * i.size ≤ n * i.size := Nat.mul_le_mul_right _ hjn
        rw [Nat.add_mul] at this
        rw [setL_get _ _ _ _ hfit', if_neg (by omega)]
        exact q3 c u hu
      · obtain ⟨us, q1, q2, q3⟩ := h2 (j - n) (by omega)
        rw [show n + (j - n) = j from by omega] at q1
        refine ⟨us, q1, q2, fun c u hu => ?_⟩
        have hc' : c < i.size := by rw [← q2]; exact (List.getElem?_eq_some_iff.1 hu).1
        have e1 : n * i.size + (j - n) * i.size = j * i.size := by rw [← Nat.add_mul]; congr 1; omega
        have e2 : (j - n + 1) * i.size ≤ m * i.size := Nat.mul_le_mul_right _ (by omega)
        rw [Nat.add_mul] at e2
        rw [setL_get _ _ _ _ hfit', if_pos (by omega), show off + j * i.size + c - (off + n * i.size) = (j - n) * i.size + c from by omega]
        exact q3 c u hu
end
end Go.TM
namespace Go.TM
open Go.RowKit
section
variable {P : Program} {ty : TypeId} {N : Nat} {B : Nat → Prop} {G : Nat → Nat → Value → Prop} {fr U : Nat → Prop} {φ : Loc} {a : Act} {w : World} {e : T V} {h : Heap} {nx : Nat} {pr ks : Nat → Bool} {R : Type} {res : R}
variable {o : Oper} {nm : Nat} {q : S → Option R}
theorem app_put (H : RelAt N B G (FR U nx) φ ⟨e, h, nx, pr, ks⟩ a w) {ns : List Nat} (hpn : ∀ n ∈ ns, pr n = false) (hok : OkNs h ns) {h1 : Heap} (hw1 : Without h ns h1) (hU : U nm) (hnx : nm + 1 < nx) (hd : ∀ d, o.dst = some d → d < N)
    {v : Value} {w' : World} {l : Lc} (hx : (execOp a.eval o).run P w = .ok (.value v) w') (hlv : l.hd = some v) (h1c : v.oneCell' = true) (hs : w.heap.size ≤ w'.heap.size) (ho : w'.os = w.os) (ht : w'.tape = w.tape) (hu : w'.output = w.output)
    (hb : ∀ b, b < w.heap.size → (∀ m, (φ m).has b → m.1 ∉ ns) → w'.heap[b]? = w.heap[b]?) (hL : ∀ b, l.has b → (∃ m, m.1 ∈ ns ∧ (φ m).has b) ∨ (w.heap.size ≤ b ∧ b < w'.heap.size)) {k : Blk} (hk0 : famOf (some k) = none)
    (hA : ∀ X' φ', (∀ t x vs, RT w (Excl B φ) t x vs → RT w' X' t x vs) → φ' (nm, 0) = l → BlkAt w' X' φ' nm k) (hq : TM.out ⟨e, h1, nx, pr, ks⟩ o.dst nm (.own (.top nm)) (some k) q = some res) : Does P N B G (Used U nm) pr ks nx φ w a o q res := by
  simp only [TM.out, forceBlk_eq] at hq
  obtain ⟨h2, hp, hq⟩ := T.putK_spec hq
  obtain ⟨e', he, hq⟩ := setO_spec hq
  let φ' : Loc := fun n => if n.1 = nm then (match n.2 with | 0 => l | _ + 1 => .free) else φ.kill ns n
  have p0 : φ' (nm, 0) = l := by simp [φ']
  have po : ∀ n : Nm, ¬ n.1 = nm → φ' n = φ.kill ns n := fun n hn => by simp [φ', hn]
  have pm : ∀ n b, n.1 = nm → (φ' n).has b → n = (nm, 0) ∧ l.has b := fun n b hn hh => by
    obtain ⟨n1, n2⟩ := n
    have hn : n1 = nm := hn
    subst hn
    cases n2 with
    | zero => rw [p0] at hh; exact ⟨rfl, hh⟩
    | succ i => simp [φ', Lc.has] at hh
  obtain ⟨F, H1⟩ := H.toHeapAt.mv (ns := ns) (wn := []) (h1 := h1) (Fp := fun x => x = nm) (φ' := φ') (w' := w') (pr := pr) hpn (by simp) (sub_of_without H.toHeapAt hok hw1) (fun x hx => by rw [hx]; exact .inl hU) po hs (fun b hlt hn => hb b hlt fun m hm => (hn m hm).1) ho ht hu
    (fun n b hn hh => hL b (pm n b hn hh).2) (fun n m b hn hm h1 h2 => (pm n b hn h1).1.trans (pm m b hm h2).1.symm)
  have H2 := H1.add' (x := nm) (hA _ φ' (fun t x vs h => F.keeps.rt h) p0) (fun y hy => by
      rw [hw1 y] at hy
      split at hy
      · cases hy
      · exact (H.free nm (.inl hU)).2 y hy) (fun g hg => by rw [hk0] at hg; cases hg) hp
  refine does_value hx ⟨_, _, hq, ((H.step (pr'' := pr) (ks' := ks) (nx' := nx) F H2).put hd (c := .own (.top nm)) ?_ he).less fun x hx => ?_, rfl, rfl, Nat.le_refl _, F, he.kept v⟩
  · refine .own _ _ h1c ?_ trivial fun u hu => ?_
    · show φ' (nm, 0) ≠ _
      rw [p0]; intro e; rw [e] at hlv; cases hlv
    · have hu : (φ' (nm, 0)).hd = some u := hu
      rw [p0, hlv] at hu
      injection hu
  · rcases hx with ⟨h1, h2, _⟩ | h1
    · exact ⟨.inl h1, h2⟩
    · have h1 : nx ≤ x := h1
      exact ⟨.inr h1, by omega⟩
theorem app_ex {t t' : TypeId} {x y : Operand} {c : Call} (hcl : c.callee = .builtin .append) (hca : c.args = #[x, y]) (hct : c.argTypes = #[t, t']) (ho : o.op = .call c) {v : Value} {w' : World} (hr : (Builtin.append_ #[t, t'] o.type #[a.eval x, a.eval y]).run P w = .ok v w') :
    (execOp a.eval o).run P w = .ok (.value v) w' := by
  simp [execOp, ho, Go.resolve, hcl, hca, hct, invoke, builtin, hr]
structure AppCtx (P : Program) (o : Oper) (t el' : TypeId) (i : TypeInfo) (x y : Operand) : Prop where
  ex : ∃ c : Call, c.callee = .builtin .append ∧ c.args = #[x, y] ∧ c.argTypes = #[t, t] ∧ o.op = .call c
  ht : P.underlying t = some (.slice el')
  hi : P.info? el' = some i
  hz : ∃ z, i.zero = some z ∧ z.cells.size = i.size
  h0 : 0 < i.size
  hby : 0 < i.bytes
theorem app_els {w' : World} {X X' : Nat → Prop} (hrt : ∀ t x vs, RT w X t x vs → RT w' X' t x vs) {el : TC} {l : Lc} {xs ys : List el.D} {news : List Value} (hg : ∀ j x, ys[j]? = some x → ∃ us, RT w X el x us ∧ us.length = el.sz ∧ ∀ (c : Nat) (u : Value), us[c]? = some u → news[j * el.sz + c]? = some u)
    (hr : ∀ Q' : Nat → List Value → Prop, (∀ j us, j < xs.length → (∀ x, xs[j]? = some x → RT w X el x us) → Q' j us) → (∀ j, j < ys.length → ∃ us, Q' (xs.length + j) us ∧ us.length = el.sz ∧ ∀ (c : Nat) (u : Value), us[c]? = some u → news[j * el.sz + c]? = some u) → RowAt w' l el.sz (xs.length + ys.length) Q') : ArrAt w' X' l el (xs ++ ys) := by
  unfold ArrAt
  rw [List.length_append]
  refine hr _ (fun j us hj h x hx => ?_) fun j hj => ?_
  · rw [List.getElem?_append_left hj] at hx
    exact hrt _ _ _ (h x hx)
  · obtain ⟨us, g1, g2, g3⟩ := hg j ys[j] (by simp [hj])
    refine ⟨us, fun x hx => ?_, g2, g3⟩
    rw [List.getElem?_append_right (by omega), Nat.add_sub_cancel_left] at hx
    have : x = ys[j] := by simpa [hj] using hx.symm
    subst this
    exact hrt _ _ _ g1
theorem app_top {t el' : TypeId} {i : TypeInfo} {x y : Operand} (C : AppCtx P o t el' i x y) {el : TC} (hsz : el.sz = i.size) (hU : U nm) (hnx : nm + 1 < nx) (hd : ∀ d, o.dst = some d → d < N) (H : RelAt N B G (FR U nx) φ ⟨e, h, nx, pr, ks⟩ a w) {ys : List el.D} (hrd : Rd w (Excl B φ) el ys (a.eval y))
    {ns : List Nat} (hpn : ∀ n ∈ ns, pr n = false) (hok : OkNs h ns) {h1 : Heap} (hw1 : Without h ns h1) {l0 : Lc} (hl0 : l0.hd = some (a.eval x)) {xs : List el.D} (hA : ArrAt w (Excl B φ) l0 el xs) (hb0 : ∀ b, l0.has b → ∃ m, m.1 ∈ ns ∧ (φ m).has b)
    (hq : evApp3 ⟨e, h1, nx, pr, ks⟩ nm o.dst el i.bytes ys xs q = some res) : Does P N B G (Used U nm) pr ks nx φ w a o q res := by
  obtain ⟨⟨c, hcl, hca, hct, ho⟩, ht, hi, ⟨z, hz, hzs⟩, h0, hby⟩ := C
  unfold evApp3 at hq
  obtain ⟨hfit, hq⟩ := need_some hq
  have hfit := ble_true hfit
  obtain ⟨news, hS, hg⟩ := src_of (P := P) w ht hrd (by rw [hsz]; exact h0)
  unfold ArrAt at hA
  rw [hsz] at hS hA
  obtain ⟨v, w', l, r1, r2, r3, r4, r5, r6, r7, r8, r9, r10⟩ := app_row (P := P) (ty := o.type) ht hi hz hzs h0 hby hA hl0 hS hfit
  refine app_put H hpn hok hw1 hU hnx hd (app_ex hcl hca hct ho r1) r2 r3 r4 r5 r6 r7 (fun b hlt hn => r8 b hlt fun hh => ?_) (fun b hh => ?_) rfl (fun X' φ' hrt hp => ?_) hq
  · obtain ⟨m, h3, h4⟩ := hb0 b hh
    exact hn m h4 h3
  · rcases r9 b hh with h2 | h2
    · exact .inl (hb0 b h2)
    · exact .inr h2
  · show ArrAt _ _ (φ' (nm, 0)) el _
    rw [hp]
    refine app_els hrt hg ?_
    rw [hsz]
    exact r10
theorem e_appT {t el' : TypeId} {i : TypeInfo} {x y : Operand} (C : AppCtx P o t el' i x y) {el : TC} (hsz : el.sz = i.size) (hU : U nm) (hnx : nm + 1 < nx) (hd : ∀ d, o.dst = some d → d < N) (H : RelAt N B G (FR U nx) φ ⟨e, h, nx, pr, ks⟩ a w) {ys : List el.D} (hrd : Rd w (Excl B φ) el ys (a.eval y))
    {z lo : Nat} {n : Option Nat} (hv : ∀ u, (φ (z, 0)).hd = some u → match n with | none => a.eval x = u | some n => SubAt el.sz lo n u (a.eval x))
    (hq : appT ⟨e, h, nx, pr, ks⟩ nm o.dst el i.bytes ys z lo n q (h.get z) = some res) : Does P N B G (Used U nm) pr ks nx φ w a o q res := by
  unfold appT at hq
  split at hq
  · rename_i e' xs hs
    split at hq
    · rename_i xs' hc
      unfold castL at hc
      split at hc
      · rename_i he
        subst he
        injection hc with hc
        subst hc
        have hA : ArrAt w (Excl B φ) (φ (z, 0)) e' xs := H.st z _ hs
        obtain ⟨u0, hu0, _⟩ := row_hd hA
        have hok : OkNs h [z] := fun n hn y hy => by
          simp only [List.mem_singleton] at hn
          subst hn
          exact absurd hy (famOf_none H.toHeapAt hs y)
        cases n with
        | none =>
          dsimp only at hq
          obtain ⟨hpn, h1, hw1, hq⟩ := dropS_spec hq
          exact app_top C hsz hU hnx hd H hrd hpn hok hw1 (l0 := φ (z, 0)) (by rw [hu0, hv u0 hu0]) hA (fun b hb => ⟨(z, 0), by simp, hb⟩) hq
        | some n =>
          dsimp only at hq
          obtain ⟨hpn, h1, hw1, hq⟩ := dropS_spec hq
          obtain ⟨l', g1, g2, g3⟩ := sub_row hA hu0 (hv u0 hu0)
          exact app_top C hsz hU hnx hd H hrd hpn hok hw1 g1 g3 (fun b hb => ⟨(z, 0), by simp, g2 b hb⟩) hq
      · cases hc
    · cases hq
  · cases hq
theorem e_appN {t el' : TypeId} {i : TypeInfo} {x y : Operand} (C : AppCtx P o t el' i x y) {el : TC} (hsz : el.sz = i.size) (hU : U nm) (hnx : nm + 1 < nx) (hd : ∀ d, o.dst = some d → d < N) (H : RelAt N B G (FR U nx) φ ⟨e, h, nx, pr, ks⟩ a w) {ys : List el.D} (hrd : Rd w (Excl B φ) el ys (a.eval y))
    (hv : Bare (a.eval x)) (hq : evApp3 ⟨e, h, nx, pr, ks⟩ nm o.dst el i.bytes ys [] q = some res) : Does P N B G (Used U nm) pr ks nx φ w a o q res :=
  app_top C hsz hU hnx hd H hrd (ns := []) (by simp) (fun n hn => by simp at hn) (h1 := h) (fun y => by simp) (l0 := .val (a.eval x)) rfl (.inl ⟨_, rfl, rfl, hv⟩) (fun b hb => hb.elim) hq
theorem e_appM {t el' : TypeId} {i : TypeInfo} {x y : Operand} (C : AppCtx P o t el' i x y) {el : TC} (hsz : el.sz = i.size) (hU : U nm) (hU' : U (nm + 1)) (hnx : nm + 1 < nx) (hd : ∀ d, o.dst = some d → d < N) (H : RelAt N B G (FR U nx) φ ⟨e, h, nx, pr, ks⟩ a w) {ys : List el.D} (hrd : Rd w (Excl B φ) el ys (a.eval y))
    {z g j : Nat} (hv : Rep w (Excl B φ) φ (.own (.mem z g j)) (a.eval x)) (hq : appM ⟨e, h, nx, pr, ks⟩ nm o.dst el i.bytes ys z g j q (h.get z) = some res) : Does P N B G (Used U nm) pr ks nx φ w a o q res := by
  unfold appM at hq
  split at hq
  · rename_i e' g' xs0 hs
    split at hq
    · rename_i hg he hprg
      obtain rfl := beq_true hg
      have he := of_decide_eq_true he
      subst he
      have hprg : pr g = false := hprg
      split at hq
      · rename_i xs hc
        unfold castF at hc
        rw [dif_pos rfl] at hc
        injection hc with hc
        subst hc
        obtain ⟨hp0, hq⟩ := need_some hq
        obtain ⟨hpr, h1, hp1, hq⟩ := setB_spec hq
        obtain ⟨hfl, hq⟩ : Nat.beq (xs0.getD j ([], 0)).2 1 = true ∧ evApp3 ⟨e, h1, nx, pr, ks⟩ nm o.dst e' i.bytes ys (xs0.getD j ([], 0)).1 q = some res := ⟨hp0, hq⟩
        have hfl := beq_true hfl
        obtain ⟨⟨c, hcl, hca, hct, ho⟩, ht, hi, ⟨zz, hz, hzs⟩, h0, hby⟩ := C
        unfold evApp3 at hq
        obtain ⟨hfit, hq⟩ := need_some hq
        have hfit := ble_true hfit
        obtain ⟨h1c, hd0, hok, hv⟩ := rep_own hv
        have hB := H.st z _ hs
        have hj := fam_lt hB hok
        have hm := hB.2 j _ (getD_lt (d := ([], 0)) hj)
        have hA : ArrAt w (Excl B φ) (φ (g, j + 1)) e' (xs0.getD j ([], 0)).1 := by
          revert hm hfl
          generalize xs0.getD j ([], 0) = yy
          obtain ⟨ys, fl⟩ := yy
          rintro rfl hm
          exact hm
        obtain ⟨u0, hu0, hu1⟩ := row_hd hA
        have hax := hv u0 hu0
        obtain ⟨news, hS, hgs⟩ := src_of (P := P) w ht hrd (by rw [hsz]; exact h0)
        have hA' := hA
        unfold ArrAt at hA
        rw [hsz] at hS hA
        obtain ⟨v, w', l, r1, r2, r3, r4, r5, r6, r7, r8, r9, r10⟩ := app_row (P := P) (ty := o.type) ht hi hz hzs h0 hby hA (v0 := a.eval x) (by rw [hax]; exact hu0) hS hfit
        have hx := app_ex hcl hca hct ho r1
        simp only [TM.out, forceBlk_eq] at hq
        obtain ⟨h2, hp, hq⟩ := T.putK_spec hq
        obtain ⟨ev, hev, hq⟩ := setO_spec hq
        have hzg : z ≠ g := fun e => by have := H.gtop z g (by rw [hs]; rfl); rw [← e, hs] at this; cases this
        have hz1 : ¬ z = nm + 1 := fun e => by
          have := (H.free (nm + 1) (.inl hU')).1 0
          have hl := (hB.live (n := (z, 0)) (.inl rfl)).1
          rw [e] at hl; exact hl this
        have hz0 : ¬ z = nm := fun e => by
          have := (H.free nm (.inl hU)).1 0
          have hl := (hB.live (n := (z, 0)) (.inl rfl)).1
          rw [e] at hl; exact hl this
        let φ' : Loc := fun n => if n.1 = nm then (match n.2 with | 0 => l | _ + 1 => .free) else if n.1 = nm + 1 then (match n.2 with | 0 => .free | i + 1 => if i = j then .val u0 else φ (g, i + 1)) else φ.kill [g] n
        have n0 : φ' (nm, 0) = l := by simp [φ']
        have p0 : φ' (nm + 1, 0) = .free := by simp [φ']
        have pj : φ' (nm + 1, j + 1) = .val u0 := by simp [φ']
        have pi : ∀ i, i ≠ j → φ' (nm + 1, i + 1) = φ (g, i + 1) := fun i hi => by simp [φ', hi]
        have po : ∀ n : Nm, ¬ (n.1 = nm ∨ n.1 = nm + 1) → φ' n = φ.kill [g] n := fun n hn => by
          have h1 : ¬ n.1 = nm := fun e => hn (.inl e)
          have h2 : ¬ n.1 = nm + 1 := fun e => hn (.inr e)
          simp [φ', h1, h2]
        have pz : φ' (z, 0) = φ (z, 0) := by rw [po _ (by simp [hz0, hz1])]; exact φ.kill_out (by simp [hzg])
        have members : ∀ n b', (n.1 = nm ∨ n.1 = nm + 1) → (φ' n).has b' → (n = (nm, 0) ∧ l.has b') ∨ ∃ i, n = (nm + 1, i + 1) ∧ i ≠ j ∧ (φ (g, i + 1)).has b' := fun n b' hn hh' => by
          obtain ⟨n1, n2⟩ := n
          rcases hn with hn | hn
          · have hn : n1 = nm := hn
            subst hn
            cases n2 with
            | zero => rw [n0] at hh'; exact .inl ⟨rfl, hh'⟩
            | succ i => simp [φ', Lc.has] at hh'
          · have hn : n1 = nm + 1 := hn
            subst hn
            cases n2 with
            | zero => rw [p0] at hh'; exact hh'.elim
            | succ i =>
              by_cases hi : i = j
              · subst hi; rw [pj] at hh'; exact hh'.elim
              · rw [pi i hi] at hh'; exact .inr ⟨i, rfl, hi, hh'⟩
        have hl : ∀ b, l.has b → (φ (g, j + 1)).has b ∨ (w.heap.size ≤ b ∧ b < w'.heap.size) := r9
        have cross : ∀ {i b}, i ≠ j → l.has b → (φ (g, i + 1)).has b → False := fun {i b} hne h3 h4 => by
          rcases hl b h3 with h5 | h5
          · have := H.inj _ _ _ h5 h4; injection this with _ h; omega
          · have := (H.lt _ _ h4).1; omega
        have hch : ∀ y', h1.get y' = if y' = z then some (.fam (.row e') (nm + 1) (xs0.set j ([], 2))) else if y' ∈ ([] : List Nat) then none else h.get y' := fun y' => by
          rw [hp1 y']; simp
        obtain ⟨F, H1⟩ := H.toHeapAt.mv1 (ns := [g]) (wn := []) (ds := []) (x := z) (kx := .fam (.row e') (nm + 1) (xs0.set j ([], 2))) (h' := h1) (Fp := fun x => x = nm ∨ x = nm + 1) (φ' := φ') (w' := w') (pr := pr)
          (fun n hn => by simp only [List.mem_singleton] at hn; subst hn; exact hprg) (by simp) hch
          (fun y' k hy hyd hk n hn => by
            cases k with
            | fam c g' ys =>
              have hgg : g' ≠ g := fun e => hy (H.gen y' z g (by rw [hk, e]; rfl) (by rw [hs]; rfl))
              have hyg : y' ≠ g := fun e => by have := H.gtop z g (by rw [hs]; rfl); rw [← e, hk] at this; cases this
              rcases hn with rfl | ⟨j', hj', rfl⟩
              · exact ⟨by simp [hyg], by simp⟩
              · exact ⟨by simp [hgg], by simp⟩
            | _ =>
              have hyg : y' ≠ g := fun e => by have := H.gtop z g (by rw [hs]; rfl); rw [← e, hk] at this; cases this
              rw [show n = (y', 0) from hn]
              exact ⟨by simp [hyg], by simp⟩)
          (fun x hx => by rcases hx with hx | hx <;> rw [hx]; exact .inl hU; exact .inl hU') po r4
          (fun b' hlt hn => r8 b' hlt fun hh => (hn (g, j + 1) hh).1 (by simp)) r5 r6 r7
          (fun n b' hn hh' => by
            rcases members n b' hn hh' with ⟨rfl, h3⟩ | ⟨i, rfl, _, h3⟩
            · rcases hl b' h3 with h4 | h4
              · exact .inl ⟨_, by simp, h4⟩
              · exact .inr h4
            · exact .inl ⟨_, by simp, h3⟩)
          (fun n m b' hn hm hh1 hh2 => by
            rcases members n b' hn hh1 with ⟨rfl, h3⟩ | ⟨i, rfl, hi, h3⟩ <;> rcases members m b' hm hh2 with ⟨rfl, h4⟩ | ⟨i', rfl, hi', h4⟩
            · rfl
            · exact (cross hi' h3 h4).elim
            · exact (cross hi h4 h3).elim
            · have := H.inj _ _ _ h3 h4; injection this with _ h; rw [h])
          (fun y' _ hy => famOf_none H.toHeapAt hs y' hy)
          (fun g' hg' => by
            simp only [famOf, Option.some.injEq] at hg'
            subst hg'
            exact ⟨.inl ⟨.inl hU', .inr rfl⟩, fun e => hz1 e.symm⟩)
          (fun hrt hrep => by
            refine ⟨?_, fun i' y' hi' => ?_⟩
            · rw [List.length_set, pz]
              refine RowAt.same (fun b hb => r8 b (H.lt _ _ hb).1 fun hh => ?_) (fun i' us hi' ⟨v, h3, h4⟩ => ⟨v, h3, ?_⟩) hB.1
              · have := H.inj _ _ _ hb hh; injection this with e1 e2; omega
              · by_cases hij : i' = j
                · subst hij; rw [pj]
                  have h4 : (φ (g, i' + 1)).hd = some v := h4
                  rw [hu0] at h4
                  exact h4
                · rw [pi i' hij]; exact h4
            · by_cases hij : i' = j
              · subst hij
                have : y' = ([], 2) := by
                  rw [List.getElem?_set, if_pos rfl, if_pos hj] at hi'
                  injection hi' with hi'
                  exact hi'.symm
                subst this
                rw [pj]
                exact ⟨u0, rfl, by rw [← hax]; exact h1c⟩
              · rw [List.getElem?_set_ne (Ne.symm hij)] at hi'
                rw [pi i' hij]
                refine mem_keep hrt (fun b hb => r8 b (H.lt _ _ hb).1 fun hh => ?_) (hB.2 i' y' hi')
                have := H.inj _ _ _ hb hh; injection this with e1 e2; omega)
        have H2 := H1.add' (x := nm) (k := .arr e' ((xs0.getD j ([], 0)).1 ++ ys)) (by
            show ArrAt _ _ (φ' (nm, 0)) e' _
            rw [n0]
            refine app_els (fun t x vs h => F.keeps.rt h) hgs ?_
            rw [hsz]
            exact r10) (fun y hy => by
              rw [hp1 y] at hy
              split at hy
              · simp [famOf] at hy
              · exact (H.free nm (.inl hU)).2 y hy) (fun g hg => by cases hg) hp
        refine does_value hx ⟨_, _, hq, ((H.step (pr'' := pr) (ks' := ks) (nx' := nx) F H2).put hd (c := .own (.top nm)) ?_ hev).less fun x hx => ?_, rfl, rfl, Nat.le_refl _, F, hev.kept v⟩
        · refine .own _ _ r3 ?_ trivial fun u hu => ?_
          · show φ' (nm, 0) ≠ _
            rw [n0]; intro e; rw [e] at r2; cases r2
          · have hu : (φ' (nm, 0)).hd = some u := hu
            rw [n0, r2] at hu
            injection hu
        · rcases hx with ⟨h1, h2, h3⟩ | h1
          · exact ⟨.inl h1, by rintro (h | h); exact h2 h; exact h3 h⟩
          · have h1 : nx ≤ x := h1
            exact ⟨.inr h1, by omega⟩
      · cases hq
    · cases hq
  · cases hq
theorem e_app2 {t el' : TypeId} {i : TypeInfo} {x y : Operand} (C : AppCtx P o t el' i x y) {el : TC} (hsz : el.sz = i.size) (hU : U nm) (hU' : U (nm + 1)) (hnx : nm + 1 < nx) (hd : ∀ d, o.dst = some d → d < N) (H : RelAt N B G (FR U nx) φ ⟨e, h, nx, pr, ks⟩ a w) {ys : List el.D} (hrd : Rd w (Excl B φ) el ys (a.eval y))
    {c : V} (hv : Rep w (Excl B φ) φ c (a.eval x)) (hq : evApp2 ⟨e, h, nx, pr, ks⟩ nm o.dst el i.bytes ys q c = some res) : Does P N B G (Used U nm) pr ks nx φ w a o q res := by
  unfold evApp2 at hq
  split at hq
  · exact e_appN C hsz hU hnx hd H hrd (.inl (rep_raw hv).1) hq
  · exact e_appN C hsz hU hnx hd H hrd (rep_emp hv) hq
  · exact e_appT C hsz hU hnx hd H hrd (n := none) (rep_own hv).2.2.2 hq
  · split at hq
    · rename_i hb
      obtain rfl := beq_true hb
      exact e_appT C hsz hU hnx hd H hrd (n := some _) (rep_sub hv).2.2.2 hq
    · cases hq
  · exact e_appM C hsz hU hU' hnx hd H hrd hv hq
  · cases hq
end
end Go.TM
namespace Go.TM
open Go.RowKit
section
variable {P : Program} {ty : TypeId} {N : Nat} {B : Nat → Prop} {G : Nat → Nat → Value → Prop} {fr U : Nat → Prop} {φ : Loc} {a : Act} {w : World} {e : T V} {h : Heap} {nx : Nat} {pr ks : Nat → Bool} {R : Type} {res : R}
variable {o : Oper} {nm : Nat} {q : S → Option R}
theorem fam_put (H : RelAt N B G (FR U nx) φ ⟨e, h, nx, pr, ks⟩ a w) {ns : List Nat} (hpn : ∀ n ∈ ns, pr n = false) (hok : OkNs h ns) {h1 : Heap} (hw1 : Without h ns h1) (hU : U nm) (hU' : U (nm + 1)) (hnx : nm + 1 < nx) (hd : ∀ d, o.dst = some d → d < N)
    {v : Value} {w' : World} {l : Lc} (hx : (execOp a.eval o).run P w = .ok (.value v) w') (hlv : l.hd = some v) (h1c : v.oneCell' = true) (hs : w.heap.size ≤ w'.heap.size) (ho : w'.os = w.os) (ht : w'.tape = w.tape) (hu : w'.output = w.output)
    (hb : ∀ b, b < w.heap.size → (∀ m, (φ m).has b → m.1 ∉ ns) → w'.heap[b]? = w.heap[b]?) {k : FC} {xs : List k.D} {nmOf : Nat → Nm} (hn1 : ∀ j, j < xs.length → (nmOf j).1 ∈ ns) (hn2 : ∀ i j, i < xs.length → j < xs.length → nmOf i = nmOf j → i = j)
    (hL : ∀ b, l.has b → (∃ n0, n0.1 ∈ ns ∧ (φ n0).has b ∧ ∀ j, j < xs.length → n0 ≠ nmOf j) ∨ (w.heap.size ≤ b ∧ b < w'.heap.size)) (hRow : RowAt w' l 1 xs.length fun j us => ∃ v, us = [v] ∧ k.val (φ (nmOf j)) v) (hMem : ∀ j y, xs[j]? = some y → MemAt w (Excl B φ) (φ (nmOf j)) k y)
    (hkeep : ∀ j b, j < xs.length → (φ (nmOf j)).has b → w'.heap[b]? = w.heap[b]?) (hq : TM.out ⟨e, h1, nx, pr, ks⟩ o.dst nm (.own (.top nm)) (some (.fam k (Nat.succ nm) xs)) q = some res) : Does P N B G (Used U nm) pr ks nx φ w a o q res := by
  simp only [TM.out, forceBlk_eq] at hq
  obtain ⟨h2, hp, hq⟩ := T.putK_spec hq
  obtain ⟨e', he, hq⟩ := setO_spec hq
  let φ' : Loc := fun n => if n.1 = nm then (match n.2 with | 0 => l | _ + 1 => .free) else if n.1 = nm + 1 then (match n.2 with | 0 => .free | i + 1 => if i < xs.length then φ (nmOf i) else .free) else φ.kill ns n
  have n0 : φ' (nm, 0) = l := by simp [φ']
  have pi : ∀ i, i < xs.length → φ' (nm + 1, i + 1) = φ (nmOf i) := fun i hi => by simp [φ', hi]
  have po : ∀ n : Nm, ¬ (n.1 = nm ∨ n.1 = nm + 1) → φ' n = φ.kill ns n := fun n hn => by
    have h1 : ¬ n.1 = nm := fun e => hn (.inl e)
    have h2 : ¬ n.1 = nm + 1 := fun e => hn (.inr e)
    simp [φ', h1, h2]
  have members : ∀ n b', (n.1 = nm ∨ n.1 = nm + 1) → (φ' n).has b' → (n = (nm, 0) ∧ l.has b') ∨ ∃ i, n = (nm + 1, i + 1) ∧ i < xs.length ∧ (φ (nmOf i)).has b' := fun n b' hn hh' => by
    obtain ⟨n1, n2⟩ := n
    rcases hn with hn | hn
    · have hn : n1 = nm := hn
      subst hn
      cases n2 with
      | zero => rw [n0] at hh'; exact .inl ⟨rfl, hh'⟩
      | succ i => simp [φ', Lc.has] at hh'
    · have hn : n1 = nm + 1 := hn
      subst hn
      cases n2 with
      | zero => simp [φ', Lc.has] at hh'
      | succ i =>
        by_cases hi : i < xs.length
        · rw [pi i hi] at hh'; exact .inr ⟨i, rfl, hi, hh'⟩
        · simp [φ', hi, Lc.has] at hh'
  have cross : ∀ {i b}, i < xs.length → l.has b → (φ (nmOf i)).has b → False := fun {i b} hi h3 h4 => by
    rcases hL b h3 with ⟨n0, _, h5, h6⟩ | h5
    · exact h6 i hi (H.inj _ _ _ h5 h4)
    · have := (H.lt _ _ h4).1; omega
  obtain ⟨F, H1⟩ := H.toHeapAt.mv (ns := ns) (wn := []) (h1 := h1) (Fp := fun x => x = nm ∨ x = nm + 1) (φ' := φ') (w' := w') (pr := pr) hpn (by simp) (sub_of_without H.toHeapAt hok hw1) (fun x hx => by rcases hx with hx | hx <;> rw [hx]; exact .inl hU; exact .inl hU') po hs (fun b hlt hn => hb b hlt fun m hm => (hn m hm).1) ho ht hu
    (fun n b hn hh => by
      rcases members n b hn hh with ⟨_, h3⟩ | ⟨i, _, hi, h3⟩
      · rcases hL b h3 with ⟨n0, h5, h6, _⟩ | h5
        · exact .inl ⟨n0, h5, h6⟩
        · exact .inr h5
      · exact .inl ⟨_, hn1 i hi, h3⟩)
    (fun n m b hn hm h1 h2 => by
      rcases members n b hn h1 with ⟨rfl, h3⟩ | ⟨i, rfl, hi, h3⟩ <;> rcases members m b hm h2 with ⟨rfl, h4⟩ | ⟨i', rfl, hi', h4⟩
      · rfl
      · exact (cross hi' h3 h4).elim
      · exact (cross hi h4 h3).elim
      · have := hn2 _ _ hi hi' (H.inj _ _ _ h3 h4); rw [this])
  have hsub : ∀ y, famOf (h1.get y) = famOf (h.get y) ∨ h1.get y = none := fun y => by
    rw [hw1 y]
    split
    · exact .inr rfl
    · exact .inl rfl
  have H2 := H1.add' (x := nm) (k := .fam k (nm + 1) xs) ⟨by
      rw [n0]
      refine RowAt.same (fun _ _ => rfl) (fun j us hj ⟨v, h3, h4⟩ => ⟨v, h3, ?_⟩) hRow
      rw [pi j hj]; exact h4, fun j y hj => by
        have hlt : j < xs.length := (List.getElem?_eq_some_iff.1 hj).1
        rw [pi j hlt]
        exact mem_keep (fun t x vs h => F.keeps.rt h) (fun b hb => hkeep j b hlt hb) (hMem j y hj)⟩ (fun y hy => by
      rcases hsub y with h3 | h3
      · rw [h3] at hy; exact (H.free nm (.inl hU)).2 y hy
      · rw [h3] at hy; cases hy) (fun g hg => by
      simp only [famOf, Option.some.injEq] at hg
      subst hg
      refine ⟨fun y _ hy => ?_, ?_, by omega, fun hf => hf.2 (.inr rfl)⟩
      · rcases hsub y with h3 | h3
        · rw [h3] at hy; exact (H.free (nm + 1) (.inl hU')).2 y hy
        · rw [h3] at hy; cases hy
      · rw [hw1]
        split
        · rfl
        · exact H.noKey (.inl hU')) hp
  refine does_value hx ⟨_, _, hq, ((H.step (pr'' := pr) (ks' := ks) (nx' := nx) F H2).put hd (c := .own (.top nm)) ?_ he).less fun x hx => ?_, rfl, rfl, Nat.le_refl _, F, he.kept v⟩
  · refine .own _ _ h1c ?_ trivial fun u hu => ?_
    · show φ' (nm, 0) ≠ _
      rw [n0]; intro e; rw [e] at hlv; cases hlv
    · have hu : (φ' (nm, 0)).hd = some u := hu
      rw [n0, hlv] at hu
      injection hu
  · rcases hx with ⟨h1, h2, h3⟩ | h1
    · exact ⟨.inl h1, by rintro (h | h); exact h2 h; exact h3 h⟩
    · have h1 : nx ≤ x := h1
      exact ⟨.inr h1, by omega⟩
theorem row_src (w : World) {t el' : TypeId} (ht : P.underlying t = some (.slice el')) {l : Lc} {n : Nat} {Q : Nat → List Value → Prop} (hr : RowAt w l 1 n Q) (hone : ∀ j us, Q j us → ∀ u ∈ us, u.oneCell' = true) {v : Value} (hv : l.hd = some v) :
    ∃ news, Src P 1 t v n news w ∧ ∀ j, j < n → ∃ us, Q j us ∧ us.length = 1 ∧ ∀ (c : Nat) (u : Value), us[c]? = some u → news[j * 1 + c]? = some u := by
  rcases hr with ⟨v', rfl, rfl, hb⟩ | ⟨b, off, cap, vs, ty, z, rfl, h2, h3, h4, h5, h6⟩
  · simp only [Lc.hd, Option.some.injEq] at hv
    subst hv
    rcases hb with rfl | ⟨ad, rfl⟩
    · exact ⟨[], Src.ofNil w ht 0, fun j hj => by omega⟩
    · exact ⟨[], Src.ofSlice w ht ad 0 0 [] rfl (fun j u hj => by cases hj) (fun u hu => by cases hu), fun j hj => by omega⟩
  · simp only [Lc.hd, Option.some.injEq] at hv
    subst hv
    obtain ⟨news, g1, g2, g3⟩ := flat_cells (sz := 1) (Q := fun j us => Q j us) (xs := List.range n) (W := fun j c => vs[off + j * 1 + c]?) fun j x hj => by
      have hjn : j < n := by have := (List.getElem?_eq_some_iff.1 hj).1; simpa using this
      have : x = j := by simpa [hjn] using hj.symm
      subst this
      exact h6 x hjn
    have hlen : news.length = n * 1 := by simpa using g1
    refine ⟨news, Src.ofSlice w ht _ n cap news hlen (fun j u hj => ?_) (fun u hu => ?_), fun j hj => ?_⟩
    · have hj' : j < n := by have := (List.getElem?_eq_some_iff.1 hj).1; omega
      have := g2 j 0 (by simpa using hj') (by omega)
      rw [Nat.mul_one, Nat.add_zero] at this
      rw [addr_add _ rfl, cell_of_heap h3, ← hj, this]
      rfl
    · obtain ⟨j, hj⟩ := List.mem_iff_getElem?.1 hu
      have hj' : j < n := by have := (List.getElem?_eq_some_iff.1 hj).1; omega
      obtain ⟨us, q1, q2, q3⟩ := g3 j j (by simp [hj'])
      have hc : us[0]? = some us[0] := by simp [q2]
      have := q3 0 _ hc
      rw [Nat.mul_one, Nat.add_zero, hj] at this
      injection this with this
      subst this
      exact hone j us q1 _ (by simp)
    · exact g3 j j (by simp [hj])
theorem e_appC3 {t el' : TypeId} {i : TypeInfo} {x y : Operand} (C : AppCtx P o t el' i x y) (hsz : i.size = 1) (hU : U nm) (hU' : U (nm + 1)) (hnx : nm + 1 < nx) (hd : ∀ d, o.dst = some d → d < N) (H : RelAt N B G (FR U nx) φ ⟨e, h, nx, pr, ks⟩ a w) {ns : List Nat} (hpn : ∀ n ∈ ns, pr n = false) (hok : OkNs h ns) {h1 : Heap} (hw1 : Without h ns h1)
    {l0 : Lc} (hl0 : l0.hd = some (a.eval x)) {xs ys : List FC.chan.D} {g g' z z' : Nat} (hlb : ∀ b, l0.has b → z ∈ ns ∧ (φ (z, 0)).has b) (hx1 : RowAt w l0 1 xs.length fun j us => ∃ v, us = [v] ∧ FC.chan.val (φ (g, j + 1)) v) (hx2 : ∀ j y, xs[j]? = some y → MemAt w (Excl B φ) (φ (g, j + 1)) .chan y) (hxg : 0 < xs.length → g ∈ ns ∧ g ≠ g')
    (hl1 : (φ (z', 0)).hd = some (a.eval y)) (hy1 : RowAt w (φ (z', 0)) 1 ys.length fun j us => ∃ v, us = [v] ∧ FC.chan.val (φ (g', j + 1)) v) (hy2 : ∀ j y, ys[j]? = some y → MemAt w (Excl B φ) (φ (g', j + 1)) .chan y) (hyg : g' ∈ ns)
    (hq : evAppC3 ⟨e, h1, nx, pr, ks⟩ nm o.dst i.bytes xs ys q = some res) : Does P N B G (Used U nm) pr ks nx φ w a o q res := by
  obtain ⟨⟨c, hcl, hca, hct, ho⟩, ht, hi, ⟨zz, hz, hzs⟩, h0, hby⟩ := C
  unfold evAppC3 at hq
  obtain ⟨hfit, hq⟩ := need_some hq
  have hfit := ble_true hfit
  obtain ⟨news, hS, hg⟩ := row_src (P := P) w ht hy1 (fun j us ⟨v, h3, b, h4, h5⟩ u hu => by subst h3; simp only [List.mem_singleton] at hu; subst hu; rw [h5]; rfl) hl1
  obtain ⟨v, w', l, r1, r2, r3, r4, r5, r6, r7, r8, r9, r10⟩ := app_row (P := P) (ty := o.type) ht hi hz hzs h0 hby (by rw [hsz]; exact hx1) hl0 (by rw [hsz]; exact hS) hfit
  rw [hsz] at r10
  let nmOf : Nat → Nm := fun j => if j < xs.length then (g, j + 1) else (g', j - xs.length + 1)
  have k1 : ∀ j, j < xs.length → nmOf j = (g, j + 1) := fun j hj => by simp [nmOf, hj]
  have k2 : ∀ j, nmOf (xs.length + j) = (g', j + 1) := fun j => by
    have : ¬ xs.length + j < xs.length := by omega
    show (if xs.length + j < xs.length then (g, xs.length + j + 1) else (g', xs.length + j - xs.length + 1)) = _
    rw [if_neg this, Nat.add_sub_cancel_left]
  have k3 : ∀ j, (nmOf j).2 ≠ 0 := fun j => by
    by_cases hj : j < xs.length
    · rw [k1 j hj]; simp
    · simp [nmOf, hj]
  refine fam_put (k := .chan) (xs := xs ++ ys) (nmOf := nmOf) H hpn hok hw1 hU hU' hnx hd (app_ex hcl hca hct ho r1) r2 r3 r4 r5 r6 r7 (fun b hlt hn => r8 b hlt fun hh => ?_) (fun j hj => ?_) (fun i j hi hj hij => ?_) (fun b hh => ?_) ?_ (fun j y hj => ?_) (fun j b hj hh => ?_) hq
  · obtain ⟨h3, h4⟩ := hlb b hh
    exact hn _ h4 h3
  · by_cases hjx : j < xs.length
    · rw [k1 j hjx]; exact (hxg (by omega)).1
    · simp only [nmOf, hjx, if_false]; exact hyg
  · simp only [nmOf] at hij
    split at hij <;> split at hij <;> injection hij with e1 e2
    · omega
    · exact absurd e1 (hxg (by omega)).2
    · exact absurd e1.symm (hxg (by omega)).2
    · omega
  · rcases r9 b hh with h3 | h3
    · obtain ⟨h4, h5⟩ := hlb b h3
      exact .inl ⟨_, h4, h5, fun j _ e => k3 j (by rw [← e])⟩
    · exact .inr h3
  · rw [List.length_append]
    refine r10 _ (fun j us hj hh => ?_) fun j hj => ?_
    · rw [k1 j hj]; exact hh
    · obtain ⟨us, g1, g2, g3⟩ := hg j hj
      exact ⟨us, by rw [k2 j]; exact g1, g2, g3⟩
  · by_cases hjx : j < xs.length
    · rw [List.getElem?_append_left hjx] at hj
      rw [k1 j hjx]; exact hx2 j y hj
    · rw [List.getElem?_append_right (by omega)] at hj
      simp only [nmOf, hjx, if_false]
      exact hy2 _ y hj
  · refine r8 b (H.lt _ _ hh).1 fun h3 => ?_
    have := H.inj _ _ _ (hlb b h3).2 hh
    exact k3 j (by rw [← this])
theorem e_appC {t el' : TypeId} {i : TypeInfo} {x y : Operand} (C : AppCtx P o t el' i x y) (hsz : i.size = 1) (hU : U nm) (hU' : U (nm + 1)) (hnx : nm + 1 < nx) (hd : ∀ d, o.dst = some d → d < N) (H : RelAt N B G (FR U nx) φ ⟨e, h, nx, pr, ks⟩ a w) {c d : V} (hx : Rep w (Excl B φ) φ c (a.eval x)) (hy : Rep w (Excl B φ) φ d (a.eval y))
    (hq : evAppC ⟨e, h, nx, pr, ks⟩ nm o.dst i.bytes q c d = some res) : Does P N B G (Used U nm) pr ks nx φ w a o q res := by
  have fam_ok : ∀ {z g : Nat} {k : FC} {xs : List k.D}, h.get z = some (.fam k g xs) → ∀ y, (famOf (h.get y) = some z → False) ∧ (famOf (h.get y) = some g → y = z) := fun {z g k xs} hs y => ⟨fun hy => famOf_none H.toHeapAt hs y hy, fun hy => H.gen y z g hy (by rw [hs]; rfl)⟩
  unfold evAppC at hq
  split at hq
  · rename_i z'
    split at hq
    · rename_i g' ys hs
      obtain ⟨hpn, h1, hw1, hq⟩ := dropS_spec hq
      obtain ⟨_, _, _, hv⟩ := rep_own hy
      have hB := H.st z' _ hs
      obtain ⟨u0, hu0, _⟩ := row_hd hB.1
      refine e_appC3 C hsz hU hU' hnx hd H hpn (fun n hn y hf => ?_) hw1 (l0 := .val (a.eval x)) rfl (z := 0) (g := 0) (fun b hb => hb.elim) (xs := []) (.inl ⟨_, rfl, rfl, .inl (rep_raw hx).1⟩) (fun j y hj => by cases hj) (fun h => by simp at h) (z' := z') (by rw [hu0, hv u0 hu0]) hB.1 hB.2 (by simp) hq
      simp only [List.mem_cons, List.not_mem_nil, or_false] at hn
      rcases hn with rfl | rfl
      · exact ((fam_ok hs y).1 hf).elim
      · simp [(fam_ok hs y).2 hf]
    · cases hq
  · rename_i z z'
    unfold evAppC2 at hq
    split at hq
    · rename_i g xs g' ys hs hs'
      split at hq
      · cases hq
      · rename_i hne
        have hne : z ≠ z' := Nat.ne_of_beq_eq_false hne
        obtain ⟨hpn, h1, hw1, hq⟩ := dropS_spec hq
        obtain ⟨_, _, _, hv⟩ := rep_own hx
        obtain ⟨_, _, _, hv'⟩ := rep_own hy
        have hB := H.st z _ hs
        have hB' := H.st z' _ hs'
        obtain ⟨u0, hu0, _⟩ := row_hd hB.1
        obtain ⟨u1, hu1, _⟩ := row_hd hB'.1
        refine e_appC3 C hsz hU hU' hnx hd H hpn (fun n hn y hf => ?_) hw1 (l0 := φ (z, 0)) (by rw [hu0, hv u0 hu0]) (z := z) (g := g) (fun b hb => ⟨by simp, hb⟩) hB.1 hB.2 (fun _ => ⟨by simp, fun e => hne (H.gen z z' g' (by rw [hs, ← e]; rfl) (by rw [hs']; rfl))⟩) (z' := z') (by rw [hu1, hv' u1 hu1]) hB'.1 hB'.2 (by simp) hq
        simp only [List.mem_cons, List.not_mem_nil, or_false] at hn
        rcases hn with rfl | rfl | rfl | rfl
        · exact ((fam_ok hs y).1 hf).elim
        · simp [(fam_ok hs y).2 hf]
        · exact ((fam_ok hs' y).1 hf).elim
        · simp [(fam_ok hs' y).2 hf]
    · cases hq
  · cases hq
theorem e_app {t el' : TypeId} {i : TypeInfo} {x y : Operand} (C : AppCtx P o t el' i x y) {et : Option TC} (hU : U nm) (hU' : U (nm + 1)) (hnx : nm + 1 < nx) (hd : ∀ d, o.dst = some d → d < N)
    (hq : evApp ⟨e, h, nx, pr, ks⟩ nm o.dst et i.size i.bytes q (TM.opd e (tOpd x)) (TM.opd e (tOpd y)) = some res) (H : RelAt N B G (FR U nx) φ ⟨e, h, nx, pr, ks⟩ a w) : Does P N B G (Used U nm) pr ks nx φ w a o q res := by
  unfold evApp at hq
  split at hq
  · rename_i c d hx hy
    split at hq
    · split at hq
      · rename_i hb
        exact e_appC C (beq_true hb) hU hU' hnx hd H (H.opd hx) (H.opd hy) hq
      · cases hq
    · rename_i el _
      split at hq
      · rename_i p ys ns hb hs
        obtain ⟨hp0, hq2⟩ := need_some hq
        subst hp0
        exact e_app2 C (beq_true hb).symm hU hU' hnx hd H (src_rd H.toHeapAt hs (H.opd hy)) (H.opd hx) hq2
      · cases hq
    · cases hq
  · cases hq
end
end Go.TM
namespace Go.TM
open Go.RowKit
open Go.ChangeMaps (setBlock)
section
variable {P : Program} {ty : TypeId} {N : Nat} {B : Nat → Prop} {G : Nat → Nat → Value → Prop} {fr U : Nat → Prop} {φ : Loc} {a : Act} {w : World} {e : T V} {h : Heap} {nx : Nat} {pr ks : Nat → Bool} {R : Type} {res : R}
variable {o : Oper} {nm : Nat} {q : S → Option R}
theorem rep_emptup {X : Nat → Prop} : Rep w X φ (.tup []) (.tuple #[]) := .tup [] [] rfl fun _ _ _ h => by cases h
theorem val1_spec {X Y : Nat → Prop} {t : TC} {c : V} {d : t.D} (hv : val1 t c = some d) {u : Value} (hr : Rep w X φ c u) : RT w Y t d [u] := by
  unfold val1 at hv
  split at hv
  · rename_i k k' n
    split at hv
    · rename_i hk
      obtain rfl := of_decide_eq_true hk
      injection hv with hv
      subst hv
      have := (rep_raw hr).1
      subst this
      rfl
    · cases hv
  · injection hv with hv
    subst hv
    have := (rep_raw hr).1
    subst this
    rfl
  · cases hv
theorem e_mup {t : TypeId} {m k x : Operand} (ho : o.op = .mapUpdate t m k x) {mv : TC} (ht : tMap P t = some mv) (hd : ∀ d, o.dst = some d → d < N)
    (hq : evMup ⟨e, h, nx, pr, ks⟩ o.dst mv q (TM.opd e (tOpd m)) (TM.opd e (tOpd k)) (TM.opd e (tOpd x)) = some res) (H : RelAt N B G (FR U nx) φ ⟨e, h, nx, pr, ks⟩ a w) : Does P N B G U pr ks nx φ w a o q res := by
  obtain ⟨kt, el, h1, h2, z, hz, hz0⟩ := tMap_spec ht
  unfold evMup at hq
  split at hq
  · rename_i y kk c hm hk hx
    unfold evMup2 at hq
    split at hq
    · rename_i mv' ds0 hs
      split at hq
      · rename_i ds hc
        obtain ⟨he, hdd⟩ := castM_spec hc
        subst he
        have hdd : ds = ds0 := hdd
        subst hdd
        unfold evMup3 at hq
        split at hq
        · rename_i d hg
          obtain ⟨hpr, h', hp, hq⟩ := setB_spec hq
          have hs : h.get y = some (.map mv' ds) := hs
          obtain ⟨b, mes, clock, hb, hh, hM⟩ := (show ∃ b mes clock, φ (y, 0) = .blk b ∧ w.heap[b]? = some (.map mes clock) ∧ MapAt w (Excl B φ) mv' mes clock ds from H.st y _ hs)
          have hmv : a.eval m = .map (some b) := (rep_mp (H.opd hm)).2.2 b hb
          have hkv : a.eval k = .int .i64 kk := rep_i (H.opd hk)
          obtain ⟨mes', clock', hrun, hM'⟩ := mapUpdate_run h1 h2 hh hM kk (val1_spec hg (H.opd hx))
          obtain ⟨F, H'⟩ := H.toHeapAt.wr hs (n0 := (y, 0)) rfl hpr (b := b) (by rw [hb]; rfl) (w' := mapW w b (.map mes' clock')) (by simp [mapW]) (fun c hc => mapW_ne hc) rfl rfl rfl (k := .map mv' (putM ds kk d)) rfl (fun hrt' _ => ⟨b, mes', clock', hb, mapW_at hh, hM'.1.keep hrt', hM'.2⟩) hp
          exact wrote H hd F H' (by simp [execOp, ho, hmv, hkv, hrun]) hq
        · cases hq
      · cases hq
    · cases hq
  · cases hq
theorem e_del {m k : Operand} {c : Call} {t t' : TypeId} (hcl : c.callee = .builtin .delete) (hca : c.args = #[m, k]) (hct : c.argTypes = #[t, t']) (ho : o.op = .call c) {mv : TC} (ht : tMap P t = some mv) (hd : ∀ d, o.dst = some d → d < N)
    (hq : evDel ⟨e, h, nx, pr, ks⟩ o.dst mv q (TM.opd e (tOpd m)) (TM.opd e (tOpd k)) = some res) (H : RelAt N B G (FR U nx) φ ⟨e, h, nx, pr, ks⟩ a w) : Does P N B G U pr ks nx φ w a o q res := by
  obtain ⟨kt, el, h1, h2, z, hz, hz0⟩ := tMap_spec ht
  unfold evDel at hq
  split at hq
  · rename_i y kk hm hk
    unfold evDel2 at hq
    split at hq
    · rename_i mv' ds0 hs
      split at hq
      · rename_i ds hc
        obtain ⟨he, hdd⟩ := castM_spec hc
        subst he
        have hdd : ds = ds0 := hdd
        subst hdd
        obtain ⟨hpr, h', hp, hq⟩ := setB_spec hq
        have hs : h.get y = some (.map mv' ds) := hs
        obtain ⟨b, mes, clock, hb, hh, hM⟩ := (show ∃ b mes clock, φ (y, 0) = .blk b ∧ w.heap[b]? = some (.map mes clock) ∧ MapAt w (Excl B φ) mv' mes clock ds from H.st y _ hs)
        have hmv : a.eval m = .map (some b) := (rep_mp (H.opd hm)).2.2 b hb
        have hkv : a.eval k = .int .i64 kk := rep_i (H.opd hk)
        obtain ⟨mes', clock', hrun, hM'⟩ := delete_run (ty := o.type) (t2 := t') h1 h2 hh hM kk
        obtain ⟨F, H'⟩ := H.toHeapAt.wr hs (n0 := (y, 0)) rfl hpr (b := b) (by rw [hb]; rfl) (w' := mapW w b (.map mes' clock')) (by simp [mapW]) (fun c hc => mapW_ne hc) rfl rfl rfl (k := .map mv' (delM ds kk)) rfl (fun hrt' _ => ⟨b, mes', clock', hb, mapW_at hh, hM'.1.keep hrt', hM'.2⟩) hp
        exact does_value (u := .tuple #[]) (by simp [execOp, ho, Go.resolve, invoke, builtin, hcl, hca, hct, hmv, hkv, hrun])
          ((out_same (nm := 0) (H.step (pr'' := pr) (ks' := ks) (nx' := nx) F H') rep_emptup hd hq).from F (Kept.refl _ _) (Nat.le_refl _))
      · cases hq
    · cases hq
  · cases hq
theorem leftOf_none (mes : Array MapEntry) : (leftOf mes #[]).toList = mes.toList := by
  unfold leftOf
  simp
theorem e_rng {t : TypeId} {x : Operand} (ho : o.op = .range t x) {mv : TC} (ht : tMap P t = some mv) (hU : U nm) (hnx : nm + 1 < nx) (hd : ∀ d, o.dst = some d → d < N)
    (hq : evRng ⟨e, h, nx, pr, ks⟩ nm o.dst mv q (TM.opd e (tOpd x)) = some res) (H : RelAt N B G (FR U nx) φ ⟨e, h, nx, pr, ks⟩ a w) : Does P N B G (Used U nm) pr ks nx φ w a o q res := by
  obtain ⟨kt, el, h1, h2, z, hz, hz0⟩ := tMap_spec ht
  unfold evRng at hq
  split at hq
  · rename_i y hx
    unfold evRng2 at hq
    split at hq
    · rename_i mv' ds0 hs
      split at hq
      · rename_i ds hc
        obtain ⟨he, hdd⟩ := castM_spec hc
        subst he
        have hdd : ds = ds0 := hdd
        subst hdd
        have hs : h.get y = some (.map mv' ds) := hs
        obtain ⟨b, mes, clock, hb, hh, hM⟩ := (show ∃ b mes clock, φ (y, 0) = .blk b ∧ w.heap[b]? = some (.map mes clock) ∧ MapAt w (Excl B φ) mv' mes clock ds from H.st y _ hs)
        have hv : a.eval x = .map (some b) := (rep_mp (H.opd hx)).2.2 b hb
        obtain ⟨hpn, hA, hw1, hq⟩ := dropS_spec hq
        simp only [TM.out, forceBlk_eq] at hq
        obtain ⟨hB, hp, hq⟩ := T.putK_spec hq
        obtain ⟨e', he, hq⟩ := setO_spec hq
        let φ' : Loc := fun n => if n.1 = nm then (match n.2 with | 0 => .blk w.heap.size | _ + 1 => .free) else φ.kill [y] n
        have p0 : φ' (nm, 0) = .blk w.heap.size := by simp [φ']
        have po : ∀ n : Nm, ¬ n.1 = nm → φ' n = φ.kill [y] n := fun n hn => by simp [φ', hn]
        have pm : ∀ n b, n.1 = nm → (φ' n).has b → n = (nm, 0) ∧ w.heap.size = b := fun n b hn hh => by
          obtain ⟨n1, n2⟩ := n
          have hn : n1 = nm := hn
          subst hn
          cases n2 with
          | zero => rw [p0] at hh; exact ⟨rfl, hh⟩
          | succ i => simp [φ', Lc.has] at hh
        have hblt := heap_lt hh
        obtain ⟨F, H1⟩ := H.toHeapAt.mv (ns := [y]) (wn := []) (h1 := hA) (Fp := fun x => x = nm) (φ' := φ') (w' := w.alloc (.mapIter (some b) clock #[] clock)) (pr := pr) hpn (by simp) (sub_of_without H.toHeapAt (okns_top H.toHeapAt hs) hw1) (fun x hx => by rw [hx]; exact .inl hU) po (by simp) (fun b hlt hn => Below.heap_alloc w _ b hlt) rfl rfl rfl
          (fun n b hn hh => .inr (by have := (pm n b hn hh).2; subst this; exact ⟨Nat.le_refl _, by simp⟩)) (fun n m b hn hm h1 h2 => (pm n b hn h1).1.trans (pm m b hm h2).1.symm)
        have hnb : ¬ Excl B φ' b := by
          rintro (hb' | ⟨n, hn⟩)
          · exact (H.lt _ b (by rw [hb]; rfl)).2 hb'
          · by_cases hnn : n.1 = nm
            · have := (pm n b hnn hn).2; omega
            · rw [po n hnn] at hn
              obtain ⟨g1, g2⟩ := φ.kill_has hn
              have := H.inj n (y, 0) b g2 (by rw [hb]; rfl)
              subst this
              exact g1 (by simp)
        have hlt2 : b < (w.alloc (.mapIter (some b) clock #[] clock)).heap.size := by
          have : (w.alloc (.mapIter (some b) clock #[] clock)).heap.size = w.heap.size + 1 := by simp
          omega
        have H2 := H1.add' (x := nm) (k := .iter mv' ds none) ⟨w.heap.size, p0, b, mes, clock, clock, #[], clock, alloc_at _ _, hnb, hlt2, (Below.heap_alloc w _ b hblt).trans hh, hM.2.2.2, Nat.le_refl _, Nat.le_refl _, hM.2.2.1, by rw [leftOf_none]; exact hM.1.keep fun t x vs h => F.keeps.rt h, fun d hd => by cases hd⟩ (fun z hz => by
            rw [hw1 z] at hz
            split at hz
            · cases hz
            · exact (H.free nm (.inl hU)).2 z hz) (fun g hg => by cases hg) hp
        refine does_value (u := .pointer (some ⟨w.heap.size, 0, none⟩)) (w' := w.alloc (.mapIter (some b) clock #[] clock)) ?_ ⟨_, _, hq, ((H.step (pr'' := pr) (ks' := ks) (nx' := nx) F H2).put hd (c := .ptr nm 0) ?_ he).less fun x hx => ?_, rfl, rfl, Nat.le_refl _, F, he.kept _⟩
        · have := run_range_map (P := P) w t kt el b mes clock h1 hh
          simp [execOp, ho, hv, this]
        · refine .ptr _ _ _ ⟨_, rfl, rfl⟩ (by rw [p0]; nofun) fun b' hb' => ?_
          rw [p0] at hb'
          injection hb' with hb'
          rw [hb']
        · rcases hx with ⟨h1, h2, _⟩ | h1
          · exact ⟨.inl h1, h2⟩
          · have h1 : nx ≤ x := h1
            exact ⟨.inr h1, by omega⟩
      · cases hq
    · cases hq
  · cases hq
theorem pickAny_some {A : Type} {l : List A} {x : Option R} {f : A → List A → Option R} (hq : pickAny l x f = some res) : (l = [] ∧ x = some res) ∨ (l ≠ [] ∧ ∀ (i : Nat) (b : A), l[i]? = some b → f b (l.eraseIdx i) = some res) := by
  unfold pickAny at hq
  split at hq
  · rename_i hl; exact .inl ⟨hl, hq⟩
  · rename_i hne
    split at hq
    · rename_i hr
      injection hq with hq
      exact .inr ⟨hne, fun i b hb => by rw [← hq]; exact Classical.choose_spec hr i b hb⟩
    · cases hq
theorem left_push {mes : Array MapEntry} {seen : Array Nat} (hn : (mes.toList.map (·.born)).Nodup) {i : Nat} {en : MapEntry} (hi : (leftOf mes seen).toList[i]? = some en) : (leftOf mes (seen.push en.born)).toList = (leftOf mes seen).toList.eraseIdx i := by
  have h1 : (leftOf mes (seen.push en.born)).toList = (leftOf mes seen).toList.filter fun e => !(e.born == en.born) := by
    unfold leftOf
    rw [Array.toList_filter, Array.toList_filter, List.filter_filter]
    congr 1
    funext e
    simp only [Array.contains_push]
    cases seen.contains e.born <;> cases (e.born == en.born) <;> rfl
  have h2 : ((leftOf mes seen).toList.map (·.born)).Nodup := by
    unfold leftOf
    rw [Array.toList_filter]
    exact hn.sublist (List.filter_sublist.map _)
  rw [h1]
  generalize (leftOf mes seen).toList = L at hi h2
  clear h1
  induction L generalizing i with
  | nil => simp at hi
  | cons x L ih =>
    simp only [List.map_cons, List.nodup_cons] at h2
    cases i with
    | zero =>
      simp only [List.getElem?_cons_zero, Option.some.injEq] at hi
      subst hi
      rw [List.filter_cons_of_neg (by simp), List.eraseIdx_cons_zero]
      refine List.filter_eq_self.2 fun y hy => ?_
      have : y.born ≠ x.born := fun e => h2.1 (by rw [← e]; exact List.mem_map.2 ⟨y, hy, rfl⟩)
      simpa using this
    | succ i =>
      simp only [List.getElem?_cons_succ] at hi
      have : x.born ≠ en.born := fun e => h2.1 (by rw [e]; exact List.mem_map.2 ⟨en, List.mem_of_getElem? hi, rfl⟩)
      rw [List.filter_cons_of_pos (by simpa using this), List.eraseIdx_cons_succ, ih hi h2.2]
theorem setBlock_at {w : World} {r : Nat} {o o' : Obj} (h : w.heap[r]? = some o) : (setBlock w r o').heap[r]? = some o' := by
  have := (Array.getElem?_eq_some_iff.1 h).1
  simp [setBlock, this]
theorem setBlock_ne {w : World} {r c : Nat} {o : Obj} (h : c ≠ r) : (setBlock w r o).heap[c]? = w.heap[c]? := by
  simp [setBlock, Array.getElem?_setIfInBounds_ne (Ne.symm h)]
theorem e_nxt {x : Operand} (ho : o.op = .next x false) (hd : ∀ d, o.dst = some d → d < N)
    (hq : evNxt ⟨e, h, nx, pr, ks⟩ o.dst q (TM.opd e (tOpd x)) = some res) (H : RelAt N B G (FR U nx) φ ⟨e, h, nx, pr, ks⟩ a w) : Does P N B G U pr ks nx φ w a o q res := by
  unfold evNxt at hq
  split at hq
  · rename_i y hx
    unfold evNxt2 at hq
    split at hq
    · rename_i mv left last hs
      have hs : h.get y = some (.iter mv left last) := hs
      obtain ⟨rb, hr, b, mes, clock, since, seen, c0, g1, g2, g3, g4, g5, g6, g7, g8, g9, g10⟩ := (show ∃ r, φ (y, 0) = .blk r ∧ IterAt w (Excl B φ) r mv left last from H.st y _ hs)
      have hv : a.eval x = .pointer (some ⟨rb, 0, none⟩) := (rep_ptr (H.opd hx)).2.2 rb hr
      rcases run_next_at (P := P) w o.type rb b since c0 seen mes clock g1 g4 g5 g6 with ⟨h0, hrun⟩ | ⟨en, hen, w1, hw1, hrun⟩
      · have hl : left = [] := List.eq_nil_of_length_eq_zero (by rw [g9.1]; simpa using h0)
        rcases pickAny_some hq with ⟨_, hq⟩ | ⟨hne, _⟩
        · refine does_value (u := .tuple #[.bool false]) (by simp [execOp, ho, hv, hrun]) (out_same (nm := 0) H (.tup _ [.bool false] rfl fun i c v k1 k2 => ?_) hd hq)
          match i, k1, k2 with
          | 0, k1, k2 => simp at k1 k2; subst k1; subst k2; exact .raw _ rfl
          | _ + 1, k1, k2 => simp at k1
        · exact absurd hl hne
      · obtain ⟨i, hi⟩ := List.getElem?_of_mem hen
        obtain ⟨d, hdl, hE⟩ := g9.keys hi
        rcases pickAny_some hq with ⟨hl, _⟩ | ⟨_, hq⟩
        · rw [hl] at hdl; simp at hdl
        · have hq := hq i d hdl
          unfold evNxt3 at hq
          split at hq
          · rename_i c hcell
            obtain ⟨hpr, h', hp, hq⟩ := setB_spec hq
            have hr1 : w1.heap[rb]? = some (.mapIter (some b) since seen c0) := by rcases hw1 with rfl | rfl <;> exact g1
            have hne : b ≠ rb := fun e => by rw [e, g1] at g4; cases g4
            have hmem : en ∈ mes.toList := by
              have := hen
              unfold leftOf at this
              rw [Array.toList_filter] at this
              exact (List.mem_filter.1 this).1
            have hold : ∀ c, c ≠ rb → (setBlock w1 rb (.mapIter (some b) since (seen.push en.born) clock)).heap[c]? = w.heap[c]? := fun c hc => (setBlock_ne hc).trans (by rcases hw1 with rfl | rfl <;> rfl)
            have hsz : (setBlock w1 rb (.mapIter (some b) since (seen.push en.born) clock)).heap.size = w.heap.size := by rcases hw1 with rfl | rfl <;> simp [setBlock]
            obtain ⟨F, H'⟩ := H.toHeapAt.wr hs (n0 := (y, 0)) rfl hpr (b := rb) (by rw [hr]; rfl) (w' := setBlock w1 rb (.mapIter (some b) since (seen.push en.born) clock)) hsz hold (by rcases hw1 with rfl | rfl <;> rfl) (by rcases hw1 with rfl | rfl <;> rfl) (by rcases hw1 with rfl | rfl <;> rfl) (k := .iter mv (left.eraseIdx i) (some d)) rfl (fun hrt' _ => ⟨rb, hr, b, mes, clock, since, seen.push en.born, clock, setBlock_at hr1, g2, by rw [hsz]; exact g3, (hold b hne).trans g4, g5, g7, g7, g8, by
                rw [left_push g8 hi]
                refine EntsAt.keep hrt' ⟨by rw [List.length_eraseIdx, List.length_eraseIdx, g9.1], fun j d' e' k1 k2 => ?_⟩
                rw [List.getElem?_eraseIdx] at k1 k2
                split at k1
                · rename_i hj; rw [if_pos hj] at k2; exact g9.2 j d' e' k1 k2
                · rename_i hj; rw [if_neg hj] at k2; exact g9.2 (j + 1) d' e' k1 k2, fun d' hd' => by
                injection hd' with hd'
                subst hd'
                exact ⟨rfl, en, seen, hmem, rfl, hE.1, hrt' _ _ _ hE.2⟩⟩) hp
            refine does_value (u := .tuple #[.bool true, en.key, en.val]) (w' := setBlock w1 rb (.mapIter (some b) since (seen.push en.born) clock)) (by simp [execOp, ho, hv, hrun]) ((out_same (nm := 0) (H.step (pr'' := pr) (ks' := ks) (nx' := nx) F H') (.tup _ [.bool true, en.key, en.val] rfl fun i' c' v' k1 k2 => ?_) hd hq).from F (Kept.refl _ _) (Nat.le_refl _))
            match i', k1, k2 with
            | 0, k1, k2 => simp at k1 k2; subst k1; subst k2; exact .raw _ rfl
            | 1, k1, k2 => simp at k1 k2; subst k1; subst k2; rw [hE.1]; exact .raw _ rfl
            | 2, k1, k2 => simp at k1 k2; subst k1; subst k2; exact cell1_spec hcell hE.2
            | _ + 3, k1, k2 => simp at k1
          · cases hq
    · cases hq
  · cases hq
theorem nilS_slice (H : HeapAt B G fr φ h w) {c : V} {p b : Bool} {v : Value} (hq : nilS h c = some (p, b)) (hr : Rep w (Excl B φ) φ c v) : ∃ ad n k, v = .slice ad n k := by
  have row : ∀ {l : Lc} {sz len : Nat} {Q : Nat → List Value → Prop}, RowAt w l sz len Q → (∀ u, l.hd = some u → v = u) → ∃ ad n k, v = .slice ad n k := by
    intro l sz len Q hr hv
    rcases hr with ⟨v', rfl, _, h1⟩ | ⟨b, off, cap, vs, t, z, rfl, _⟩
    · have := hv _ rfl
      subst this
      rcases h1 with rfl | ⟨ad, rfl⟩
      · exact ⟨_, _, _, rfl⟩
      · exact ⟨_, _, _, rfl⟩
    · exact ⟨_, _, _, hv _ rfl⟩
  unfold nilS at hq
  split at hq
  · exact ⟨none, 0, 0, (rep_raw hr).1⟩
  · obtain ⟨hd, cap, h2, _⟩ := rep_ts hr
    injection h2 with h2
    exact ⟨_, _, _, h2⟩
  · rename_i x
    obtain ⟨_, _, _, hv⟩ := rep_own hr
    split at hq
    · rename_i e xs hs
      exact row (show ArrAt w (Excl B φ) (φ (x, 0)) e xs from H.st x _ hs) hv
    · rename_i k g xs hs
      exact row (H.st x _ hs).1 hv
    · cases hq
  · cases hq
theorem asks_v {op : BinOp} {b p : Bool} {c : V} (h : asks op b = some (p, c)) : p = true := by
  unfold asks at h
  split at h
  · injection h with h; injection h with h _; exact h.symm
  · injection h with h; injection h with h _; exact h.symm
  · cases h
theorem e_isnil {op : BinOp} {t t' : TypeId} {x y : Operand} (ho : o.op = .binOp op t x y t') {el : TypeId} (ht : P.underlying t = some (.slice el)) (hyn : tOpd y = .con (.raw (.slice none 0 0))) (hd : ∀ d, o.dst = some d → d < N)
    (hq : evIsnil ⟨e, h, nx, pr, ks⟩ o.dst op q (TM.opd e (tOpd x)) = some res) (H : RelAt N B G (FR U nx) φ ⟨e, h, nx, pr, ks⟩ a w) : Does P N B G U pr ks nx φ w a o q res := by
  unfold evIsnil at hq
  split at hq
  · rename_i c hx
    split at hq
    · rename_i p1 vt p2 vf h1 h2
      have hyv : a.eval y = .slice none 0 0 := by
        have := H.opd (show TM.opd e (tOpd y) = some (.raw (.slice none 0 0)) from by rw [hyn]; rfl)
        exact (rep_raw this).1
      obtain rfl := asks_v h1
      obtain rfl := asks_v h2
      -- what is answered of a slice
      have run : ∀ (ad : Option Addr) (n k : Nat) (vv : V), a.eval x = .slice ad n k → asks op ad.isNone = some (true, vv) → ∃ u, (execOp a.eval o).run P w = .ok (.value u) w ∧ Rep w (Excl B φ) φ vv u := by
        intro ad n k vv hxv hh
        obtain ⟨u, hr, hrep⟩ := asks_eq (P := P) (X := Excl B φ) (φ := φ) (w := w) (t := t) (u := .slice ad n k) (v := .slice none 0 0) hh (fun w' => (eqIn_slice_nil (d := 9999) ht ad n k 0 0 w').1) (fun w' => by simp [binOp]) (fun w' => by simp [binOp])
        have hpl : Plain (Value.slice ad n k) (.slice none 0 0) := ⟨fun z h => (by cases h), by intro h; cases h⟩
        exact ⟨u, by simp [execOp, ho, hxv, hyv, eqGuard_run hpl, hr], hrep⟩
      have fin : ∀ (vv : V), out ⟨e, h, nx, pr, ks⟩ o.dst 0 vv none q = some res → (∃ u, (execOp a.eval o).run P w = .ok (.value u) w ∧ Rep w (Excl B φ) φ vv u) → Does P N B G U pr ks nx φ w a o q res := by
        rintro vv hq ⟨u, hr, hrep⟩
        exact does_value hr (out_same (nm := 0) H hrep hd hq)
      unfold evIsnil2 at hq
      split at hq
      · rename_i p hn
        obtain ⟨ad, n, k, hv⟩ := nilS_slice H.toHeapAt hn (H.opd hx)
        have : p = true ∧ ad = none := by
          unfold nilS at hn
          split at hn
          · have := (rep_raw (H.opd hx)).1
            rw [this] at hv
            injection hv with hv
            injection hn with hn
            injection hn with hn _
            exact ⟨hn.symm, hv.symm⟩
          · cases hn
          · split at hn <;> cases hn
          · cases hn
        obtain ⟨_, rfl⟩ := this
        exact fin vt hq (run none n k vt hv h1)
      · rename_i p hn
        obtain ⟨ad, n, k, hv⟩ := nilS_slice H.toHeapAt hn (H.opd hx)
        rcases ask_some hq with ⟨rfl, hq⟩ | ⟨rfl, hq⟩
        · obtain ⟨ad', n', k', hv', hb⟩ := nilS_ok H.st hn (H.opd hx)
          exact fin vf hq (run ad' n' k' vf hv' (by rw [← hb]; exact h2))
        · obtain ⟨q1, q2⟩ := both_some hq
          cases ad with
          | none => exact fin vt q1 (run none n k vt hv h1)
          | some ad => exact fin vf q2 (run (some ad) n k vf hv h2)
      · cases hq
    · cases hq
  · cases hq
end
end Go.TM
namespace Go.TM
open Go.RowKit
section
variable {P : Program} {ty : TypeId} {N : Nat} {B : Nat → Prop} {G : Nat → Nat → Value → Prop} {fr U : Nat → Prop} {φ : Loc} {a : Act} {w : World} {e : T V} {h : Heap} {nx : Nat} {pr ks : Nat → Bool} {R : Type} {res : R}
variable {o : Oper} {nm : Nat} {q : S → Option R}
theorem e_bytes {t d el : TypeId} {x : Operand} (ho : o.op = .convert t d x) (ht : P.underlying t = some .string) (hdt : P.underlying d = some (.slice el)) (hel : P.underlying el = some (.int .u8)) (hU : U nm) (hnx : nm + 1 < nx) (hd : ∀ d, o.dst = some d → d < N)
    (hq : evBytes ⟨e, h, nx, pr, ks⟩ nm o.dst q (TM.opd e (tOpd x)) = some res) (H : RelAt N B G (FR U nx) φ ⟨e, h, nx, pr, ks⟩ a w) : Does P N B G (Used U nm) pr ks nx φ w a o q res := by
  unfold evBytes at hq
  split at hq
  · rename_i t' hx
    obtain ⟨s, hv, hs⟩ := rep_str (H.opd hx)
    have hlen : t'.length = s.size := by rw [← hs]; simp [bytesI]
    have hge := grownCap_ge w s.size 0 el
    have hsz : (bytesRow s (grownCap w s.size 0 el)).size = grownCap w s.size 0 el := by
      have : s.data.size = s.size := rfl
      simp only [bytesRow, Array.size_append, Array.size_map, Array.size_replicate]
      omega
    refine does_value (u := .slice (some ⟨w.heap.size, 0, none⟩) s.size (grownCap w s.size 0 el)) (w' := w.drew.alloc (.cells (bytesRow s (grownCap w s.size 0 el)) el ((bytesRow s (grownCap w s.size 0 el)).size, (bytesRow s (grownCap w s.size 0 el)).size + 1))) ?_
      (out_new H hU hnx (w' := w.drew.alloc (.cells (bytesRow s (grownCap w s.size 0 el)) el ((bytesRow s (grownCap w s.size 0 el)).size, (bytesRow s (grownCap w s.size 0 el)).size + 1))) (l := .at_ w.heap.size 0 s.size (grownCap w s.size 0 el)) ⟨by simp, fun b hb => Below.heap_alloc w.drew _ b hb, rfl, rfl, rfl⟩ (fun b hb => ?_) nofun rfl (fun φ' hrt hr hφ => ?_) (fun φ' hr hφ => ?_) hd hq)
    · have := run_bytes_of_string (P := P) w t d el s ht hdt hel
      simp [execOp, ho, hv, this]
    · have : w.heap.size = b := hb
      subst this
      exact ⟨Nat.le_refl _, by simp⟩
    · refine .inr ⟨_, 0, grownCap w s.size 0 el, _, el, _, by rw [hφ, hlen], by omega, drew_alloc_at _ _, fun i hi => by omega, by rw [hsz]; simp [TC.sz], fun j hj => ?_⟩
      have hj' : j < s.data.size := by rw [hlen] at hj; exact hj
      refine ⟨[.int .u8 (s.data[j].toNat : Int)], fun x hx => ?_, rfl, fun c u hu => ?_⟩
      · rw [← hs] at hx
        have hx' : (bytesI s)[j]? = some (s.data[j].toNat : Int) := by
          unfold bytesI
          rw [List.getElem?_map, Array.getElem?_toList, Array.getElem?_eq_getElem hj']
          rfl
        have hx2 : some (s.data[j].toNat : Int) = some x := hx'.symm.trans hx
        injection hx2 with hx2
        subst hx2
        rfl
      · cases c with
        | zero =>
          simp only [List.getElem?_cons_zero, Option.some.injEq] at hu
          subst hu
          have hg : (bytesRow s (grownCap w s.size 0 el))[j]? = some (.int .u8 (s.data[j].toNat : Int)) := by
            unfold bytesRow
            rw [Array.getElem?_append_left (by simpa using hj'), Array.getElem?_map, Array.getElem?_eq_getElem hj']
            rfl
          show (bytesRow s (grownCap w s.size 0 el))[0 + j * 1 + 0]? = _
          rw [show 0 + j * 1 + 0 = j from by omega]
          exact hg
        | succ c => simp at hu
    · exact .own _ _ rfl (by show φ' (nm, 0) ≠ _; rw [hφ]; nofun) trivial fun u hu => by
        have hu : (φ' (nm, 0)).hd = some u := hu
        rw [hφ] at hu; injection hu
  · cases hq
theorem isBytes_all : ∀ {t : List Int}, isBytes t = true → ∃ l : List UInt8, t = l.map fun b => (b.toNat : Int)
  | [], _ => ⟨[], rfl⟩
  | n :: t, h => by
    simp only [isBytes] at h
    obtain ⟨h1, h2⟩ := andB_true h
    obtain ⟨m, h3, _, h4⟩ := inB_true h1
    obtain ⟨l, h5⟩ := isBytes_all h2
    have hto : (UInt8.ofNat m).toNat = m := by simp [UInt8.toNat_ofNat]; omega
    exact ⟨UInt8.ofNat m :: l, by simp only [List.map_cons, hto, h5, h3]⟩
theorem e_text {t d el : TypeId} {x : Operand} (ho : o.op = .convert t d x) (ht : P.underlying t = some (.slice el)) (hdt : P.underlying d = some .string) (hel : P.underlying el = some (.int .u8)) (hd : ∀ d, o.dst = some d → d < N)
    (hq : evText ⟨e, h, nx, pr, ks⟩ nm o.dst q (TM.opd e (tOpd x)) = some res) (H : RelAt N B G (FR U nx) φ ⟨e, h, nx, pr, ks⟩ a w) : Does P N B G (Used U nm) pr ks nx φ w a o q res := by
  unfold evText at hq
  split at hq
  · rename_i c hx
    split at hq
    · rename_i p t' ns hy
      obtain ⟨hp0, hq2⟩ := need_some hq
      clear hq
      subst hp0
      obtain ⟨hby, hq⟩ := need_some hq2
      obtain ⟨hrt, _⟩ := elsOf_sound H.toHeapAt hy (H.opd hx)
      obtain ⟨l, rfl⟩ := isBytes_all hby
      have hrep : Rep w (Excl B φ) φ (.str (l.map fun b => (b.toNat : Int))) (.string ⟨l.toArray⟩) := .str _ _ (by simp [bytesI])
      refine does_value (u := .string ⟨l.toArray⟩) (w' := w) ?_ ((out_same H hrep hd hq).less fun x hx => hx.1)
      have hconv : (convert t d (a.eval x)).run P w = .ok (.string ⟨l.toArray⟩) w := by
        obtain ⟨hd', cap, h1, h2, h3, h4⟩ := hrt
        injection h1 with h1
        rw [h1, run_convert_bytes_string w t d el hd' _ cap ht hel hdt]
        cases hd' with
        | none =>
          have hl : l = [] := List.eq_nil_of_length_eq_zero (by have := h3 rfl; simp at h2; omega)
          subst hl
          simp [Conv.bytesToString]
          rfl
        | some ad =>
          have hlc : (loadCells ad (l.map fun b => (b.toNat : Int)).length).run P w = .ok ((l.map fun b => (b.toNat : Int)).map (Value.int .u8)).toArray w := by
            have := run_firstCells_some (P := P) w 1 (l.map fun b => (b.toNat : Int)).length ad (l.map fun b => (b.toNat : Int)).length cap ((l.map fun b => (b.toNat : Int)).map (Value.int .u8)) (by simp) fun j v hj => by
              rw [List.getElem?_map] at hj
              obtain ⟨n, hn, rfl⟩ := Option.map_eq_some_iff.1 hj
              obtain ⟨ad', us, g1, g2, g3, g4⟩ := h4 j n hn
              injection g1 with g1
              subst g1
              have g4 : us = [.int .u8 n] := g4
              subst g4
              have := g3.cell 0 _ rfl
              rw [addr_add _ g2]
              simpa [TC.sz] using this
            simpa [Builtin.firstCells] using this
          rw [run_bytesToString w ad _ cap _ hlc, foldl_push_byteCells]
          congr 2
          show (ByteArray.mk _) = _
          simp
      simp [execOp, ho, hconv]
    · cases hq
  · cases hq
theorem e_litc {t el' : TypeId} {ps : Array (Nat × Operand)} (ho : o.op = .buildSlice t 1 ps) (ht : P.underlying t = some (.slice el')) (hk : tSize P el' = some 1) {zr : Value} (hzr : ∀ w, (zeroValue el').run P w = .ok zr w) {x : Operand} (hps : ps.toList = [(0, x)])
    (hU : U nm) (hU' : U (nm + 1)) (hnx : nm + 1 < nx) (hd : ∀ d, o.dst = some d → d < N) (hq : evLitc ⟨e, h, nx, pr, ks⟩ nm o.dst q (TM.opd e (tOpd x)) = some res) (H : RelAt N B G (FR U nx) φ ⟨e, h, nx, pr, ks⟩ a w) : Does P N B G (Used U nm) pr ks nx φ w a o q res := by
  unfold evLitc at hq
  split at hq
  · rename_i z hx
    unfold evLitc2 at hq
    split at hq
    · rename_i c n hs
      obtain ⟨hpn, h1, hw1, hq⟩ := dropS_spec hq
      obtain ⟨hone, _, _, hv⟩ := rep_chn (H.opd hx)
      obtain ⟨b, buf, s, r, hb, hh⟩ := (show ChanAt w (φ (z, 0)) c n from H.st z _ hs)
      have hav := hv b hb
      have hps' : ps = #[(0, x)] := by apply Array.ext'; simpa using hps
      have hrun : (Instr.buildSlice t 1 (ps.map fun (i, x) => (i, a.eval x))).run P w = .ok (.slice (some ⟨w.heap.size, 0, none⟩) 1 1) (w.alloc (.cells #[a.eval x] el')) := by
        unfold Instr.buildSlice
        simp only [Sem.run_bind, run_underlying ht, Result.andThen_ok, tSize_run hk]
        rw [if_neg (by omega)]
        have hf : Instr.fill (fun i => some (i * 1, 1)) ((Array.range (1 * 1)).map (zr.cells[· % zr.cells.size]!)) (ps.map fun (i, x) => (i, a.eval x)).toList = some #[a.eval x] := by
          rw [hps']
          have hr : (Array.range (1 * 1)) = #[0] := rfl
          simp only [List.map_toArray, List.map_cons, List.map_nil, hr, hav, Value.cells]
          rfl
        simp only [show ¬ (1 * 1 = 0) from by omega, if_false, Sem.run_bind, hzr, Sem.run_pure, Result.andThen_ok, hf, newRow, run_newObj]
        simp
      refine fam_put (k := .chan) (xs := [(c, n)]) (nmOf := fun _ => (z, 0)) (v := .slice (some ⟨w.heap.size, 0, none⟩) 1 1) (w' := w.alloc (.cells #[a.eval x] el')) (l := .at_ w.heap.size 0 1 1) H hpn (fun n hn y hy => ?_) hw1 hU hU' hnx hd (by simp [execOp, ho, hrun]) rfl rfl (by simp) rfl rfl rfl
        (fun b hb _ => (more_alloc _ _).block b hb) (fun j _ => by simp) (fun i j hi hj _ => ?_) (fun b hb => .inr ?_) (.inr ⟨_, 0, 1, #[a.eval x], el', (0, 0), rfl, by simp, alloc_at _ _, fun i _ => by omega, by simp, fun j hj => ⟨[a.eval x], ⟨_, rfl, b, hb, hav⟩, rfl, fun c u hu => ?_⟩⟩) (fun j y hj => ?_) (fun j b _ hb => (more_alloc _ _).block b (H.lt _ _ hb).1) hq
      · simp only [List.mem_singleton] at hn; subst hn; exact absurd hy (famOf_none H.toHeapAt hs y)
      · simp at hi hj; omega
      · have : w.heap.size = b := hb
        subst this
        exact ⟨Nat.le_refl _, by simp⟩
      · have hj : j = 0 := by simpa using hj
        subst hj
        cases c with
        | zero => simpa using hu
        | succ c => simp at hu
      · cases j with
        | zero =>
          simp only [List.getElem?_cons_zero, Option.some.injEq] at hj
          subst hj
          exact ⟨b, buf, s, r, hb, hh⟩
        | succ j => simp at hj
    · cases hq
  · cases hq
theorem e_setM1 {t : TypeId} {x y : Operand} (ho : o.op = .store t x y) (hk : tSize P t = some 1) (hd : ∀ d, o.dst = some d → d < N) {z j : Nat} (hx : TM.opd e (tOpd x) = some (.elt (.top z) 1 j 0)) {el : TC} {g : Nat} {xs : List (FC.row el).D} (hs : h.get z = some (.fam (.row el) g xs))
    (hone : (a.eval y).oneCell' = true) {z' lo : Nat} {n : Option Nat} (hv : ∀ u, (φ (z', 0)).hd = some u → match n with | none => a.eval y = u | some n => SubAt el.sz lo n u (a.eval y)) (hU' : U (nm + 1)) (hnx : nm + 1 < nx) (hq : setM1 ⟨e, h, nx, pr, ks⟩ nm o.dst z el g xs j z' lo n q (h.get z') = some res) (H : RelAt N B G (FR U nx) φ ⟨e, h, nx, pr, ks⟩ a w) : Does P N B G (Used U nm) pr ks nx φ w a o q res := by
  unfold setM1 at hq
  split at hq
  · rename_i e' ys hs'
    split at hq
    · rename_i ys' hne hc
      have hne : z ≠ z' := Nat.ne_of_beq_eq_false hne
      unfold castL at hc
      split at hc
      · rename_i he
        subst he
        injection hc with hc
        subst hc
        have hA : ArrAt w (Excl B φ) (φ (z', 0)) e' ys := H.st z' _ hs'
        obtain ⟨u0, hu0, _⟩ := row_hd hA
        have hds : ∀ y ∈ [z'], y ≠ z ∧ ∃ k, h.get y = some k ∧ famOf (some k) = none := fun y hy => by
          simp only [List.mem_singleton] at hy
          subst hy
          exact ⟨fun e => hne e.symm, _, hs', rfl⟩
        cases n with
        | none =>
          dsimp only at hq
          obtain ⟨hpn, h1, hw1, hq⟩ := dropS_spec hq
          exact e_setM ho hk hd hx hs hds hpn hone (L := φ (z', 0)) (yy := (ys, 1)) (by rw [hu0, hv u0 hu0]) (fun b hb => ⟨_, hb, .inr (by simp)⟩) hA hw1 hU' hq H hnx
        | some n =>
          dsimp only at hq
          obtain ⟨hpn, h1, hw1, hq⟩ := dropS_spec hq
          obtain ⟨l', g1, g2, g3⟩ := sub_row hA hu0 (hv u0 hu0)
          exact e_setM ho hk hd hx hs hds hpn hone (L := l') (yy := ((ys.drop lo).take n, 1)) g1 (fun b hb => ⟨_, g2 b hb, .inr (by simp)⟩) g3 hw1 hU' hq H hnx
      · cases hc
    · cases hq
  · cases hq
theorem e_storeM {t : TypeId} {x y : Operand} (ho : o.op = .store t x y) (hk : tSize P t = some 1) (hd : ∀ d, o.dst = some d → d < N) {z j : Nat} {c : V} (hx : TM.opd e (tOpd x) = some (.elt (.top z) 1 j 0)) (hy : Rep w (Excl B φ) φ c (a.eval y)) {el : TC} {g : Nat} {xs : List (FC.row el).D} (hs : h.get z = some (.fam (.row el) g xs))
    (hU' : U (nm + 1)) (hnx : nm + 1 < nx) (hq : evStoreM ⟨e, h, nx, pr, ks⟩ nm o.dst z el g xs j q c = some res) (H : RelAt N B G (FR U nx) φ ⟨e, h, nx, pr, ks⟩ a w) : Does P N B G (Used U nm) pr ks nx φ w a o q res := by
  have wo0 : Without h [] h := fun y => by simp
  unfold evStoreM at hq
  split at hq
  · exact e_setM1 (n := none) ho hk hd hx hs (rep_own hy).1 (rep_own hy).2.2.2 hU' hnx hq H
  · split at hq
    · rename_i hb
      obtain rfl := beq_true hb
      exact e_setM1 (n := some _) ho hk hd hx hs (rep_sub hy).1 (rep_sub hy).2.2.2 hU' hnx hq H
    · cases hq
  · rename_i z' g' i sz lo n
    split at hq
    · rename_i hb
      simp only [Bool.and_eq_true] at hb
      obtain rfl := beq_true hb.1.1
      obtain rfl := beq_true hb.1.2
      obtain rfl := beq_true hb.2
      obtain ⟨hi, hq⟩ := need_some hq
      obtain rfl := beq_true hi
      obtain ⟨hfl, hq⟩ := need_some hq
      have hfl := beq_true hfl
      obtain ⟨hone, _, hok, hv⟩ := rep_sub hy
      have hB := H.st z _ hs
      have hj := fam_lt hB hok
      have hm := hB.2 i _ (getD_lt (d := ([], 0)) hj)
      have hA : ArrAt w (Excl B φ) (φ (g, i + 1)) el (xs.getD i ([], 0)).1 := by
        revert hm hfl
        generalize xs.getD i ([], 0) = yy
        obtain ⟨ys, fl⟩ := yy
        rintro rfl hm
        exact hm
      obtain ⟨u0, hu0, _⟩ := row_hd hA
      obtain ⟨l', g1, g2, g3⟩ := sub_row hA hu0 (hv u0 hu0)
      exact e_setM ho hk hd hx hs (ds := []) (by simp) (by simp) hone (L := l') (yy := (((xs.getD i ([], 0)).1.drop lo).take n, 1)) g1 (fun b hb => ⟨_, g2 b hb, .inl rfl⟩) g3 wo0 hU' hq H hnx
    · cases hq
  · rename_i e' ys
    split at hq
    · rename_i ys' hc
      unfold castL at hc
      split at hc
      · rename_i he
        subst he
        injection hc with hc
        subst hc
        have hrt := rep_ts hy
        obtain ⟨hd', cap, h1, _⟩ := id hrt
        injection h1 with h1
        exact e_setM ho hk hd hx hs (ds := []) (by simp) (by simp) (by rw [h1]; rfl) (L := .val (a.eval y)) (yy := (ys, 0)) rfl (fun b hb => hb.elim) ⟨_, rfl, hrt⟩ wo0 hU' hq H hnx
      · cases hc
    · cases hq
  · have hav := (rep_raw hy).1
    exact e_setM ho hk hd hx hs (ds := []) (by simp) (by simp) (by rw [hav]; rfl) (L := .val (a.eval y)) (yy := ([], 0)) rfl (fun b hb => hb.elim) ⟨_, rfl, bare_rt (.inl hav)⟩ wo0 hU' hq H hnx
  · cases hq
theorem does_less {U' : Nat → Prop} (hf : ∀ x, U' x → U x) (h : Does P N B G U pr ks nx φ w a o q res) : Does P N B G U' pr ks nx φ w a o q res := fun Q => Oper.wp_mono (fun _ _ hA => hA.less hf) (h Q)
theorem e_store {t : TypeId} {x y : Operand} (ho : o.op = .store t x y) {k : Nat} (hk : tSize P t = some k) (hU' : U (nm + 1)) (hnx : nm + 1 < nx) (hd : ∀ d, o.dst = some d → d < N)
    (hq : evStore ⟨e, h, nx, pr, ks⟩ nm o.dst k q (TM.opd e (tOpd x)) (TM.opd e (tOpd y)) = some res) (H : RelAt N B G (FR U nx) φ ⟨e, h, nx, pr, ks⟩ a w) : Does P N B G (Used U nm) pr ks nx φ w a o q res := by
  unfold evStore at hq
  split at hq
  · rename_i hx hy
    exact does_less (fun x hx => hx.1) (e_storeB ho hk hd hx hy hq H)
  · rename_i hx hy
    unfold evStoreT at hq
    split at hq
    · rename_i hs
      split at hq
      · rename_i hb
        simp only [Bool.and_eq_true] at hb
        exact does_less (fun x hx => hx.1) (e_storeT ho hk hd hx hy hs (beq_true hb.1.1.1) (ble_true hb.1.1.2) (beq_true hb.1.2) hb.2 hq H)
      · cases hq
    · rename_i hs
      split at hq
      · exact e_storeM ho hk hd hx (H.opd hy) hs hU' hnx hq H
      · cases hq
    · cases hq
  · rename_i hx hy
    unfold evStoreR at hq
    split at hq
    · rename_i hs
      split at hq
      · rename_i hb
        simp only [Bool.and_eq_true] at hb
        obtain rfl := beq_true hb.1.1.1.1
        exact does_less (fun x hx => hx.1) (e_storeR ho hk hd hx hy hs (beq_true hb.1.1.1.2) (ble_true hb.1.1.2) (beq_true hb.1.2) hb.2 hq H)
      · cases hq
    · cases hq
  · cases hq
def CallOk (P : Program) (G : Nat → Nat → Value → Prop) (call : Calling R) : Prop := ∀ (g : Nat) (args : List V) (h : Heap) (nx : Nat) (pr : Nat → Bool) (q : V → Heap → Nat → Option R) (res : R), call g args h nx pr q = some res →
  (∃ fn, P.funcs[g]? = some fn ∧ (fn.name == "runtime.NumGoroutine") = false ∧ fn.body.isNone = false) ∧
  ∀ (B : Nat → Prop) (U : Nat → Prop) (φ : Loc) (w : World) (vals : List Value), HeapAt B G (FR U nx) φ h w → (∀ x, U x → x < nx) → args.length = vals.length →
    (∀ (i : Nat) (c : V) (v : Value), args[i]? = some c → vals[i]? = some v → Rep w (Excl B φ) φ c v) →
    Calls P g vals.toArray w fun e w' => ∃ v c φ' h' nx', e = .returned v ∧ q c h' nx' = some res ∧ HeapAt B G (FR U nx') φ' h' w' ∧ nx ≤ nx' ∧ Fwd pr φ w φ' w' ∧ Rep w' (Excl B φ') φ' c v
theorem e_call (call : Calling R) (hcall : CallOk P G call) {c : Call} {f : Operand} (hcl : c.callee = .value f) (ho : o.op = .call c) (hU : ∀ x, U x → x < nx) (hd : ∀ d, o.dst = some d → d < N)
    (hq : evCall call ⟨e, h, nx, pr, ks⟩ nm o.dst q (TM.opd e (tOpd f)) (TM.opds e (tOpds c.args.toList)) = some res) (H : RelAt N B G (FR U nx) φ ⟨e, h, nx, pr, ks⟩ a w) : Does P N B G U pr ks nx φ w a o q res := by
  unfold evCall at hq
  split at hq
  · rename_i g first cap cs hff hxs
    obtain ⟨⟨fn, hfn, hname, hbody⟩, hC⟩ := hcall _ _ _ _ _ _ _ hq
    obtain ⟨vs, us, hfv, hl1, hl2, hv1, hv2⟩ := rep_fn (H.opd hff)
    obtain ⟨hxl, hxr⟩ := H.opds hxs
    have hrun : (execOp a.eval o).run P w = .ok (.enter g (vs ++ c.args.toList.map a.eval ++ us).toArray) w := by
      have e1 : (vs ++ c.args.toList.map a.eval ++ us).toArray = vs.toArray ++ c.args.map a.eval ++ us.toArray := by
        apply Array.ext'; simp
      simp only [execOp, ho, Go.resolve, hcl, hfv, Deferred.ofValue, Sem.run_bind, Sem.run_pure, Result.andThen_ok, invoke, callFunc, run_program, hfn, hname, hbody]
      rw [e1]
      simp
    have hall : ∀ (i : Nat) (c' : V) (v : Value), (first ++ cs ++ cap)[i]? = some c' → (vs ++ c.args.toList.map a.eval ++ us)[i]? = some v → Rep w (Excl B φ) φ c' v := by
      have app : ∀ {p q : List V} {x y : List Value}, p.length = x.length → (∀ (i : Nat) (c : V) (v : Value), p[i]? = some c → x[i]? = some v → Rep w (Excl B φ) φ c v) → (∀ (i : Nat) (c : V) (v : Value), q[i]? = some c → y[i]? = some v → Rep w (Excl B φ) φ c v) →
          ∀ (i : Nat) (c : V) (v : Value), (p ++ q)[i]? = some c → (x ++ y)[i]? = some v → Rep w (Excl B φ) φ c v := by
        intro p q x y hl h1 h2 i c v h3 h4
        by_cases hi : i < p.length
        · rw [List.getElem?_append_left hi] at h3
          rw [List.getElem?_append_left (by omega)] at h4
          exact h1 i c v h3 h4
        · rw [List.getElem?_append_right (by omega)] at h3
          rw [List.getElem?_append_right (by omega)] at h4
          rw [hl] at h3
          exact h2 _ c v h3 h4
      exact app (by simp [hl1, hxl]) (app hl1 hv1 hxr) hv2
    have hlen : (first ++ cs ++ cap).length = (vs ++ c.args.toList.map a.eval ++ us).length := by simp [hl1, hl2, hxl]
    intro Q
    unfold Oper.wp
    rw [hrun]
    refine (hC B U φ w _ H.toHeapAt hU hlen hall).mono ?_
    rintro e' w' ⟨v, c', φ', h', nx', rfl, hq', H', hle, F, hrep⟩
    have R' : RelAt N B G (FR U nx') φ' ⟨e, h', nx', pr, ks⟩ a w' := H.step F H'
    exact (out_same R' hrep hd hq').from F (Kept.refl _ _) hle
  · cases hq
theorem evOp_quiet {call : Calling R} {s : S} {dst : Option Nat} {op : COp} (he : op.eff = false) : evOp call s nm dst q op = evQuiet s nm dst q (yv s.env s.h nm op) := by
  cases op <;> first | rfl | cases he
theorem does_quiet {op : COp} (hc : tOp P o.op = op) (hU : U nm) (hnx : nm + 1 < nx) (hd : ∀ d, o.dst = some d → d < N) (hq : evQuiet ⟨e, h, nx, pr, ks⟩ nm o.dst q (yv e h nm op) = some res) (H : RelAt N B G (FR U nx) φ ⟨e, h, nx, pr, ks⟩ a w) : Does P N B G (Used U nm) pr ks nx φ w a o q res := by
  unfold evQuiet at hq
  split at hq
  · rename_i p v new hy
    obtain ⟨hp0, hq2⟩ := need_some hq
    clear hq
    subst hp0
    have hq := hq2
    clear hq2
    have hC := sound_quiet hc hy H
    cases new with
    | none =>
      obtain ⟨u, D, hr, hx, _⟩ := hC
      exact does_value (hx w fun _ _ => rfl) ((out_same H hr hd hq).less fun x hx => hx.1)
    | some k =>
      obtain ⟨u, w', l, r1, r2, r3, r4, r5, r6, r7⟩ := hC
      exact does_value r1 (out_new H hU hnx r2 r3 r4 r5 r6 r7 hd hq)
  · cases hq
theorem tOp_eff {op : Op} (h : (tOp P op).eff = true) : (∃ t a x, op = .store t a x) ∨ (∃ t len ps, op = .buildSlice t len ps) ∨ (∃ t d x, op = .convert t d x) ∨ (∃ c, op = .call c) ∨ (tOp P op).comm = true ∨ (∃ t m k x, op = .mapUpdate t m k x) ∨ (∃ t x, op = .range t x) ∨ (∃ x s, op = .next x s) ∨ ∃ b t x y t', op = .binOp b t x y t' := by
  cases op with
  | store t a x => exact .inl ⟨_, _, _, rfl⟩
  | buildSlice t len ps => exact .inr (.inl ⟨_, _, _, rfl⟩)
  | convert t d x => exact .inr (.inr (.inl ⟨_, _, _, rfl⟩))
  | call c => exact .inr (.inr (.inr (.inl ⟨_, rfl⟩)))
  | send ch x => exact .inr (.inr (.inr (.inr (.inl rfl))))
  | mapUpdate t m k x => exact .inr (.inr (.inr (.inr (.inr (.inl ⟨_, _, _, _, rfl⟩)))))
  | makeMap t n =>
    exfalso
    cases n <;> (simp only [tOp] at h; revert h; repeat' split) <;> (intro h; cases h)
  | range t x => exact .inr (.inr (.inr (.inr (.inr (.inr (.inl ⟨_, _, rfl⟩))))))
  | next x s => exact .inr (.inr (.inr (.inr (.inr (.inr (.inr (.inl ⟨_, _, rfl⟩)))))))
  | binOp b t x y t' => exact .inr (.inr (.inr (.inr (.inr (.inr (.inr (.inr ⟨_, _, _, _, _, rfl⟩)))))))
  | select cs b =>
    refine .inr (.inr (.inr (.inr (.inl ?_))))
    revert h
    simp only [tOp]
    repeat' split
    all_goals (intro h; first | rfl | cases h)
  | _ =>
    exfalso
    simp only [tOp, tBin] at h
    revert h
    repeat' split
    all_goals (intro h; cases h)
theorem tZ_run {t : TypeId} (h : tZ P t = true) : ∃ z, ∀ w, (zeroValue t).run P w = .ok z w := by
  unfold tZ at h
  split at h
  · rename_i z hz
    cases hi : P.info? t with
    | none => rw [hi] at hz; cases hz
    | some i =>
      rw [hi] at hz
      have hz : i.zero = some z := hz
      exact ⟨z, fun w => by simp [zeroValue, typeInfo, hi, hz]⟩
  · cases h
theorem tLits_one {l : List (Nat × Operand)} {x : Opd} (h : tLits l = [(0, x)]) : ∃ y, l = [(0, y)] ∧ x = tOpd y := by
  cases l with
  | nil => cases h
  | cons p r =>
    cases r with
    | nil =>
      simp only [tLits, List.cons.injEq, and_true, Prod.mk.injEq] at h
      obtain ⟨i, y⟩ := p
      obtain ⟨rfl, h2⟩ := h
      exact ⟨y, rfl, h2.symm⟩
    | cons p' r => simp [tLits] at h
theorem sound_op (call : Calling R) (hcall : CallOk P G call) {op : COp} (hc : tOp P o.op = op) (hU : U nm) (hU' : U (nm + 1)) (hUx : ∀ x, U x → x < nx) (hd : ∀ d, o.dst = some d → d < N) (hq : evOp call ⟨e, h, nx, pr, ks⟩ nm o.dst q op = some res) (H : RelAt N B G (FR U nx) φ ⟨e, h, nx, pr, ks⟩ a w) :
    Does P N B G (Used U nm) pr ks nx φ w a o q res := by
  have less : Does P N B G U pr ks nx φ w a o q res → Does P N B G (Used U nm) pr ks nx φ w a o q res := does_less fun x hx => hx.1
  have hnx : nm + 1 < nx := hUx _ hU'
  cases he : op.eff with
  | false =>
    rw [evOp_quiet he] at hq
    exact does_quiet hc hU hnx hd hq H
  | true =>
    rcases tOp_eff (by rw [hc]; exact he) with ⟨t, x, y, ho⟩ | ⟨t, len, ps, ho⟩ | ⟨t, d, x, ho⟩ | ⟨c, ho⟩ | hcm | ⟨t, m, k, x, ho⟩ | ⟨t, x, ho⟩ | ⟨x, s, ho⟩ | ⟨bo, t, x, y, t', ho⟩
    · rw [ho] at hc; simp only [tOp] at hc
      split at hc
      · rename_i k hk; subst hc; exact e_store ho hk hU' hnx hd hq H
      · subst hc; cases he
    · rw [ho] at hc; simp only [tOp] at hc
      split at hc
      · rename_i el hel
        split at hc
        · rename_i hz
          obtain ⟨z, hz⟩ := tZ_run hz
          split at hc
          · split at hc
            · rename_i hk
              subst hc
              simp only [evOp] at hq
              split at hq
              · rename_i x hlen hps
                obtain ⟨y, h1, rfl⟩ := tLits_one hps
                obtain rfl := beq_true hlen
                exact e_litc ho (tElem_eq hel) hk hz h1 hU hU' hnx hd hq H
              · cases hq
            · subst hc; cases he
          · split at hc
            · rename_i et k _ hk
              split at hc
              · rename_i hb
                subst hc
                simp only [Bool.and_eq_true] at hb
                exact e_lit ho (tElem_eq hel) hk (beq_true hb.1.1) hz (ble_true hb.1.2) (blt_true hb.2) hU hnx hd hq H
              · subst hc; cases he
            · subst hc; cases he
        · subst hc; cases he
      · subst hc; cases he
    · rw [ho] at hc; simp only [tOp] at hc
      split at hc
      · subst hc; cases he
      · rename_i el ht hdt
        split at hc
        · rename_i hel; subst hc; exact e_bytes ho ht hdt hel hU hnx hd hq H
        · subst hc; cases he
      · rename_i el ht hdt
        split at hc
        · rename_i hel; subst hc; exact e_text ho ht hdt hel hd hq H
        · subst hc; cases he
      · subst hc; cases he
    · rw [ho] at hc; simp only [tOp, tCall] at hc
      split at hc
      · rename_i f hcl
        subst hc
        exact less (e_call call hcall hcl ho hUx hd hq H)
      · subst hc; cases he
      · rename_i b hcl
        split at hc
        · split at hc <;> (subst hc; cases he)
        · rename_i x y t t' hca hct
          have hca : c.args = #[x, y] := by apply Array.ext'; simpa using hca
          have hct : c.argTypes = #[t, t'] := by apply Array.ext'; simpa using hct
          split at hc
          · rename_i mv hmv; subst hc; exact less (e_del hcl hca hct ho hmv hd hq H)
          · subst hc; cases he
        · split at hc <;> (subst hc; cases he)
        · rename_i x y t t' hca hct
          have hca : c.args = #[x, y] := by apply Array.ext'; simpa using hca
          have hct : c.argTypes = #[t, t'] := by apply Array.ext'; simpa using hct
          split at hc
          · rename_i el hel
            split at hc
            · rename_i i hi htt
              have htt := beq_true htt
              subst htt
              split at hc
              · rename_i hb
                subst hc
                simp only [Bool.and_eq_true, beq_iff_eq] at hb
                obtain ⟨z, hz, hzs⟩ := Option.map_eq_some_iff.1 hb.2
                exact e_app ⟨⟨c, hcl, hca, hct, ho⟩, tElem_eq hel, hi, ⟨z, hz, hzs⟩, blt_true hb.1.1, blt_true hb.1.2⟩ hU hU' hnx hd hq H
              · subst hc; cases he
            · subst hc; cases he
          · subst hc; cases he
        · split at hc <;> (subst hc; cases he)
        · split at hc <;> (subst hc; cases he)
        · subst hc; cases he
    · rw [hc] at hcm
      cases op <;> first | (cases hcm; done) | cases hq
    · rw [ho] at hc; simp only [tOp] at hc
      split at hc
      · rename_i mv hmv; subst hc; exact less (e_mup ho hmv hd hq H)
      · subst hc; cases he
    · rw [ho] at hc; simp only [tOp] at hc
      split at hc
      · rename_i mv hmv; subst hc; exact e_rng ho hmv hU hnx hd hq H
      · subst hc; cases he
    · rw [ho] at hc
      cases s
      · simp only [tOp] at hc; subst hc; exact less (e_nxt ho hd hq H)
      · simp only [tOp] at hc; subst hc; cases he
    · rw [ho] at hc; simp only [tOp, tBin] at hc
      split at hc <;> first | (subst hc; cases he; done) | skip
      · rename_i el ht
        split at hc
        · rename_i hyn; subst hc; exact less (e_isnil ho ht hyn hd hq H)
        · subst hc; cases he
      · split at hc <;> (subst hc; cases he)
end
end Go.TM
namespace Go.TM
open Go.RowKit Go.Conc
section
variable {P : Program} {b : Frame} {a : Act} {k : List Item} {cs : List Frame} {w : World} {ops : Array Oper} {Q : Exit → Act → World → Prop}
theorem op_goes {i : Nat} {rest : List Nat} {o : Oper} {K : Act → World → Prop} (ho : ops[i]? = some o) (hw : Region.wanted o (yielded ops a.tmps) = true) (h : o.wp P a w K fun _ _ _ => False) :
    ∃ a' w', K a' w' ∧ Steps P (lone (b.at a (.inRegion ops (i :: rest) :: k)) cs w) (lone (b.at a' (.inRegion ops rest :: k)) cs w') := by
  have here := stepG_op (P := P) (b := b) (k := k) (cs := cs) (w := w) (rest := rest) ho hw
  have done : ∀ (a₁ : Act) (v : Value), (b.at a₁ (.inRegion ops (i :: rest) :: k)).finish v = b.at (a₁.put o.dst v) (.inRegion ops rest :: k) := fun a₁ v => by
    rw [Frame.finish_at, ho]; rfl
  unfold Oper.wp Oper.upon at h
  cases hr : (execOp a.eval o).run P w with
  | halt x w' =>
    rw [hr] at h
    cases x <;> exact h.elim
  | ok x w' =>
    rw [hr] at h
    cases x with
    | value v => exact ⟨_, _, h, .one (step_lone_go (by rw [here, ← done]; simp [stepG.apply, hr]))⟩
    | skip => exact ⟨_, _, h, .one (step_lone_go (by rw [here, ← done]; simp [stepG.apply, hr]))⟩
    | defer d =>
      refine ⟨_, _, h, .one (step_lone_go ?_)⟩
      have e0 : ({ b.at a (.inRegion ops (i :: rest) :: k) with defers := d :: a.defers } : Frame).finish undef = b.at ({ a with defers := d :: a.defers }.put o.dst undef) (.inRegion ops rest :: k) := done { a with defers := d :: a.defers } undef
      rw [here]
      simp only [stepG.apply, Sem.runT_eq, hr, GStep.bare_after]
      exact congrArg (fun fr => GStep.go { frame := fr, callers := cs, status := .running, dying := none } w') e0
    | enter f args =>
      obtain ⟨e, w'', fr, hR, hsteps, _, hleave⟩ := h (b.at a (.inRegion ops (i :: rest) :: k) :: cs)
      have hin : step P (lone (b.at a (.inRegion ops (i :: rest) :: k)) cs w) = .next (lone (Frame.enter P f args .normal) (b.at a (.inRegion ops (i :: rest) :: k) :: cs) w') :=
        step_lone_go (by rw [here]; simp [stepG.apply, hr, Frame.at])
      cases e with
      | returned v =>
        refine ⟨_, _, hR, .head hin (hsteps.trans (.one ?_))⟩
        rw [← done]; exact step_leave_returned hleave
      | panicked c => exact hR.elim
      | outgrown => obtain ⟨_, _, hh⟩ := hR; exact hh.elim
    | row r args =>
      obtain ⟨v, w'', hR, hsteps⟩ := h (b.at a (.inRegion ops (i :: rest) :: k)) cs
      have hin : step P (lone (b.at a (.inRegion ops (i :: rest) :: k)) cs w) = .next (lone (Frame.ofRow P r args .normal) (b.at a (.inRegion ops (i :: rest) :: k) :: cs) w') :=
        step_lone_go (by rw [here]; simp [stepG.apply, hr, Frame.at])
      refine ⟨_, _, hR, .head hin ?_⟩
      rw [← done]; exact hsteps
    | _ => exact h.elim
def CommStep (P : Program) (ops : Array Oper) (i : Nat) (o : Oper) (a : Act) (w : World) (v : Value) (w' : World) : Prop :=
  ∀ (b : Frame) (rest : List Nat) (k : List Item) (cs : List Frame), step P (lone (b.at a (.inRegion ops (i :: rest) :: k)) cs w) = .next (lone (b.at (a.put o.dst v) (.inRegion ops rest :: k)) cs w')
def wpC (P : Program) (ops : Array Oper) (i : Nat) (K : Act → World → Prop) (a : Act) (w : World) : Prop :=
  wpOp P ops (fun _ _ _ => False) i K a w ∨ ∃ o v w', ops[i]? = some o ∧ CommStep P ops i o a w v w' ∧ K (a.put o.dst v) w'
def wpsC (P : Program) (ops : Array Oper) (Q : Exit → Act → World → Prop) : List Nat → Act → World → Prop
  | [], a, w => Q .normal a w
  | i :: rest, a, w => wpC P ops i (wpsC P ops Q rest) a w
theorem wpC_mono {i : Nat} {K K' : Act → World → Prop} (h : ∀ a w, K a w → K' a w) (hh : wpC P ops i K a w) : wpC P ops i K' a w := by
  rcases hh with hh | ⟨o, v, w', h1, h2, h3⟩
  · exact .inl (wpOp_mono h hh)
  · exact .inr ⟨o, v, w', h1, h2, h _ _ h3⟩
theorem goes_C {i : Nat} {rest : List Nat} {K : Act → World → Prop} (h : wpC P ops i K a w) : ∃ a' w', K a' w' ∧ Steps P (lone (b.at a (.inRegion ops (i :: rest) :: k)) cs w) (lone (b.at a' (.inRegion ops rest :: k)) cs w') := by
  rcases h with h | ⟨o, v, w', h1, h2, h3⟩
  · unfold wpOp at h
    cases ho : ops[i]? with
    | none =>
      rw [ho] at h
      have hs := step_op_skip (P := P) (b := b) (a := a) (k := k) (cs := cs) (w := w) (ops := ops) (i := i) (rest := rest) (by simp [ho])
      simp only [ho, Option.bind_none, Act.put] at hs
      exact ⟨_, _, h, .one hs⟩
    | some o =>
      rw [ho] at h
      dsimp only at h
      by_cases hw : Region.wanted o (yielded ops a.tmps) = true
      · rw [if_pos hw] at h
        rcases h with h | ⟨_, _, _, h⟩
        · exact op_goes ho hw h
        · exact h.elim
      · rw [if_neg hw] at h
        have hs := step_op_skip (P := P) (b := b) (a := a) (k := k) (cs := cs) (w := w) (ops := ops) (i := i) (rest := rest) (by simp [ho]; simpa using hw)
        simp only [ho, Option.bind_some] at hs
        exact ⟨_, _, h, .one hs⟩
  · exact ⟨_, _, h3, .one (h2 b rest k cs)⟩
theorem wps_go : ∀ (l : List Nat) (a : Act) (w : World), wpsC P ops Q l a w → ∀ (b : Frame) (k : List Item) (cs : List Frame), ∃ a' w', Q .normal a' w' ∧ Steps P (lone (b.at a (.inRegion ops l :: k)) cs w) (lone (b.at a' k) cs w')
  | [], a, w, h, b, k, cs => ⟨a, w, h, .one step_region_end⟩
  | i :: rest, a, w, h, b, k, cs => by
    obtain ⟨a', w', h1, h2⟩ := goes_C (b := b) (k := k) (cs := cs) (rest := rest) (show wpC P ops i (wpsC P ops Q rest) a w from h)
    obtain ⟨a'', w'', h3, h4⟩ := wps_go rest a' w' h1 b k cs
    exact ⟨a'', w'', h3, h2.trans h4⟩
theorem wp_regionC {id : Nat} (h : wpsC P ops Q (List.range ops.size) a w) : (Code.region id ops false).wp P Q a w := fun b k cs => by
  obtain ⟨a', w', h1, h2⟩ := wps_go _ a w h b k cs
  exact ⟨.normal, a', w', h1, .of_steps (.one step_region) h2⟩
theorem comm_up {i : Nat} {rest : List Nat} {o : Oper} {cases : Array CommCase} {blocking : Bool} {shape : CommShape} {w' : World} (ho : ops[i]? = some o) (hw : Region.wanted o (yielded ops a.tmps) = true) (hr : (execOp a.eval o).run P w = .ok (.comm cases blocking shape) w') :
    ∃ es, stepG P true (G (b.at a (.inRegion ops (i :: rest) :: k)) cs) w = .comm (G (b.at a (.inRegion ops (i :: rest) :: k)) cs) cases blocking shape w' es := by
  by_cases hk : b.kind = .early
  · rw [stepG_oper ho hw]
    exact ⟨_, by simp [stepG.apply, hr, G, Frame.at, hk, GStep.after]; rfl⟩
  · exact ⟨_, stepG_comm ho hw hk hr⟩
section
variable {i : Nat} {o : Oper} {c cap s r : Nat} {buf : Array Value} {v z : Value}
theorem finish_C (ho : ops[i]? = some o) (b : Frame) (rest : List Nat) (k : List Item) (v : Value) : (b.at a (.inRegion ops (i :: rest) :: k)).finish v = b.at (a.put o.dst v) (.inRegion ops rest :: k) := by
  rw [Frame.finish_at, ho]; rfl
theorem comm_send (ho : ops[i]? = some o) (hw : Region.wanted o (yielded ops a.tmps) = true) (hr : (execOp a.eval o).run P w = .ok (.comm #[scase c v z] true .send) w) (hc : w.heap[c]? = some (.chan cap buf false s r false)) (hroom : buf.size < cap) :
    CommStep P ops i o a w undef (w.setChan c cap (buf.push v) false (s + 1) r false) := fun b rest k cs => by
  obtain ⟨es, h⟩ := comm_up (b := b) (rest := rest) (k := k) (cs := cs) ho hw hr
  have := step_lone_send_room h hc hroom
  rw [finish_C ho] at this
  exact this
theorem comm_recv (ho : ops[i]? = some o) (hw : Region.wanted o (yielded ops a.tmps) = true) (hr : (execOp a.eval o).run P w = .ok (.comm #[rcase c z] false .select) w) (hc : w.heap[c]? = some (.chan cap buf false s r false)) (hsome : 0 < buf.size) :
    CommStep P ops i o a w (.tuple #[goInt 0, .bool true, buf.getD 0 undef]) (w.setChan c cap (buf.extract 1 buf.size) false s (r + 1) false) := fun b rest k cs => by
  obtain ⟨es, h⟩ := comm_up (b := b) (rest := rest) (k := k) (cs := cs) ho hw hr
  have := step_lone_select_recv_buf h hc hsome
  rw [finish_C ho] at this
  exact this
theorem comm_none (ho : ops[i]? = some o) (hw : Region.wanted o (yielded ops a.tmps) = true) (hr : (execOp a.eval o).run P w = .ok (.comm #[rcase c z] false .select) w) (hc : w.heap[c]? = some (.chan cap #[] false s r false)) :
    CommStep P ops i o a w (.tuple #[goInt (-1), .bool false, z]) w := fun b rest k cs => by
  obtain ⟨es, h⟩ := comm_up (b := b) (rest := rest) (k := k) (cs := cs) ho hw hr
  have := step_lone_select_default h hc
  rw [finish_C ho] at this
  exact this
theorem comm_put (ho : ops[i]? = some o) (hw : Region.wanted o (yielded ops a.tmps) = true) (hr : (execOp a.eval o).run P w = .ok (.comm #[scase c v z] false .select) w) (hc : w.heap[c]? = some (.chan cap buf false s r false)) (hroom : buf.size < cap) :
    CommStep P ops i o a w (.tuple #[goInt 0, .bool false]) (w.setChan c cap (buf.push v) false (s + 1) r false) := fun b rest k cs => by
  obtain ⟨es, h⟩ := comm_up (b := b) (rest := rest) (k := k) (cs := cs) ho hw hr
  have := step_lone_select_send_room h hc hroom
  rw [finish_C ho] at this
  exact this
theorem comm_full (ho : ops[i]? = some o) (hw : Region.wanted o (yielded ops a.tmps) = true) (hr : (execOp a.eval o).run P w = .ok (.comm #[scase c v z] false .select) w) (hc : w.heap[c]? = some (.chan cap buf false s r false)) (hfull : cap ≤ buf.size) :
    CommStep P ops i o a w (.tuple #[goInt (-1), .bool false]) w := fun b rest k cs => by
  obtain ⟨es, h⟩ := comm_up (b := b) (rest := rest) (k := k) (cs := cs) ho hw hr
  have := step_lone_select_send_full h hc hfull
  rw [finish_C ho] at this
  exact this
end
end
end Go.TM
namespace Go.TM
open Go.RowKit Go.Conc
section
variable {P : Program} {ty : TypeId} {N : Nat} {B : Nat → Prop} {G : Nat → Nat → Value → Prop} {fr U : Nat → Prop} {φ : Loc} {a : Act} {w : World} {e : T V} {h : Heap} {nx : Nat} {pr ks : Nat → Bool} {R : Type} {res : R}
variable {o : Oper} {nm : Nat} {q : S → Option R} {ops : Array Oper}
theorem tOper_spec {dst : Option Nat} {op : COp} {g : Option (Nat × Bool)} (hc : tOper P N ops o = ⟨dst, op, g⟩) : (op = .bad ∧ g = none) ∨ (dst = o.dst ∧ (∀ d, o.dst = some d → d < N) ∧ tOp P o.op = op ∧ ((g = none ∧ o.guard = none) ∨ ∃ j b t, o.guard = some (j, b) ∧ g = some (t, b) ∧ (ops[j]?).bind (·.dst) = some t)) := by
  unfold tOper at hc
  split at hc
  · rename_i hd
    have hd' : ∀ d, o.dst = some d → d < N := fun d h => by rw [h] at hd; exact Nat.le_of_ble_eq_true hd
    split at hc
    · rename_i hg
      injection hc with h1 h2 h3
      exact .inr ⟨h1.symm, hd', h2, .inl ⟨h3.symm, hg⟩⟩
    · rename_i j b hg
      split at hc
      · rename_i t ht
        injection hc with h1 h2 h3
        exact .inr ⟨h1.symm, hd', h2, .inr ⟨j, b, t, hg, h3.symm, ht⟩⟩
      · injection hc with h1 h2 h3; exact .inl ⟨h2.symm, h3.symm⟩
  · injection hc with h1 h2 h3; exact .inl ⟨h2.symm, h3.symm⟩
theorem rep_nil_tup {X : Nat → Prop} : Rep w X φ (.tup []) undef := .tup [] [] rfl fun _ _ _ h => by cases h
theorem skipped_spec (H : RelAt N B G (FR U nx) φ ⟨e, h, nx, pr, ks⟩ a w) {dst : Option Nat} (hd : ∀ d, dst = some d → d < N) (hq : skipped ⟨e, h, nx, pr, ks⟩ dst q = some res) : After N B G U pr ks nx φ a w q res (a.put dst undef) w := by
  simp only [skipped] at hq
  obtain ⟨e', he, hq⟩ := setO_spec hq
  exact ⟨_, _, hq, H.put hd rep_nil_tup he, rfl, rfl, Nat.le_refl _, Fwd.refl _ _ _, he.kept _⟩
theorem noted_spec (H : RelAt N B G fr φ ⟨e, h, nx, pr, ks⟩ a w) {t : Nat} {b : Bool} (ht : t < N) (hv : a.tmps.getD t undef = .bool b) {q : T V → Option R} (hq : noted e t b q = some res) : ∃ e', q e' = some res ∧ RelAt N B G fr φ ⟨e', h, nx, pr, ks⟩ a w := by
  obtain ⟨e', he, hq⟩ := T.putK_spec hq
  refine ⟨e', hq, { H with env := fun t' c hc => ?_ }⟩
  have hc : e'.get t' = some c := hc
  rw [he t'] at hc
  split at hc
  · rename_i heq
    injection hc with hc
    subst hc
    rw [heq, hv]
    exact ⟨ht, mk_b⟩
  · exact H.env t' c hc
theorem guard_spec (H : RelAt N B G (FR U nx) φ ⟨e, h, nx, pr, ks⟩ a w) {j t : Nat} {want : Bool} {go skip : T V → Option R} (hg : o.guard = some (j, want)) (hj : (ops[j]?).bind (·.dst) = some t) (hq : evGd e t want go skip (e.get t) = some res) :
    ∃ e', RelAt N B G (FR U nx) φ ⟨e', h, nx, pr, ks⟩ a w ∧ ((Region.wanted o (yielded ops a.tmps) = true ∧ go e' = some res) ∨ (Region.wanted o (yielded ops a.tmps) = false ∧ skip e' = some res)) := by
  unfold evGd at hq
  split at hq
  · rename_i b hb
    obtain ⟨hlt, hr⟩ := H.env t _ hb
    have hv := rep_b hr
    have hlt' : t < a.tmps.size := by rw [H.size]; exact hlt
    have hy : yielded ops a.tmps j = some b := by
      unfold yielded
      rw [hj]
      simp only [Option.bind_some]
      have : a.tmps[t]? = some (.bool b) := by
        rw [← hv]
        simp [Array.getD, hlt']
      rw [this]
    have hw : Region.wanted o (yielded ops a.tmps) = (b == want) := by
      unfold Region.wanted
      rw [hg]
      simp only [hy]
      cases b <;> cases want <;> rfl
    rw [hw]
    rcases ask_some hq with ⟨rfl, hq⟩ | ⟨rfl, hq⟩ <;> obtain ⟨e', hq, H'⟩ := noted_spec H hlt hv hq <;> refine ⟨e', H', ?_⟩ <;> cases want
    · exact .inr ⟨rfl, hq⟩
    · exact .inl ⟨rfl, hq⟩
    · exact .inl ⟨rfl, hq⟩
    · exact .inr ⟨rfl, hq⟩
  · rename_i hb
    obtain ⟨hlt, hr⟩ := H.env t _ hb
    obtain ⟨vs, hv, hlen, _⟩ := rep_tup hr
    have hnil : vs = [] := List.eq_nil_of_length_eq_zero hlen.symm
    subst hnil
    have hlt' : t < a.tmps.size := by rw [H.size]; exact hlt
    refine ⟨e, H, .inr ⟨?_, hq⟩⟩
    have hy : yielded ops a.tmps j = none := by
      unfold yielded
      rw [hj]
      simp only [Option.bind_some]
      have : a.tmps[t]? = some (.tuple #[]) := by
        have hv' : a.tmps.getD t undef = .tuple #[] := hv
        rw [← hv']
        simp [Array.getD, hlt']
      rw [this]
    unfold Region.wanted
    rw [hg]
    simp only [hy]
    rfl
  · cases hq
theorem evOp_bad {call : Calling R} {s : S} {dst : Option Nat} (hq : evOp call s nm dst q .bad = some res) : False := by
  cases hq
theorem sound_evG (call : Calling R) (hcall : CallOk P G call) {i : Nat} (hi : ops[i]? = some o) (hU : U nm) (hU' : U (nm + 1)) (hUx : ∀ x, U x → x < nx) (hq : evG call ⟨e, h, nx, pr, ks⟩ nm (tOper P N ops o) q = some res) (H : RelAt N B G (FR U nx) φ ⟨e, h, nx, pr, ks⟩ a w) (Q : Exit → Act → World → Prop) :
    wpOp P ops Q i (After N B G (Used U nm) pr ks nx φ a w q res) a w := by
  unfold wpOp
  rw [hi]
  dsimp only
  cases hco : tOper P N ops o with
  | mk dst op g =>
  rw [hco] at hq
  rcases tOper_spec hco with ⟨rfl, rfl⟩ | ⟨rfl, hd, hc, ⟨rfl, hg⟩ | ⟨j, b, t, hg, rfl, hj⟩⟩
  · exact (evOp_bad (call := call) (s := ⟨e, h, nx, pr, ks⟩) (dst := dst) (nm := nm) (q := q) hq).elim
  · have hw : Region.wanted o (yielded ops a.tmps) = true := by unfold Region.wanted; rw [hg]
    rw [if_pos hw]
    exact .inl (sound_op call hcall hc hU hU' hUx hd hq H Q)
  · simp only [evG] at hq
    obtain ⟨e', H', ⟨hw, hgo⟩ | ⟨hw, hsk⟩⟩ := guard_spec H hg hj hq
    · rw [if_pos hw]
      exact .inl (sound_op call hcall hc hU hU' hUx hd hgo H' Q)
    · rw [if_neg (by rw [hw]; simp)]
      exact (skipped_spec H' hd hsk).less fun x hx => hx.1
theorem tOpers_len : ∀ (l : List Oper), (tOpers P N ops l).length = l.length
  | [] => rfl
  | o :: r => by simp [tOpers, tOpers_len r]
theorem tOp_comm {op : Op} (hcm : (tOp P op).comm = true) : (∃ ch x, op = .send ch x ∧ tOp P op = .send (tOpd ch)) ∨ ∃ c : SelectCase, op = .select #[c] false ∧ tZ P c.elem = true ∧ ((c.send = none ∧ tOp P op = .selr (tOpd c.chan)) ∨ ∃ x, c.send = some x ∧ tOp P op = .sels (tOpd c.chan)) := by
  cases op with
  | send ch x => exact .inl ⟨ch, x, rfl, rfl⟩
  | select cs b =>
    refine .inr ?_
    cases b with
    | true =>
      simp only [tOp] at hcm
      cases hcm
    | false =>
      cases hl : cs.toList with
      | nil => simp only [tOp, hl] at hcm; cases hcm
      | cons c r =>
        cases r with
        | cons c' r => simp only [tOp, hl] at hcm; cases hcm
        | nil =>
          have hcs : cs = #[c] := by apply Array.ext'; simpa using hl
          subst hcs
          cases hz : tZ P c.elem with
          | false => simp only [tOp, hz] at hcm; cases hcm
          | true =>
            cases hsd : c.send with
            | none => exact ⟨c, rfl, hz, .inl ⟨hsd, by simp only [tOp, hz, hsd]⟩⟩
            | some x => exact ⟨c, rfl, hz, .inr ⟨x, hsd, by simp only [tOp, hz, hsd]⟩⟩
  | makeMap t n =>
    exfalso
    cases n <;> (simp only [tOp] at hcm; revert hcm; repeat' split) <;> (intro h; cases h)
  | next x s =>
    exfalso
    cases s <;> (simp only [tOp] at hcm; cases hcm)
  | _ =>
    exfalso
    simp only [tOp, tBin, tCall] at hcm
    revert hcm
    repeat' split
    all_goals (intro h; cases h)
theorem setChan_other (w : World) (c cap : Nat) (buf : Array Value) (cl : Bool) (s r : Nat) (tm : Bool) {b : Nat} (h : b ≠ c) : (w.setChan c cap buf cl s r tm).heap[b]? = w.heap[b]? := by
  simp [World.setChan, Array.getElem?_setIfInBounds_ne (Ne.symm h)]
theorem withCh_spec (H : RelAt N B G fr φ ⟨e, h, nx, pr, ks⟩ a w) {x : Operand} {f : Nat → Nat → (Nat → (S → Option R) → Option R) → Option R} (hq : withCh ⟨e, h, nx, pr, ks⟩ f (TM.opd e (tOpd x)) = some res) :
    ∃ b buf s0 r0 cap put, a.eval x = .chan (some b) ∧ w.heap[b]? = some (.chan cap buf false s0 r0 false) ∧ buf.size ≤ cap ∧ f cap buf.size put = some res ∧
      ∀ (m : Nat) (q : S → Option R), put m q = some res → ∀ (buf' : Array Value) (s' r' : Nat), buf'.size = m → m ≤ cap → ∃ h', q ⟨e, h', nx, pr, ks⟩ = some res ∧ Fwd pr φ w φ (w.setChan b cap buf' false s' r' false) ∧ HeapAt B G fr φ h' (w.setChan b cap buf' false s' r' false) := by
  unfold withCh at hq
  split at hq
  · rename_i z hx
    unfold chTop at hq
    split at hq
    · rename_i cap n hs
      obtain ⟨b, buf, s0, r0, hb, hh, hn, hle⟩ := (show ChanAt w (φ (z, 0)) cap n from H.st z _ hs)
      obtain ⟨_, _, _, hv⟩ := rep_chn (H.opd hx)
      subst hn
      refine ⟨b, buf, s0, r0, cap, _, hv b hb, hh, hle, hq, fun m q hp buf' s' r' hm hmc => ?_⟩
      obtain ⟨hpr, h', hp, hq⟩ := setB_spec hp
      obtain ⟨F, H'⟩ := H.toHeapAt.wr hs (n0 := (z, 0)) rfl hpr (b := b) (by rw [hb]; rfl) (w' := w.setChan b cap buf' false s' r' false) (size_setChan _ _ _ _ _ _ _ _) (fun c hc => setChan_other _ _ _ _ _ _ _ _ hc) rfl rfl rfl (k := .chan cap m) rfl (fun _ _ => ⟨b, buf', s', r', hb, heap_setChan _ _ _ _ _ _ _ _ (heap_lt hh), hm, hmc⟩) hp
      exact ⟨h', hq, F, H'⟩
    · cases hq
  · rename_i z g j hx
    unfold chMem at hq
    split at hq
    · rename_i g' xs hs
      split at hq
      · rename_i hg hprg
        obtain rfl := beq_true hg
        have hprg : pr g = false := hprg
        obtain ⟨_, _, hok, hv⟩ := rep_chn (H.opd hx)
        have hB := H.st z _ hs
        have hj := fam_lt hB hok
        obtain ⟨b, buf, s0, r0, hb, hh, hn, hle⟩ := (show ChanAt w (φ (g, j + 1)) (xs.getD j (0, 0)).1 (xs.getD j (0, 0)).2 from hB.2 j _ (getD_lt (d := (0, 0)) hj))
        refine ⟨b, buf, s0, r0, _, _, hv b hb, hh, by rw [hn]; exact hle, by rw [hn]; exact hq, fun m q hp buf' s' r' hm hmc => ?_⟩
        obtain ⟨hpr, h', hp, hq⟩ := setB_spec hp
        have hoth : ∀ n b', n ≠ (g, j + 1) → (φ n).has b' → (w.setChan b (xs.getD j (0, 0)).1 buf' false s' r' false).heap[b']? = w.heap[b']? := fun n b' hn hb' => setChan_other _ _ _ _ _ _ _ _ fun e => by
          subst e; exact hn (H.inj _ _ _ hb' (by rw [hb]; rfl))
        obtain ⟨F, H'⟩ := H.toHeapAt.wr hs (n0 := (g, j + 1)) (.inr ⟨j, hj, rfl⟩) hprg (b := b) (by rw [hb]; rfl) (w' := w.setChan b (xs.getD j (0, 0)).1 buf' false s' r' false) (size_setChan _ _ _ _ _ _ _ _) (fun c hc => setChan_other _ _ _ _ _ _ _ _ hc) rfl rfl rfl (k := .fam .chan g (xs.set j ((xs.getD j (0, 0)).1, m))) rfl (fun hrt _ => by
          refine ⟨?_, fun j' y hj' => ?_⟩
          · rw [List.length_set]
            exact RowAt.same (fun b' hb' => hoth (z, 0) b' (fun e => by injection e with e1 e2; omega) hb') (fun _ _ _ hq' => hq') hB.1
          · by_cases hjj : j' = j
            · subst hjj
              have : y = ((xs.getD j' (0, 0)).1, m) := by
                rw [List.getElem?_set, if_pos rfl, if_pos hj] at hj'
                injection hj' with hj'
                exact hj'.symm
              subst this
              exact ⟨b, buf', s', r', hb, heap_setChan _ _ _ _ _ _ _ _ (heap_lt hh), hm, hmc⟩
            · rw [List.getElem?_set_ne (Ne.symm hjj)] at hj'
              exact mem_keep hrt (fun b' hb' => hoth (g, j' + 1) b' (fun e => by injection e with e1 e2; omega) hb') (hB.2 j' y hj')) hp
        exact ⟨h', hq, F, H'⟩
      · cases hq
    · cases hq
  · cases hq
theorem intoS_spec (H : RelAt N B G (FR U nx) φ ⟨e, h, nx, pr, ks⟩ a w) {c : V} {v : Value} (hr : Rep w (Excl B φ) φ c v) {dst : Option Nat} (hd : ∀ d, dst = some d → d < N) (hq : intoS dst c q ⟨e, h, nx, pr, ks⟩ = some res) : After N B G U pr ks nx φ a w q res (a.put dst v) w := by
  simp only [intoS] at hq
  obtain ⟨e', he, hq⟩ := setO_spec hq
  exact ⟨_, _, hq, H.put hd hr he, rfl, rfl, Nat.le_refl _, Fwd.refl _ _ _, he.kept v⟩
theorem rep_tup2 {X : Nat → Prop} {c1 c2 : V} {v1 v2 : Value} (h1 : Rep w X φ c1 v1) (h2 : Rep w X φ c2 v2) : Rep w X φ (.tup [c1, c2]) (.tuple #[v1, v2]) :=
  .tup [c1, c2] [v1, v2] rfl fun i c v g1 g2 => by
    match i with
    | 0 => simp at g1 g2; subst g1; subst g2; exact h1
    | 1 => simp at g1 g2; subst g1; subst g2; exact h2
    | i + 2 => simp at g1
theorem rep_tup3 {X : Nat → Prop} {c1 c2 c3 : V} {v1 v2 v3 : Value} (h1 : Rep w X φ c1 v1) (h2 : Rep w X φ c2 v2) (h3 : Rep w X φ c3 v3) : Rep w X φ (.tup [c1, c2, c3]) (.tuple #[v1, v2, v3]) :=
  .tup [c1, c2, c3] [v1, v2, v3] rfl fun i c v g1 g2 => by
    match i with
    | 0 => simp at g1 g2; subst g1; subst g2; exact h1
    | 1 => simp at g1 g2; subst g1; subst g2; exact h2
    | 2 => simp at g1 g2; subst g1; subst g2; exact h3
    | i + 3 => simp at g1
theorem sound_comm {i : Nat} (hi : ops[i]? = some o) (hg : o.guard = none) {op : COp} (hc : tOp P o.op = op) (hcm : op.comm = true) (hd : ∀ d, o.dst = some d → d < N) (hq : evComm ⟨e, h, nx, pr, ks⟩ o.dst q op = some res) (H : RelAt N B G (FR U nx) φ ⟨e, h, nx, pr, ks⟩ a w) :
    ∃ v w', CommStep P ops i o a w v w' ∧ After N B G U pr ks nx φ a w q res (a.put o.dst v) w' := by
  have hw : Region.wanted o (yielded ops a.tmps) = true := by unfold Region.wanted; rw [hg]
  subst hc
  have more : ∀ {h' : Heap} {w' : World} {c : V} {v : Value}, Fwd pr φ w φ w' → HeapAt B G (FR U nx) φ h' w' → Rep w' (Excl B φ) φ c v → intoS o.dst c q ⟨e, h', nx, pr, ks⟩ = some res → After N B G U pr ks nx φ a w q res (a.put o.dst v) w' := fun F H' hr hq =>
    (intoS_spec (H.step (pr'' := pr) (ks' := ks) (nx' := nx) F H') hr hd hq).from F (Kept.refl _ _) (Nat.le_refl _)
  rcases tOp_comm hcm with ⟨ch, x, ho, he⟩ | ⟨c, ho, hz, ⟨hs, he⟩ | ⟨x, hs, he⟩⟩
  · rw [he] at hq
    simp only [evComm] at hq
    obtain ⟨b, buf, s0, r0, cap, put, hv, hh, hle, hf, hput⟩ := withCh_spec H hq
    obtain ⟨hroom, hp⟩ := need_some hf
    have hroom := blt_true hroom
    obtain ⟨h', hq, F, H'⟩ := hput _ _ hp (buf.push (a.eval x)) (s0 + 1) r0 (by simp) (by omega)
    exact ⟨_, _, comm_send (z := .tuple #[]) hi hw (by simp [execOp, ho, scase, hv]) hh hroom, more F H' rep_nil_tup hq⟩
  · rw [he] at hq
    simp only [evComm] at hq
    obtain ⟨z, hzr⟩ := tZ_run hz
    have hr : (execOp a.eval o).run P w = .ok (.comm #[{ chan := a.eval c.chan, send := none, zero := z }] false .select) w := by
      simp [execOp, ho, hs, hzr]
    obtain ⟨b, buf, s0, r0, cap, put, hv, hh, hle, hf, hput⟩ := withCh_spec H hq
    rw [hv] at hr
    rcases ask_some hf with ⟨h0, hq⟩ | ⟨h0, hp⟩
    · have h0 : buf.size = 0 := beq_true h0
      have : buf = #[] := Array.size_eq_zero_iff.1 h0
      subst this
      exact ⟨_, _, comm_none hi hw hr hh, intoS_spec H (rep_tup3 mk_i mk_b (.any _)) hd hq⟩
    · have h0 : buf.size ≠ 0 := Nat.ne_of_beq_eq_false h0
      obtain ⟨h', hq, F, H'⟩ := hput _ _ hp (buf.extract 1 buf.size) s0 (r0 + 1) (by simp) (by show buf.size - 1 ≤ cap; omega)
      exact ⟨_, _, comm_recv hi hw hr hh (by omega), more F H' (rep_tup3 mk_i mk_b (.any _)) hq⟩
  · rw [he] at hq
    simp only [evComm] at hq
    obtain ⟨z, hzr⟩ := tZ_run hz
    have hr : (execOp a.eval o).run P w = .ok (.comm #[{ chan := a.eval c.chan, send := some (a.eval x), zero := z }] false .select) w := by
      simp [execOp, ho, hs, hzr]
    obtain ⟨b, buf, s0, r0, cap, put, hv, hh, hle, hf, hput⟩ := withCh_spec H hq
    rw [hv] at hr
    rcases ask_some hf with ⟨h0, hp⟩ | ⟨h0, hq⟩
    · have hroom := blt_true h0
      obtain ⟨h', hq, F, H'⟩ := hput _ _ hp (buf.push (a.eval x)) (s0 + 1) r0 (by simp) (by omega)
      exact ⟨_, _, comm_put hi hw hr hh hroom, more F H' (rep_tup2 mk_i mk_b) hq⟩
    · have hfull : cap ≤ buf.size := by
        rcases Nat.lt_or_ge buf.size cap with h1 | h1
        · have : Nat.blt buf.size cap = true := Nat.ble_eq_true_of_le h1
          rw [this] at h0; cases h0
        · exact h1
      exact ⟨_, _, comm_full hi hw hr hh hfull, intoS_spec H (rep_tup2 mk_i mk_b) hd hq⟩
def UR (U : Nat → Prop) (base k n : Nat) : Nat → Prop := fun x => U x ∨ (base + 2 * k ≤ x ∧ x < base + 2 * n)
theorem sound_evR (call : Calling R) (hcall : CallOk P G call) {Q : Exit → Act → World → Prop} {base n nx₀ : Nat} {K : S → Option R} {φ₀ : Loc} {a₀ : Act} {w₀ : World} (hUx : ∀ x, U x → x < base) (hn : base + 2 * n ≤ nx₀) (hQ : ∀ a' w', After N B G U pr ks nx₀ φ₀ a₀ w₀ K res a' w' → Q .normal a' w') :
    ∀ (l : List Oper) (k : Nat) (e : T V) (h : Heap) (nx : Nat) (φ : Loc) (a : Act) (w : World), (∀ i, l[i]? = ops[k + i]?) → k + l.length = n → evR call (base + 2 * k) (tOpers P N ops l) ⟨e, h, nx, pr, ks⟩ K = some res → nx₀ ≤ nx →
      RelAt N B G (FR (UR U base k n) nx) φ ⟨e, h, nx, pr, ks⟩ a w → Fwd pr φ₀ w₀ φ w → Kept ks a₀ a → wpsC P ops Q (List.range' k l.length) a w
  | [], k, e, h, nx, φ, a, w, _, hk, hq, hnx, H, F, hK => by
    simp only [tOpers, evR] at hq
    simp only [List.length_nil, List.range'_zero, wpsC]
    exact hQ a w ⟨_, φ, hq, H.less fun x hx => hx.imp .inl id, rfl, rfl, hnx, F, hK⟩
  | o :: l, k, e, h, nx, φ, a, w, hl, hk, hq, hnx, H, F, hK => by
    simp only [tOpers, evR] at hq
    simp only [List.length_cons] at hk
    have hi : ops[k]? = some o := by simpa using (hl 0).symm
    simp only [List.length_cons, List.range'_succ]
    have step : wpC P ops k (After N B G (Used (UR U base k n) (base + 2 * k)) pr ks nx φ a w (fun s => evR call (Nat.succ (Nat.succ (base + 2 * k))) (tOpers P N ops l) s K) res) a w := by
      cases hco : tOper P N ops o with
      | mk dst op g =>
      rw [hco] at hq
      dsimp only at hq
      split at hq
      · rename_i hcm
        rcases tOper_spec hco with ⟨rfl, _⟩ | ⟨rfl, hd, hc, ⟨_, hg⟩ | ⟨j, b, t, _, hg, _⟩⟩
        · cases hcm
        · obtain ⟨v, w', h1, h2⟩ := sound_comm hi hg hc hcm hd hq H
          exact .inr ⟨o, v, w', hi, h1, h2.less fun x hx => hx.1⟩
        · cases hg
      · rw [← hco] at hq
        refine .inl (sound_evG call hcall hi (nm := base + 2 * k) (.inr ⟨Nat.le_refl _, by omega⟩) (.inr ⟨by omega, by omega⟩) (fun x hx => ?_) hq H _)
        rcases hx with hx | hx
        · have := hUx x hx; omega
        · omega
    refine wpC_mono ?_ step
    · rintro a' w' ⟨⟨e', h', nx', pr', ks'⟩, φ', hq', H', hp, hks, hnx', F', hK'⟩
      have hp' : pr = pr' := hp.symm
      subst hp'
      have hks' : ks = ks' := hks.symm
      subst hks'
      refine sound_evR call hcall hUx hn hQ l (k + 1) e' h' nx' φ' a' w' (fun i => by have := hl (i + 1); simpa [Nat.add_assoc, Nat.add_comm 1 i] using this) (by omega) hq' (by dsimp only at hnx'; omega) (H'.less fun x hx => ?_) (F.trans F') (hK.trans hK')
      rcases hx with (hx | hx) | hx
      · exact .inl ⟨.inl hx, fun e => by have := hUx x hx; omega, fun e => by have := hUx x hx; omega⟩
      · exact .inl ⟨.inr ⟨by omega, hx.2⟩, by omega, by omega⟩
      · exact .inr hx
end
end Go.TM
namespace Go.TM
open Go.RowKit
section law
variable {P : Program} {ops : Array Oper} {Q : Exit → Act → World → Prop} {md : Region.Mode}
def Waits (md : Region.Mode) (ops : Array Oper) (j i : Nat) : Prop := ∃ o, ops[j]? = some o ∧ ∃ e ∈ o.after, Region.binds md e = true ∧ e.on = i
inductive WT (md : Region.Mode) (ops : Array Oper) : Nat → Nat → Prop
  | one {j i : Nat} (h : Waits md ops j i) : WT md ops j i
  | step {j k i : Nat} (h : Waits md ops j k) (t : WT md ops k i) : WT md ops j i
def Shut (md : Region.Mode) (ops : Array Oper) (listed : Array Bool) : Prop := ∀ j i, listed.getD j false = true → Waits md ops j i → listed.getD i false = true
theorem Shut.trans {listed : Array Bool} (h : Shut md ops listed) {j i : Nat} (hw : WT md ops j i) : listed.getD j false = true → listed.getD i false = true := by
  induction hw with
  | one hw => exact fun hj => h _ _ hj hw
  | step hw _ ih => exact fun hj => ih (h _ _ hj hw)
theorem Shut.ready {listed : Array Bool} (h : Shut md ops listed) {j i : Nat} (hj : ∀ k, Waits md ops j k → listed.getD k false = true) (hw : WT md ops j i) : listed.getD i false = true := by
  cases hw with
  | one hw => exact hj _ hw
  | step hw ht => exact h.trans ht (hj _ hw)
theorem waits_ready {listed : Array Bool} {j : Nat} (hj : j ∈ Region.ready md ops listed) : ∀ k, Waits md ops j k → listed.getD k false = true := by
  rintro k ⟨o, ho, e, he, hb, rfl⟩
  obtain ⟨_, o', ho', hall⟩ := mem_ready.1 hj
  rw [ho] at ho'; injection ho' with ho'; subst ho'
  exact hall e he hb
theorem Shut.set {listed : Array Bool} (h : Shut md ops listed) {j : Nat} (hj : j ∈ Region.ready md ops listed) : Shut md ops (listed.setIfInBounds j true) := by
  have up : ∀ {k}, listed.getD k false = true → (listed.setIfInBounds j true).getD k false = true := fun {k} hk => by
    by_cases hkj : j = k
    · subst hkj
      have : j < listed.size := by
        rcases Nat.lt_or_ge j listed.size with h | h
        · exact h
        · simp [Array.getD, Nat.not_lt.2 h] at hk
      simp [Array.getD, this]
    · rw [getD_set_ne false hkj]; exact hk
  intro k i hk hw
  by_cases hkj : j = k
  · subst hkj; exact up (waits_ready hj i hw)
  · rw [getD_set_ne false hkj] at hk; exact up (h k i hk hw)
abbrev HL := List (Nat × (World → Prop))
open Classical in
noncomputable def HL.past (md : Region.Mode) (ops : Array Oper) (j : Nat) (D : HL) : HL := D.filter fun p => decide (¬ WT md ops j p.1)
theorem mem_past {D : HL} {j : Nat} {p : Nat × (World → Prop)} : p ∈ D.past md ops j ↔ p ∈ D ∧ ¬ WT md ops j p.1 := by
  classical
  unfold HL.past
  rw [List.mem_filter]
  simp
def wpAnyE (P : Program) (md : Region.Mode) (ops : Array Oper) (Q : Exit → Act → World → Prop) : HL → Nat → Array Bool → Act → World → Prop
  | _, 0, listed, a, w => Region.ready md ops listed = [] ∧ Q .normal a w
  | D, fuel + 1, listed, a, w =>
    (Region.ready md ops listed = [] → Q .normal a w) ∧
    ∀ j ∈ Region.ready md ops listed, wpOp P ops Q j (fun a' w' => (∀ p ∈ D, ¬ WT md ops j p.1 → p.2 w') ∧ wpAnyE P md ops Q (D.past md ops j) fuel (listed.setIfInBounds j true) a' w') a w
theorem wpAny_of_E : ∀ (fuel : Nat) (D : HL) (listed : Array Bool) (a : Act) (w : World), wpAnyE P md ops Q D fuel listed a w → wpAny P md ops Q fuel listed a w
  | 0, _, _, _, _, h => h
  | fuel + 1, D, _, _, _, h => ⟨h.1, fun i hi => wpOp_mono (fun a' w' h' => wpAny_of_E fuel _ _ a' w' h'.2) (h.2 i hi)⟩
theorem wpAnyE_mono : ∀ (fuel : Nat) {D D' : HL} (hD : ∀ p ∈ D', p ∈ D) {listed : Array Bool} {a : Act} {w : World}, wpAnyE P md ops Q D fuel listed a w → wpAnyE P md ops Q D' fuel listed a w
  | 0, _, _, _, _, _, _, h => h
  | fuel + 1, D, D', hD, _, _, _, h => ⟨h.1, fun i hi => wpOp_mono (fun a' w' h' => ⟨fun p hp => h'.1 p (hD p hp), wpAnyE_mono fuel (fun p hp => mem_past.2 ⟨hD p (mem_past.1 hp).1, (mem_past.1 hp).2⟩) h'.2⟩) (h.2 i hi)⟩
theorem wpAnyE_first {i : Nat} {oi : Oper} {v : Value} {S : World → Prop} (hi : ops[i]? = some oi) (hsel : ∀ (j : Nat) (o : Oper) cs b, ops[j]? = some o → o.op ≠ .select cs b)
    (hQ : ∀ c a w, Q (.panic c) (a.put oi.dst v) w → Q (.panic c) a w) :
    ∀ (fuel : Nat) (D : HL) (listed : Array Bool) (a : Act) (w : World), Shut md ops listed →
      (∀ j oj, ops[j]? = some oj → j ≠ i → listed.getD j true = false → (∀ e ∈ oj.after, Region.binds md e = true → e.on ≠ i) → oi.apart ops oj = true) →
      i ∈ Region.ready md ops listed → YieldsIf P ops S oi v a → S w → (∀ p ∈ D, p.2 w) →
      wpAnyE P md ops Q ((i, S) :: D) fuel (listed.setIfInBounds i true) (a.put oi.dst v) w → wpAnyE P md ops Q D (fuel + 1) listed a w := by
  have same : ∀ {fuel : Nat} {D : HL} {listed : Array Bool} {a : Act} {w : World}, YieldsIf P ops S oi v a → S w → (∀ p ∈ D, p.2 w) → wpAnyE P md ops Q ((i, S) :: D) fuel (listed.setIfInBounds i true) (a.put oi.dst v) w →
      wpOp P ops Q i (fun a' w' => (∀ p ∈ D, ¬ WT md ops i p.1 → p.2 w') ∧ wpAnyE P md ops Q (D.past md ops i) fuel (listed.setIfInBounds i true) a' w') a w := fun hy hS hD H =>
    hy.wpOp hi hS ⟨fun p hp _ => hD p hp, wpAnyE_mono _ (fun p hp => List.mem_cons_of_mem _ (mem_past.1 hp).1) H⟩
  intro fuel
  induction fuel with
  | zero =>
    intro D listed a w hsh _ hr hy hS hD H
    refine ⟨fun h => (by rw [h] at hr; cases hr), fun j hj => ?_⟩
    by_cases hji : j = i
    · subst hji; exact same hy hS hD H
    · have := ready_mono hj hji
      rw [H.1] at this
      cases this
  | succ fuel ih =>
    intro D listed a w hsh hfree hr hy hS hD H
    refine ⟨fun h => (by rw [h] at hr; cases hr), fun j hj => ?_⟩
    by_cases hji : j = i
    · subst hji; exact same hy hS hD H
    · have h1 := H.2 j (ready_mono hj hji)
      obtain ⟨hjun, oj, hoj, hall⟩ := mem_ready.1 hj
      have hnot : ∀ e ∈ oj.after, Region.binds md e = true → e.on ≠ i := fun e he hb heq => by
        have h1 := hall e he hb
        have h0 := (mem_ready.1 hr).1
        rw [heq] at h1
        rcases Nat.lt_or_ge i listed.size with h' | h'
        · simp [h'] at h0 h1; rw [h0] at h1; cases h1
        · simp [Array.getElem?_eq_none h'] at h1
      have hnw : ¬ WT md ops j i := fun hw => by
        have h1 := hsh.ready (waits_ready hj) hw
        have h0 := (mem_ready.1 hr).1
        rcases Nat.lt_or_ge i listed.size with h' | h'
        · simp [h'] at h0 h1; rw [h0] at h1; cases h1
        · simp [Array.getElem?_eq_none h'] at h1
      have h2 := wpOp_putIf hoj (hfree j oj hoj hji hjun hnot) (fun cs b => hsel i oi cs b hi) (fun cs b => hsel j oj cs b hoj) hQ hy h1
      have hfree' : ∀ k ok, ops[k]? = some ok → k ≠ i → (listed.setIfInBounds j true).getD k true = false →
          (∀ e ∈ ok.after, Region.binds md e = true → e.on ≠ i) → oi.apart ops ok = true := fun k ok hk hki hun hno => by
        refine hfree k ok hk hki ?_ hno
        by_cases hjk : j = k
        · subst hjk; exact hjun
        · rw [getD_set_ne true hjk] at hun; exact hun
      refine wpOp_mono (fun a' w' ⟨hy', hS', h4⟩ => ⟨fun p hp hw => hS' p (List.mem_cons_of_mem _ hp) hw, ih (D.past md ops j) (listed.setIfInBounds j true) a' w' (hsh.set hj) hfree' (ready_mono hr (Ne.symm hji)) hy' (hS' (i, S) (by simp) hnw) (fun p hp => hS' p (List.mem_cons_of_mem _ (mem_past.1 hp).1) (mem_past.1 hp).2) ?_⟩) h2
      rw [Array.setIfInBounds_comm _ _ hji]
      refine wpAnyE_mono _ (fun p hp => ?_) h4
      rcases List.mem_cons.1 hp with rfl | hp
      · exact mem_past.2 ⟨by simp, hnw⟩
      · exact mem_past.2 ⟨List.mem_cons_of_mem _ (mem_past.1 hp).1, (mem_past.1 hp).2⟩
theorem wpAnyE_done {D : HL} {listed : Array Bool} {a : Act} {w : World} (hr : Region.ready md ops listed = []) (h : Q .normal a w) : ∀ fuel, wpAnyE P md ops Q D fuel listed a w
  | 0 => ⟨hr, h⟩
  | _ + 1 => ⟨fun _ => h, by rw [hr]; simp⟩
end law
theorem bitsOf_test : ∀ (l : List Nat) (k : Nat), Nat.testBit (bitsOf l) k = decide (k ∈ l)
  | [], k => by simp [bitsOf]
  | i :: r, k => by
    show Nat.testBit (2 ^ i ||| bitsOf r) k = _
    rw [Nat.testBit_or, bitsOf_test r k, Nat.testBit_two_pow]
    by_cases h : i = k
    · subst h; simp
    · by_cases h2 : k ∈ r <;> simp [h, h2, Ne.symm h]
theorem set_bit (L i k : Nat) : Nat.testBit (Nat.lor L (Nat.pow 2 i)) k = (Nat.testBit L k || decide (i = k)) := by
  show Nat.testBit (L ||| 2 ^ i) k = _
  rw [Nat.testBit_or, Nat.testBit_two_pow]
theorem tPre_mem : ∀ (l : List Edge) (i : Nat), i ∈ tPre l ↔ ∃ e ∈ l, Region.binds .any e = true ∧ e.on = i
  | [], i => by simp [tPre]
  | e :: r, i => by
    simp only [tPre]
    split
    · rename_i hb
      rw [List.mem_cons, tPre_mem r i]
      constructor
      · rintro (rfl | ⟨e', he', h⟩)
        · exact ⟨e, by simp, hb, rfl⟩
        · exact ⟨e', by simp [he'], h⟩
      · rintro ⟨e', he', hb', rfl⟩
        rcases List.mem_cons.1 he' with rfl | he'
        · exact .inl rfl
        · exact .inr ⟨e', he', hb', rfl⟩
    · rename_i hb
      rw [tPre_mem r i]
      constructor
      · rintro ⟨e', he', h⟩; exact ⟨e', by simp [he'], h⟩
      · rintro ⟨e', he', hb', rfl⟩
        rcases List.mem_cons.1 he' with rfl | he'
        · rw [hb] at hb'; cases hb'
        · exact ⟨e', he', hb', rfl⟩
theorem pre_test {o : Oper} (i : Nat) : Nat.testBit (bitsOf (tPre o.after.toList)) i = true ↔ ∃ e ∈ o.after, Region.binds .any e = true ∧ e.on = i := by
  rw [bitsOf_test, decide_eq_true_iff, tPre_mem]
  simp
theorem land_sub {a b : Nat} (h : Nat.beq (Nat.land a b) a = true) {k : Nat} (hk : Nat.testBit a k = true) : Nat.testBit b k = true := by
  have h := Nat.eq_of_beq_eq_true h
  have h2 : Nat.testBit (a &&& b) k = true := by
    show Nat.testBit (Nat.land a b) k = true
    rw [h]; exact hk
  rw [Nat.testBit_and] at h2
  simp only [Bool.and_eq_true] at h2
  exact h2.2
theorem land_sup {a b : Nat} (h : Nat.beq (Nat.land a b) b = true) {k : Nat} (hk : Nat.testBit b k = true) : Nat.testBit a k = true := by
  have h := Nat.eq_of_beq_eq_true h
  have h2 : Nat.testBit (a &&& b) k = true := by
    show Nat.testBit (Nat.land a b) k = true
    rw [h]; exact hk
  rw [Nat.testBit_and] at h2
  simp only [Bool.and_eq_true] at h2
  exact h2.1
theorem full_test (n k : Nat) : Nat.testBit (Nat.sub (Nat.pow 2 n) 1) k = decide (k < n) := Nat.testBit_two_pow_sub_one n k
theorem apartB_spec {ops : Array Oper} {x y : Oper} (h : apartB x.dst (x.looksAt ops) y.dst (y.looksAt ops) = true) : x.apart ops y = true := by
  unfold apartB at h
  unfold Oper.apart
  have hc : ∀ (l : List Nat) (d : Nat), memN d l = l.contains d := fun l d => by
    rw [Bool.eq_iff_iff, memN_iff]; simp
  simp only [hc] at h
  simp only [Bool.and_eq_true] at h ⊢
  refine ⟨?_, h.2⟩
  cases hx : x.dst with
  | none => rfl
  | some d =>
    have h1 := h.1
    rw [hx] at h1
    simp only [Bool.and_eq_true] at h1
    simp only [Bool.and_eq_true]
    refine ⟨h1.1, ?_⟩
    cases hy : y.dst with
    | none => simp
    | some d' =>
      rw [hy] at h1
      have := h1.2
      simp only [Bool.not_eq_true'] at this
      have := Nat.ne_of_beq_eq_false this
      simpa using this
theorem tLooks_get {ops : Array Oper} : ∀ (l : List Oper) (j : Nat), (tLooks ops l)[j]? = (l[j]?).map fun o => (o.dst, o.looksAt ops, bitsOf (tPre o.after.toList))
  | [], j => rfl
  | o :: r, j => by
    cases j with
    | zero => rfl
    | succ j => simpa [tLooks] using tLooks_get r j
theorem farOf_spec (i : Nat) (dx : Option Nat) (lx : List Nat) : ∀ (l : List (Option Nat × List Nat × Nat)) (k j : Nat), j ∈ farOf i dx lx k l → k ≤ j ∧ ∃ dy ly p, l[j - k]? = some (dy, ly, p) ∧ (i = j ∨ Nat.testBit p i = true ∨ apartB dx lx dy ly = true)
  | [], k, j, h => by cases h
  | (dy, ly, p) :: r, k, j, h => by
    have tail : j ∈ farOf i dx lx (Nat.succ k) r → k ≤ j ∧ ∃ dy' ly' p', ((dy, ly, p) :: r)[j - k]? = some (dy', ly', p') ∧ (i = j ∨ Nat.testBit p' i = true ∨ apartB dx lx dy' ly' = true) := fun h => by
      obtain ⟨h1, dy', ly', p', h2, h3⟩ := farOf_spec i dx lx r _ j h
      simp only [Nat.succ_eq_add_one] at h1 h2
      exact ⟨by omega, dy', ly', p', by rw [show j - k = (j - (k + 1)) + 1 from by omega]; simpa using h2, h3⟩
    simp only [farOf] at h
    split at h
    · rename_i hc
      rcases List.mem_cons.1 h with rfl | h
      · simp only [Bool.or_eq_true] at hc
        refine ⟨Nat.le_refl _, dy, ly, p, by simp, ?_⟩
        rcases hc with (hc | hc) | hc
        · exact .inl (Nat.eq_of_beq_eq_true hc)
        · exact .inr (.inl hc)
        · exact .inr (.inr hc)
      · exact tail h
    · exact tail h
theorem tROps_get {P : Program} {N : Nat} {ops : Array Oper} (ks : List (Option Nat × List Nat × Nat)) (ts : List Nat) : ∀ (l : List Oper) (k j : Nat), (tROps P N ops ks ts k l)[j]? = (l[j]?).map fun o => ⟨tOper P N ops o, bitsOf (tPre o.after.toList), bitsOf (farOf (k + j) o.dst (o.looksAt ops) 0 ks), mayTake o.op, nthD 0 ts (Nat.sub (Nat.pred ks.length) (k + j))⟩
  | [], k, j => rfl
  | o :: r, k, j => by
    cases j with
    | zero => rfl
    | succ j => simp only [tROps, List.getElem?_cons_succ]; rw [tROps_get ks ts r (Nat.succ k) j, show Nat.succ k + j = k + (j + 1) from by omega]
def BitsOk (ops : Array Oper) (acc : List Nat) : Prop := ∀ j, j < acc.length → ∀ k, Nat.testBit (nthD 0 acc (acc.length - 1 - j)) k = true → WT .any ops j k
theorem orRev_spec {ops : Array Oper} {j : Nat} {bits : Nat} (hb : ∀ k, Nat.testBit bits k = true → Waits .any ops j k) : ∀ (l : List Nat) (a : Nat), BitsOk ops l → (∀ k, Nat.testBit a k = true → WT .any ops j k) → ∀ k, Nat.testBit (orRev bits l.length l a) k = true → WT .any ops j k
  | [], a, _, ha, k, hk => ha k hk
  | t :: r, a, hl, ha, k, hk => by
    have hr : BitsOk ops r := fun i hi k hk => by
      refine hl i (by simp; omega) k ?_
      rw [show (t :: r).length - 1 - i = (r.length - 1 - i) + 1 from by simp; omega]
      exact hk
    simp only [orRev, List.length_cons, Nat.pred_succ] at hk
    split at hk
    · rename_i hbit
      refine orRev_spec hb r _ hr (fun k hk => ?_) k hk
      have hk : Nat.testBit (a ||| t) k = true := hk
      rw [Nat.testBit_or, Bool.or_eq_true] at hk
      rcases hk with hk | hk
      · exact ha k hk
      · refine .step (hb _ hbit) (hl r.length (by simp) k ?_)
        rw [show (t :: r).length - 1 - r.length = 0 from by simp]
        exact hk
    · exact orRev_spec hb r _ hr ha k hk
theorem closeR_spec {ops : Array Oper} : ∀ (l : List Oper) (acc : List Nat), (∀ i, l[i]? = ops[acc.length + i]?) → BitsOk ops acc → BitsOk ops (closeR acc.length (tLooks ops l) acc) ∧ (closeR acc.length (tLooks ops l) acc).length = acc.length + l.length
  | [], acc, _, h => ⟨h, rfl⟩
  | o :: r, acc, hl, h => by
    simp only [tLooks, closeR]
    have ho : ops[acc.length]? = some o := by simpa using (hl 0).symm
    have hw : ∀ k, Nat.testBit (bitsOf (tPre o.after.toList)) k = true → Waits .any ops acc.length k := fun k hk => ⟨o, ho, (pre_test k).1 hk⟩
    have h' : BitsOk ops (orRev (bitsOf (tPre o.after.toList)) acc.length acc (bitsOf (tPre o.after.toList)) :: acc) := fun j hj k hk => by
      rcases Nat.lt_or_ge j acc.length with hlt | hge
      · refine h j hlt k ?_
        rw [show (orRev (bitsOf (tPre o.after.toList)) acc.length acc (bitsOf (tPre o.after.toList)) :: acc).length - 1 - j = (acc.length - 1 - j) + 1 from by simp; omega] at hk
        exact hk
      · have : j = acc.length := by simp at hj; omega
        subst this
        rw [show (orRev (bitsOf (tPre o.after.toList)) acc.length acc (bitsOf (tPre o.after.toList)) :: acc).length - 1 - acc.length = 0 from by simp] at hk
        exact orRev_spec hw acc _ h (fun k hk => .one (hw k hk)) k hk
    have := closeR_spec r _ (fun i => by have := hl (i + 1); simp only [List.getElem?_cons_succ] at this; rw [this]; congr 1; simp; omega) h'
    simp only [List.length_cons] at this
    exact ⟨this.1, by rw [show Nat.succ acc.length = acc.length + 1 from rfl, this.2]; simp; omega⟩
theorem tLooks_len {ops : Array Oper} : ∀ (l : List Oper), (tLooks ops l).length = l.length
  | [] => rfl
  | o :: r => by simp [tLooks, tLooks_len r]
theorem pt_spec {ops : Array Oper} {i k : Nat} (hi : i < ops.size) (h : Nat.testBit (nthD 0 (closeR 0 (tLooks ops ops.toList) []) (Nat.sub (Nat.pred (tLooks ops ops.toList).length) i)) k = true) : WT .any ops i k := by
  obtain ⟨h1, h2⟩ := closeR_spec (ops := ops) ops.toList [] (fun i => by simp) (fun j hj => by simp at hj)
  have h2 : (closeR 0 (tLooks ops ops.toList) []).length = ops.size := by simpa using h2
  have h1 : BitsOk ops (closeR 0 (tLooks ops ops.toList) []) := h1
  refine h1 i (by omega) k ?_
  rw [h2]
  rw [tLooks_len] at h
  have e : Nat.sub (Nat.pred ops.toList.length) i = ops.size - 1 - i := by simp
  rw [e] at h
  exact h
theorem firstTake_spec {full L : Nat} : ∀ {rs : List ROp} {k i : Nat} {c : COper}, firstTake full L k rs = some (i, c) → k ≤ i ∧ ∃ r, rs[i - k]? = some r ∧ isReady r i L = true ∧ Nat.beq (Nat.land (Nat.lor r.far L) full) full = true ∧ c = r.c
  | [], k, i, c, h => by cases h
  | r :: rs, k, i, c, h => by
    simp only [firstTake] at h
    split at h
    · rename_i hc
      injection h with h
      injection h with h1 h2
      subst h1; subst h2
      simp only [Bool.and_eq_true] at hc
      exact ⟨Nat.le_refl _, r, by simp, hc.1.1, hc.2, rfl⟩
    · obtain ⟨h1, r', h2, h3⟩ := firstTake_spec h
      simp only [Nat.succ_eq_add_one] at h1 h2
      exact ⟨by omega, r', by rw [show i - k = (i - (k + 1)) + 1 from by omega]; simpa using h2, h3⟩
theorem readyOf_spec {L : Nat} : ∀ {rs : List ROp} {k i : Nat} {r : ROp}, k ≤ i → rs[i - k]? = some r → isReady r i L = true → (i, r) ∈ readyOf L k rs
  | [], k, i, r, _, h, _ => by cases h
  | r' :: rs, k, i, r, hk, h, hr => by
    simp only [readyOf]
    by_cases hik : i = k
    · subst hik
      simp at h
      subst h
      rw [hr]
      simp
    · have ih := readyOf_spec (L := L) (rs := rs) (k := Nat.succ k) (i := i) (r := r) (by simp only [Nat.succ_eq_add_one]; omega) (by rw [show i - k = (i - (k + 1)) + 1 from by omega] at h; simpa using h) hr
      split
      · exact List.mem_cons_of_mem _ ih
      · exact ih
theorem allR_spec {α R : Type} {p : α → Option R} {res : R} : ∀ {l : List α}, allR p l = some res → ∀ x ∈ l, p x = some res
  | [], _, x, hx => by cases hx
  | [a], h, x, hx => by
    simp only [List.mem_singleton] at hx
    subst hx
    exact h
  | a :: b :: r, h, x, hx => by
    obtain ⟨h1, h2⟩ := both_some (x := p a) (y := allR p (b :: r)) h
    rcases List.mem_cons.1 hx with rfl | hx
    · exact h1
    · exact allR_spec h2 x hx
theorem still_mem {pre : Nat} : ∀ {D : Held} {i y : Nat}, (i, y) ∈ D → Nat.testBit pre i = false → (i, y) ∈ still pre D
  | [], i, y, h, _ => by cases h
  | (j, z) :: r, i, y, h, hp => by
    simp only [still]
    split
    · rename_i hj
      rcases List.mem_cons.1 h with h | h
      · injection h with h1 h2; subst h1; rw [hj] at hp; cases hp
      · exact still_mem h hp
    · rcases List.mem_cons.1 h with h | h
      · rw [h]; simp
      · exact List.mem_cons_of_mem _ (still_mem h hp)
theorem hasH_iff : ∀ {D : Held} {x : Nat}, hasH x D = true ↔ ∃ i, (i, x) ∈ D
  | [], x => by simp [hasH]
  | (j, y) :: r, x => by
    simp only [hasH]
    split
    · rename_i h; have := Nat.eq_of_beq_eq_true h; subst this; simp only [true_iff]; exact ⟨j, by simp⟩
    · rename_i h
      have hne := Nat.ne_of_beq_eq_false h
      rw [hasH_iff (D := r)]
      constructor
      · rintro ⟨i, h⟩; exact ⟨i, List.mem_cons_of_mem _ h⟩
      · rintro ⟨i, h⟩
        rcases List.mem_cons.1 h with h | h
        · injection h with h1 h2; exact absurd h2 hne
        · exact ⟨i, h⟩
theorem addPr_iff {pr : Nat → Bool} {D : Held} {x : Nat} : addPr pr D x = true ↔ pr x = true ∨ ∃ i, (i, x) ∈ D := by
  unfold addPr
  split
  · rename_i h; simp only [true_iff]; exact .inr (hasH_iff.1 h)
  · rename_i h
    constructor
    · exact .inl
    · rintro (h1 | h1)
      · exact h1
      · rw [hasH_iff.2 h1] at h; cases h
theorem addH_mem {i : Nat} {D : Held} : ∀ {ys : List Nat} {p : Nat × Nat}, p ∈ addH i D ys ↔ p ∈ D ∨ ∃ y ∈ ys, p = (i, y)
  | [], p => by simp [addH]
  | y :: r, p => by
    simp only [addH, List.mem_cons, addH_mem (ys := r)]
    constructor
    · rintro (h | h | ⟨z, hz, h⟩)
      · exact .inr ⟨y, .inl rfl, h⟩
      · exact .inl h
      · exact .inr ⟨z, .inr hz, h⟩
    · rintro (h | ⟨z, rfl | hz, h⟩)
      · exact .inr (.inl h)
      · exact .inl h
      · exact .inr (.inr ⟨z, hz, h⟩)
end Go.TM
namespace Go.TM
open Go.RowKit
section
variable {P : Program} {ty : TypeId} {N : Nat} {B : Nat → Prop} {G : Nat → Nat → Value → Prop} {fr U : Nat → Prop} {φ : Loc} {a : Act} {w : World} {e : T V} {h : Heap} {nx : Nat} {pr ks : Nat → Bool} {R : Type} {res : R}
variable {o : Oper} {nm : Nat} {q : S → Option R} {ops : Array Oper}
def AsWas (E : Nat → Prop) (w₀ : World) : World → Prop := fun w => ∀ b, E b → w.heap[b]? = w₀.heap[b]?
def HeldOk (B : Nat → Prop) (φ : Loc) (w : World) (D : Held) (DL : HL) : Prop :=
  ∀ p ∈ DL, ∃ (E : Nat → Prop) (w₀ : World), p.2 = AsWas E w₀ ∧ AsWas E w₀ w ∧ ∀ b, E b → (b < w.heap.size ∧ ¬ Excl B φ b) ∨ ∃ n : Nm, (p.1, n.1) ∈ D ∧ (φ n).has b
theorem take_step {i : Nat} {D : Held} {q : Held → S → Option R} (hq : evTake ⟨e, h, nx, pr, ks⟩ i nm D q (tOper P N ops o) = some res) (H : RelAt N B G (FR U nx) φ ⟨e, h, nx, pr, ks⟩ a w) :
    ∃ v D' E e', YieldsIf P ops (AsWas E w) o v a ∧ q D' ⟨e', h, nx, pr, ks⟩ = some res ∧ RelAt N B G (FR U nx) φ ⟨e', h, nx, pr, ks⟩ (a.put o.dst v) w ∧ Kept ks a (a.put o.dst v) ∧ (∀ p ∈ D, p ∈ D') ∧ ∀ b, E b → (b < w.heap.size ∧ ¬ Excl B φ b) ∨ ∃ n : Nm, (i, n.1) ∈ D' ∧ (φ n).has b := by
  cases hco : tOper P N ops o with
  | mk dst op g =>
  rw [hco] at hq
  have bad : ∀ {r : Option (List Nat)}, evTake2 ⟨e, h, nx, pr, ks⟩ dst i D q r (yv e h nm .bad) = some res → False := fun h => by cases h
  have taken : ∀ {e : T V}, RelAt N B G (FR U nx) φ ⟨e, h, nx, pr, ks⟩ a w → dst = o.dst → (∀ d, o.dst = some d → d < N) → tOp P o.op = op → Region.wanted o (yielded ops a.tmps) = true → evTake2 ⟨e, h, nx, pr, ks⟩ dst i D q (reads op (TM.opd e op.addr)) (yv e h nm op) = some res →
      ∃ v D' E e', YieldsIf P ops (AsWas E w) o v a ∧ q D' ⟨e', h, nx, pr, ks⟩ = some res ∧ RelAt N B G (FR U nx) φ ⟨e', h, nx, pr, ks⟩ (a.put o.dst v) w ∧ Kept ks a (a.put o.dst v) ∧ (∀ p ∈ D, p ∈ D') ∧ ∀ b, E b → (b < w.heap.size ∧ ¬ Excl B φ b) ∨ ∃ n : Nm, (i, n.1) ∈ D' ∧ (φ n).has b := by
    rintro e H rfl hd hc hw hq
    unfold evTake2 at hq
    split at hq
    · rename_i p v hy
      obtain ⟨hp0, hq2⟩ := need_some hq
      clear hq
      subst hp0
      have hq := hq2
      clear hq2
      obtain ⟨u, E, hr, hx, hE⟩ := sound_quiet hc hy H
      have hY : YieldsIf P ops (AsWas E w) o u a := .inl ⟨hw, fun w' hw' => hx w' hw'⟩
      unfold evTake3 at hq
      split at hq
      · rename_i ys hrd
        obtain ⟨e', he, hq⟩ := setO_spec hq
        refine ⟨u, _, E, e', hY, hq, H.put hd hr he, he.kept _, fun p hp => addH_mem.2 (.inl hp), fun b hb => ?_⟩
        rcases hE _ hrd b hb with h1 | ⟨n, h1, h2⟩
        · exact .inl h1
        · exact .inr ⟨n, addH_mem.2 (.inr ⟨_, h1, rfl⟩), h2⟩
      · cases hq
    · cases hq
  rcases tOper_spec hco with ⟨rfl, rfl⟩ | ⟨hdst, hd, hc, ⟨rfl, hg⟩ | ⟨j, b, t, hg, rfl, hj⟩⟩
  · exact (bad (show evTake2 ⟨e, h, nx, pr, ks⟩ dst i D q (reads .bad (TM.opd e COp.bad.addr)) (yv e h nm .bad) = some res from hq)).elim
  · exact taken H hdst hd hc (by unfold Region.wanted; rw [hg]) hq
  · simp only [evTake] at hq
    obtain ⟨e1, H1, ⟨hw, hgo⟩ | ⟨hw, hsk⟩⟩ := guard_spec H hg hj hq
    · exact taken H1 hdst hd hc hw hgo
    · subst hdst
      simp only [skipped] at hsk
      obtain ⟨e', he, hsk⟩ := setO_spec hsk
      exact ⟨undef, D, fun _ => False, e', .inr ⟨hw, rfl⟩, hsk, H1.put hd rep_nil_tup he, he.kept _, fun p hp => hp, fun b hb => hb.elim⟩
def UD (U : Nat → Prop) (base n L : Nat) : Nat → Prop := fun x => U x ∨ (base ≤ x ∧ x < base + 2 * n ∧ Nat.testBit L ((x - base) / 2) = false)
theorem HeldOk.step {D D' : Held} {DL : HL} (H : HeldOk B φ w D DL) {pr' : Nat → Bool} {φ' : Loc} {w' : World} (F : Fwd pr' φ w φ' w') {i : Nat} (hinj : ∀ n m b, (φ n).has b → (φ m).has b → n = m) (hlt : ∀ n b, (φ n).has b → b < w.heap.size) (hD : ∀ p ∈ DL, ¬ WT .any ops i p.1 → ∀ y, (p.1, y) ∈ D → (p.1, y) ∈ D' ∧ pr' y = true) :
    (∀ p ∈ DL, ¬ WT .any ops i p.1 → p.2 w') ∧ HeldOk B φ' w' D' (DL.past .any ops i) := by
  have key : ∀ p ∈ DL, ¬ WT .any ops i p.1 → ∃ (E : Nat → Prop) (w₀ : World), p.2 = AsWas E w₀ ∧ AsWas E w₀ w' ∧ ∀ b, E b → (b < w'.heap.size ∧ ¬ Excl B φ' b) ∨ ∃ n : Nm, (p.1, n.1) ∈ D' ∧ (φ' n).has b := by
    intro p hp hw
    obtain ⟨E, w₀, h1, h2, h3⟩ := H p hp
    refine ⟨E, w₀, h1, fun b hb => ?_, fun b hb => ?_⟩
    · rw [← h2 b hb]
      rcases h3 b hb with ⟨h4, h5⟩ | ⟨y, h4, h5⟩
      · exact F.block b h4 fun x hx => absurd (.inr ⟨x, hx⟩) h5
      · refine F.block b (hlt y b h5) fun x hx => ?_
        rw [hinj x y b hx h5]
        exact (hD p hp hw y.1 h4).2
    · rcases h3 b hb with ⟨h4, h5⟩ | ⟨y, h4, h5⟩
      · refine .inl ⟨Nat.lt_of_lt_of_le h4 F.size, fun hx => ?_⟩
        rcases hx with hx | ⟨x, hx⟩
        · exact h5 (.inl hx)
        · rcases F.new x b hx with ⟨y, hy, _⟩ | hge
          · exact h5 (.inr ⟨y, hy⟩)
          · omega
      · obtain ⟨h6, h7⟩ := hD p hp hw y.1 h4
        refine .inr ⟨y, h6, ?_⟩
        rcases F.old y (has_alive h5).1 with h8 | ⟨_, h8⟩
        · rw [h8]; exact h5
        · rw [h7] at h8; cases h8
  refine ⟨fun p hp hw => ?_, fun p hp => key p (mem_past.1 hp).1 (mem_past.1 hp).2⟩
  obtain ⟨E, w₀, h1, h2, _⟩ := key p hp hw
  rw [h1]; exact h2
theorem readyOf_mem {L : Nat} : ∀ {rs : List ROp} {k i : Nat} {r : ROp}, (i, r) ∈ readyOf L k rs → k ≤ i ∧ rs[i - k]? = some r ∧ isReady r i L = true
  | [], k, i, r, h => by cases h
  | r' :: rs, k, i, r, h => by
    have tail : (i, r) ∈ readyOf L (Nat.succ k) rs → k ≤ i ∧ (r' :: rs)[i - k]? = some r ∧ isReady r i L = true := fun h => by
      obtain ⟨h1, h2, h3⟩ := readyOf_mem h
      simp only [Nat.succ_eq_add_one] at h1 h2
      exact ⟨by omega, by rw [show i - k = (i - (k + 1)) + 1 from by omega]; simpa using h2, h3⟩
    simp only [readyOf] at h
    split at h
    · rename_i hr
      rcases List.mem_cons.1 h with h | h
      · injection h with h1 h2
        subst h1; subst h2
        exact ⟨Nat.le_refl _, by simp, hr⟩
      · exact tail h
    · exact tail h
theorem sound_evD (call : Calling R) (hcall : CallOk P G call) (hsel : Region.noSelect ops = true) {Q : Exit → Act → World → Prop} (hQp : ∀ c a w, ¬ Q (.panic c) a w) {base nx₀ : Nat} {K : S → Option R} {φ₀ : Loc} {a₀ : Act} {w₀ : World} (hUx : ∀ x, U x → x < base) (hn : base + 2 * ops.size ≤ nx₀)
    (hQ : ∀ a' w', After N B G U pr ks nx₀ φ₀ a₀ w₀ K res a' w' → Q .normal a' w') :
    ∀ (f L : Nat) (D : Held) (DL : HL) (listed : Array Bool) (e : T V) (h : Heap) (nx : Nat) (φ : Loc) (a : Act) (w : World),
      evD call base (tROps P N ops (tLooks ops ops.toList) (closeR 0 (tLooks ops ops.toList) []) 0 ops.toList) (Nat.sub (Nat.pow 2 ops.size) 1) f L D ⟨e, h, nx, pr, ks⟩ K = some res → listed.size = ops.size → (∀ i, i < ops.size → listed.getD i true = Nat.testBit L i) → (∀ i, Nat.testBit L i = true → i < ops.size) → Shut .any ops listed → nx₀ ≤ nx →
      RelAt N B G (FR (UD U base ops.size L) nx) φ ⟨e, h, nx, pr, ks⟩ a w → Fwd pr φ₀ w₀ φ w → Kept ks a₀ a → HeldOk B φ w D DL → wpAnyE P .any ops Q DL f listed a w := by
  -- what may come up
  have rget : ∀ i, (tROps P N ops (tLooks ops ops.toList) (closeR 0 (tLooks ops ops.toList) []) 0 ops.toList)[i]? = (ops[i]?).map fun o => (⟨tOper P N ops o, bitsOf (tPre o.after.toList), bitsOf (farOf i o.dst (o.looksAt ops) 0 (tLooks ops ops.toList)), mayTake o.op, nthD 0 (closeR 0 (tLooks ops ops.toList) []) (Nat.sub (Nat.pred (tLooks ops ops.toList).length) i)⟩ : ROp) := fun i => by
    rw [tROps_get]; simp
  have gd : ∀ {listed : Array Bool} {i : Nat}, i < listed.size → listed.getD i false = listed.getD i true := fun {listed i} hi => by simp [Array.getD, hi]
  have isRdy : ∀ {L : Nat} {listed : Array Bool} {i : Nat} {o : Oper}, listed.size = ops.size → (∀ i, i < ops.size → listed.getD i true = Nat.testBit L i) → (∀ i, Nat.testBit L i = true → i < ops.size) → ops[i]? = some o → ∀ {r : ROp}, r.pre = bitsOf (tPre o.after.toList) → (isReady r i L = true ↔ i ∈ Region.ready .any ops listed) := by
    intro L listed i o hs hl hL ho r hr
    have hi : i < ops.size := (Array.getElem?_eq_some_iff.1 ho).1
    rw [mem_ready]
    unfold isReady
    rw [hr, Bool.and_eq_true]
    constructor
    · rintro ⟨h1, h2⟩
      refine ⟨by rw [hl i hi]; simpa using h1, o, ho, fun e he hb => ?_⟩
      have h3 := land_sub h2 ((pre_test e.on).2 ⟨e, he, hb, rfl⟩)
      have h4 := hL _ h3
      rw [gd (by omega), hl _ h4]; exact h3
    · rintro ⟨h1, o', ho', h2⟩
      rw [ho] at ho'; injection ho' with ho'; subst ho'
      refine ⟨by rw [← hl i hi, h1]; rfl, ?_⟩
      have : Nat.land (bitsOf (tPre o.after.toList)) L = bitsOf (tPre o.after.toList) := by
        apply Nat.eq_of_testBit_eq
        intro k
        show Nat.testBit (bitsOf (tPre o.after.toList) &&& L) k = _
        rw [Nat.testBit_and]
        cases hk : Nat.testBit (bitsOf (tPre o.after.toList)) k with
        | false => rfl
        | true =>
          obtain ⟨e, he, hb, hek⟩ := (pre_test k).1 hk
          have h3 := h2 e he hb
          rw [hek] at h3
          have h4 : k < listed.size := by
            rcases Nat.lt_or_ge k listed.size with h | h
            · exact h
            · simp [Array.getD, Nat.not_lt.2 h] at h3
          rw [gd h4, hl k (by omega)] at h3
          rw [h3]; rfl
      rw [this]; exact Nat.beq_refl _
  have setL' : ∀ {L : Nat} {listed : Array Bool} {i : Nat}, i < ops.size → listed.size = ops.size → (∀ i, i < ops.size → listed.getD i true = Nat.testBit L i) → (∀ i, Nat.testBit L i = true → i < ops.size) →
      (listed.setIfInBounds i true).size = ops.size ∧ (∀ k, k < ops.size → (listed.setIfInBounds i true).getD k true = Nat.testBit (Nat.lor L (Nat.pow 2 i)) k) ∧ ∀ k, Nat.testBit (Nat.lor L (Nat.pow 2 i)) k = true → k < ops.size := by
    intro L listed i hi hs hl hL
    refine ⟨by simp [hs], fun k hk => ?_, fun k hk => ?_⟩
    · rw [set_bit]
      by_cases h : i = k
      · subst h; simp [Array.getD, hs, hk]
      · rw [getD_set_ne true h, hl k hk]; simp [h]
    · rw [set_bit, Bool.or_eq_true] at hk
      rcases hk with hk | hk
      · exact hL k hk
      · have := of_decide_eq_true hk; omega
  have done : ∀ {L : Nat} {listed : Array Bool}, listed.size = ops.size → (∀ i, i < ops.size → listed.getD i true = Nat.testBit L i) → (∀ i, Nat.testBit L i = true → i < ops.size) → readyOf L 0 (tROps P N ops (tLooks ops ops.toList) (closeR 0 (tLooks ops ops.toList) []) 0 ops.toList) = [] → Region.ready .any ops listed = [] := by
    intro L listed hs hl hL hr
    rw [List.eq_nil_iff_forall_not_mem]
    intro i hi
    obtain ⟨_, o, ho, _⟩ := mem_ready.1 hi
    have hg := rget i
    rw [ho] at hg
    have := readyOf_spec (L := L) (Nat.zero_le i) (by simpa using hg) ((isRdy hs hl hL ho rfl).2 hi)
    rw [hr] at this
    cases this
  have fin : ∀ {L : Nat} {e : T V} {h : Heap} {nx : Nat} {φ : Loc} {a : Act} {w : World}, K ⟨e, h, nx, pr, ks⟩ = some res → nx₀ ≤ nx → RelAt N B G (FR (UD U base ops.size L) nx) φ ⟨e, h, nx, pr, ks⟩ a w → Fwd pr φ₀ w₀ φ w → Kept ks a₀ a → Q .normal a w := fun hK hnx R F hKa =>
    hQ _ _ ⟨_, _, hK, R.less fun x hx => hx.imp .inl id, rfl, rfl, hnx, F, hKa⟩
  intro f
  induction f with
  | zero =>
    intro L D DL listed e h nx φ a w hq hs hl hL hsh hnx R F hKa HH
    simp only [evD, plan] at hq
    split at hq
    · rename_i hp
      split at hp
      · cases hp
      · split at hp
        · rename_i hr
          exact ⟨done hs hl hL hr, fin hq hnx R F hKa⟩
        · cases hp
    · cases hq
  | succ f ih =>
    intro L D DL listed e h nx φ a w hq hs hl hL hsh hnx R F hKa HH
    simp only [evD, plan] at hq
    split at hq
    · rename_i hp
      split at hp
      · cases hp
      · split at hp
        · rename_i hr
          exact wpAnyE_done (done hs hl hL hr) (fin hq hnx R F hKa) _
        · cases hp
    · rename_i i c hp
      split at hp
      · rename_i i' c' hft
        injection hp with h1 h2
        subst h1; subst h2
        rw [forceN_eq] at hq
        obtain ⟨_, r, hr, hrdy, hfar, rfl⟩ := firstTake_spec hft
        rw [Nat.sub_zero, rget] at hr
        obtain ⟨o, ho, rfl⟩ := Option.map_eq_some_iff.1 hr
        have hi : i' < ops.size := (Array.getElem?_eq_some_iff.1 ho).1
        obtain ⟨v, D', E, e', hy, hq', R', hKp, hD', hE⟩ := take_step hq R
        obtain ⟨k1, k2, k3⟩ := setL' hi hs hl hL
        refine wpAnyE_first ho (Region.noSelect_spec hsel) (fun c a w h => absurd h (hQp _ _ _)) f DL listed a w hsh (fun j oj hj hji hun hno => ?_) ((isRdy hs hl hL ho rfl).1 hrdy) hy (fun b _ => rfl) (fun p hp => ?_) ?_
        · have hjn : j < ops.size := (Array.getElem?_eq_some_iff.1 hj).1
          have hbit := land_sup hfar (k := j) (by rw [full_test]; simpa using hjn)
          have hbit : Nat.testBit (bitsOf (farOf i' o.dst (o.looksAt ops) 0 (tLooks ops ops.toList)) ||| L) j = true := hbit
          rw [Nat.testBit_or, ← hl j hjn, hun, Bool.or_false, bitsOf_test, decide_eq_true_iff] at hbit
          obtain ⟨_, dy, ly, p, hg, hc⟩ := farOf_spec _ _ _ _ _ _ hbit
          rw [Nat.sub_zero, tLooks_get] at hg
          have hj' : ops.toList[j]? = some oj := by simpa using hj
          rw [hj'] at hg
          injection hg with hg
          injection hg with hg1 hg2
          injection hg2 with hg2 hg3
          subst hg1; subst hg2; subst hg3
          rcases hc with hc | hc | hc
          · exact absurd hc.symm hji
          · obtain ⟨e, he, hb, hon⟩ := (pre_test i').1 hc
            exact absurd hon (hno e he hb)
          · exact apartB_spec hc
        · obtain ⟨E', w', h1, h2, _⟩ := HH p hp
          rw [h1]; exact h2
        · refine ih _ D' _ _ e' h nx φ _ w hq' k1 k2 k3 (hsh.set ((isRdy hs hl hL ho rfl).1 hrdy)) hnx (R'.less fun x hx => ?_) F (hKa.trans hKp) (fun p hp => ?_)
          · rcases hx with (hx | ⟨h1, h2, h3⟩) | hx
            · exact .inl (.inl hx)
            · refine .inl (.inr ⟨h1, h2, ?_⟩)
              rw [set_bit, Bool.or_eq_false_iff] at h3
              exact h3.1
            · exact .inr hx
          · rcases List.mem_cons.1 hp with rfl | hp
            · exact ⟨E, w, rfl, fun b _ => rfl, hE⟩
            · obtain ⟨E', w', h1, h2, h3⟩ := HH p hp
              exact ⟨E', w', h1, h2, fun b hb => (h3 b hb).imp id fun ⟨y, h4, h5⟩ => ⟨y, hD' _ h4, h5⟩⟩
      · split at hp <;> cases hp
    · rename_i l hp
      split at hp
      · cases hp
      · split at hp
        · cases hp
        · rename_i hnil
          injection hp with hp
          subst hp
          refine ⟨fun h0 => ?_, fun i hi => ?_⟩
          · exfalso
            -- something may come up
            cases hrl : readyOf L 0 (tROps P N ops (tLooks ops ops.toList) (closeR 0 (tLooks ops ops.toList) []) 0 ops.toList) with
            | nil => exact hnil hrl
            | cons p r =>
              have hm : p ∈ readyOf L 0 (tROps P N ops (tLooks ops ops.toList) (closeR 0 (tLooks ops ops.toList) []) 0 ops.toList) := by rw [hrl]; simp
              obtain ⟨_, h1, h2⟩ := readyOf_mem (i := p.1) (r := p.2) hm
              rw [Nat.sub_zero, rget] at h1
              obtain ⟨o, ho, he⟩ := Option.map_eq_some_iff.1 h1
              have := (isRdy hs hl hL ho (r := p.2) (by rw [← he])).1 h2
              rw [h0] at this
              cases this
          · obtain ⟨_, o, ho, _⟩ := mem_ready.1 hi
            have hin : i < ops.size := (Array.getElem?_eq_some_iff.1 ho).1
            have hg := rget i
            rw [ho] at hg
            have hmem := readyOf_spec (L := L) (Nat.zero_le i) (by simpa using hg) ((isRdy hs hl hL ho rfl).2 hi)
            have hq := allR_spec hq _ hmem
            dsimp only at hq
            rw [forceN_eq] at hq
            simp only [evAlt, stillK_eq] at hq
            obtain ⟨k1, k2, k3⟩ := setL' hin hs hl hL
            have hbi : Nat.testBit L i = false := by rw [← hl i hin]; exact (mem_ready.1 hi).1
            refine wpOp_mono ?_ (sound_evG call hcall ho (nm := base + 2 * i) (.inr ⟨by omega, by omega, by rw [show (base + 2 * i - base) / 2 = i from by omega]; exact hbi⟩) (.inr ⟨by omega, by omega, by rw [show (base + 2 * i + 1 - base) / 2 = i from by omega]; exact hbi⟩) (fun x hx => ?_) hq (R.less fun x hx => hx) Q)
            · rintro a' w' ⟨⟨e', h', nx', pr', ks'⟩, φ', hq', R', hp, hks, hnx', F', hK'⟩
              have hks' : ks = ks' := hks.symm
              subst hks'
              simp only [setPr] at hq'
              have hpp : ∀ x, pr x = true → addPr pr (still (nthD 0 (closeR 0 (tLooks ops ops.toList) []) (Nat.sub (Nat.pred (tLooks ops ops.toList).length) i)) D) x = true := fun x hx => addPr_iff.2 (.inl hx)
              have F'' := F'.mono hpp
              obtain ⟨s1, s2⟩ := HH.step (ops := ops) (D' := still (nthD 0 (closeR 0 (tLooks ops ops.toList) []) (Nat.sub (Nat.pred (tLooks ops ops.toList).length) i)) D) (i := i) F' R.inj (fun x b hx => (R.lt x b hx).1) (fun p hp hw y hy => by
                have hb : Nat.testBit (nthD 0 (closeR 0 (tLooks ops ops.toList) []) (Nat.sub (Nat.pred (tLooks ops ops.toList).length) i)) p.1 = false := by
                  rw [Bool.eq_false_iff]
                  intro hc
                  exact hw (pt_spec hin hc)
                have := still_mem hy hb
                exact ⟨this, addPr_iff.2 (.inr ⟨_, this⟩)⟩)
              refine ⟨s1, ?_⟩
              refine ih _ _ _ _ e' h' nx' φ' a' w' hq' k1 k2 k3 (hsh.set hi) (Nat.le_trans hnx hnx') (R'.less fun x hx => ?_) (F.trans F'') (hKa.trans hK') s2
              rcases hx with (hx | ⟨h1, h2, h3⟩) | hx
              · exact .inl ⟨.inl hx, fun e => by have := hUx x hx; omega, fun e => by have := hUx x hx; omega⟩
              · rw [set_bit, Bool.or_eq_false_iff] at h3
                have h4 := of_decide_eq_false h3.2
                exact .inl ⟨.inr ⟨h1, h2, h3.1⟩, fun e => by omega, fun e => by omega⟩
              · exact .inr hx
            · rcases hx with hx | hx
              · have := hUx x hx; omega
              · omega
end
end Go.TM
namespace Go.TM
open Go.RowKit
def Disj (O O' : Nat → Prop) : Prop := ∀ b, O b → O' b → False
def FamR (w : World) (X : Nat → Prop) (k : FC) (xs : List k.D) (v : Value) (O : Nat → Prop) : Prop := ∃ (l : Lc) (Ls : Nat → Lc), l.hd = some v ∧ RowAt w l 1 xs.length (fun j us => ∃ v, us = [v] ∧ k.val (Ls j) v) ∧ (∀ j y, xs[j]? = some y → MemAt w X (Ls j) k y) ∧
  (∀ i j b, i < xs.length → j < xs.length → (Ls i).has b → (Ls j).has b → i = j) ∧ (∀ j b, j < xs.length → (Ls j).has b → ¬ l.has b) ∧ ∀ b, O b ↔ l.has b ∨ ∃ j, j < xs.length ∧ (Ls j).has b
def SR (w : World) (X : Nat → Prop) : (s : Sh) → s.D → List Value → (Nat → Prop) → Prop
  | .v t, x, vs, O => RT w X t x vs ∧ ∀ b, ¬ O b
  | .own e, xs, vs, O => ∃ v l, vs = [v] ∧ l.hd = some v ∧ ArrAt w X l e xs ∧ ∀ b, O b ↔ l.has b
  | .fam k, xs, vs, O => ∃ v, vs = [v] ∧ FamR w X k xs v O
  | .box s, x, vs, O => ∃ (b : Nat) (cs : Array Value) (t : TypeId) (z : Nat × Nat) (us : List Value) (O' : Nat → Prop), vs = [.pointer (some ⟨b, 0, none⟩)] ∧ w.heap[b]? = some (.cells cs t z) ∧ Open cs z ∧ us.length ≤ cs.size ∧ (∀ (i : Nat) (v : Value), us[i]? = some v → cs[i]? = some v) ∧
      SR w X s x us O' ∧ ¬ O' b ∧ ∀ c, O c ↔ c = b ∨ O' c
  | .chan, x, vs, O => ∃ b, vs = [.chan (some b)] ∧ ChanAt w (.blk b) x.1 x.2 ∧ ∀ c, O c ↔ c = b
  | .map m, ds, vs, O => ∃ b mes clock, vs = [.map (some b)] ∧ w.heap[b]? = some (.map mes clock) ∧ MapAt w X m mes clock ds ∧ ∀ c, O c ↔ c = b
  | .iter m, ds, vs, O => ∃ r, vs = [.pointer (some ⟨r, 0, none⟩)] ∧ IterAt w X r m ds none ∧ ∀ c, O c ↔ c = r
  | .unit, _, vs, O => vs = [] ∧ ∀ b, ¬ O b
  | .pair a b, x, vs, O => ∃ (us ws : List Value) (O1 O2 : Nat → Prop), vs = us ++ ws ∧ SR w X a x.1 us O1 ∧ SR w X b x.2 ws O2 ∧ Disj O1 O2 ∧ ∀ c, O c ↔ O1 c ∨ O2 c
section
variable {P : Program} {N : Nat} {B : Nat → Prop} {G : Nat → Nat → Value → Prop} {fr U : Nat → Prop} {φ : Loc} {a : Act} {w : World} {e : T V} {h : Heap} {nx : Nat} {pr ks : Nat → Bool} {R : Type} {res : R}
theorem IterAt.mono {X X' : Nat → Prop} (hx : ∀ b, X' b → X b) {r : Nat} {m : TC} {left : List (Int × m.D)} {last : Option (Int × m.D)} (h : IterAt w X r m left last) : IterAt w X' r m left last := by
  obtain ⟨b, mes, clock, since, seen, c0, h1, h2, h3, h4, h5, h6, h7, h8, h9, h10⟩ := h
  exact ⟨b, mes, clock, since, seen, c0, h1, fun hb => h2 (hx b hb), h3, h4, h5, h6, h7, h8, h9.keep fun _ _ _ h => RT.mono hx h, fun d hd => by
    obtain ⟨g0, e, s', g1, g2, g3, g4⟩ := h10 d hd
    exact ⟨g0, e, s', g1, g2, g3, RT.mono hx g4⟩⟩
theorem SR.mono {X X' : Nat → Prop} (hx : ∀ b, X' b → X b) : ∀ {s : Sh} {x : s.D} {vs : List Value} {O : Nat → Prop}, SR w X s x vs O → SR w X' s x vs O
  | .v t, _, _, _, ⟨h1, h2⟩ => ⟨RT.mono hx h1, h2⟩
  | .own e, _, _, _, ⟨v, l, h1, h2, h3, h4⟩ => ⟨v, l, h1, h2, arr_keep (fun _ _ _ h => RT.mono hx h) (fun _ _ => rfl) h3, h4⟩
  | .fam k, _, _, _, ⟨v, h1, l, Ls, h2, h3, h4, h5⟩ => ⟨v, h1, l, Ls, h2, h3, fun j y hj => mem_keep (fun _ _ _ h => RT.mono hx h) (fun _ _ => rfl) (h4 j y hj), h5⟩
  | .box s, _, _, _, ⟨b, cs, t, z, us, O', h1, h2, h3, h4, h5, h6, h7⟩ => ⟨b, cs, t, z, us, O', h1, h2, h3, h4, h5, h6.mono hx, h7⟩
  | .chan, _, _, _, h => h
  | .map m, _, _, _, ⟨b, mes, clock, h1, h2, h3, h4⟩ => ⟨b, mes, clock, h1, h2, ⟨h3.1.keep fun _ _ _ h => RT.mono hx h, h3.2⟩, h4⟩
  | .iter m, _, _, _, ⟨r, h1, h2, h3⟩ => ⟨r, h1, IterAt.mono hx h2, h3⟩
  | .unit, _, _, _, h => h
  | .pair a b, _, _, _, ⟨us, ws, O1, O2, h1, h2, h3, h4⟩ => ⟨us, ws, O1, O2, h1, h2.mono hx, h3.mono hx, h4⟩
theorem row_one {l : Lc} {sz n : Nat} {Q : Nat → List Value → Prop} (h : RowAt w l sz n Q) {v : Value} (hv : l.hd = some v) : v.oneCell' = true := by
  rcases h with ⟨v', rfl, _, hb⟩ | ⟨b, off, cap, vs, t, z, rfl, _⟩
  · injection hv with hv; subst hv; exact bare_one hb
  · injection hv with hv; subst hv; rfl
theorem SR.one {X : Nat → Prop} : ∀ {s : Sh} {x : s.D} {vs : List Value} {O : Nat → Prop}, SR w X s x vs O → ∀ v ∈ vs, v.oneCell' = true
  | .v t, _, _, _, ⟨h1, h2⟩ => RT.one h1
  | .own e, _, _, _, ⟨v, l, h1, h2, h3, h4⟩ => by subst h1; intro u hu; simp only [List.mem_singleton] at hu; subst hu; exact row_one h3 h2
  | .fam k, _, _, _, ⟨v, h1, l, Ls, h2, h3, h4, h5⟩ => by subst h1; intro u hu; simp only [List.mem_singleton] at hu; subst hu; exact row_one h3 h2
  | .box s, _, _, _, ⟨b, cs, t, z, us, O', h1, _⟩ => by subst h1; intro u hu; simp only [List.mem_singleton] at hu; subst hu; rfl
  | .chan, _, _, _, ⟨b, h1, _⟩ => by subst h1; intro u hu; simp only [List.mem_singleton] at hu; subst hu; rfl
  | .map m, _, _, _, ⟨b, _, _, h1, _⟩ => by subst h1; intro u hu; simp only [List.mem_singleton] at hu; subst hu; rfl
  | .iter m, _, _, _, ⟨b, h1, _⟩ => by subst h1; intro u hu; simp only [List.mem_singleton] at hu; subst hu; rfl
  | .unit, _, _, _, h => by rw [h.1]; simp
  | .pair a b, _, _, _, ⟨us, ws, O1, O2, h1, h2, h3, h4⟩ => by
    subst h1
    intro u hu
    rcases List.mem_append.1 hu with hu | hu
    · exact h2.one u hu
    · exact h3.one u hu
theorem excl_lend (φ : Loc) (ns : List Nat) : Excl (fun b => B b ∨ ∃ n : Nm, n.1 ∈ ns ∧ (φ n).has b) (φ.kill ns) = Excl B φ := by
  funext b
  apply propext
  constructor
  · rintro ((h | ⟨n, _, h⟩) | ⟨n, h⟩)
    · exact .inl h
    · exact .inr ⟨n, h⟩
    · exact .inr ⟨n, (φ.kill_has h).2⟩
  · rintro (h | ⟨n, h⟩)
    · exact .inl (.inl h)
    · by_cases hn : n.1 ∈ ns
      · exact .inl (.inr ⟨n, hn, h⟩)
      · exact .inr ⟨n, by rw [φ.kill_out hn]; exact h⟩
theorem HeapAt.lend (H : HeapAt B G fr φ h w) {ns : List Nat} (hn : OkNs h ns) {h1 : Heap} (hw : Without h ns h1) : HeapAt (fun b => B b ∨ ∃ n : Nm, n.1 ∈ ns ∧ (φ n).has b) G fr (φ.kill ns) h1 w := by
  obtain ⟨_, H'⟩ := H.kill (pr := fun _ => false) (ns := ns) (fun _ _ => rfl) hn hw
  have K : Keeps w (Excl B φ) φ w (Excl (fun b => B b ∨ ∃ n : Nm, n.1 ∈ ns ∧ (φ n).has b) (φ.kill ns)) (φ.kill ns) := by
    rw [excl_lend]
    refine ⟨fun _ _ _ => rfl, Nat.le_refl _, fun b hb => .inl hb, fun n hf => ?_⟩
    by_cases hm : n.1 ∈ ns
    · rcases φ.kill_in hm with hk | ⟨_, h2⟩
      · exact .inr hk
      · exact absurd h2 hf
    · exact .inl (φ.kill_out hm)
  refine { H' with st := fun x k hk => ?_, lt := fun n b hb => ⟨(H'.lt n b hb).1, ?_⟩, ltB := fun b hb => ?_ }
  · rw [hw x] at hk
    split at hk
    · cases hk
    · rename_i hx
      refine K.blk (fun n hu => φ.kill_out ?_) (fun _ _ _ _ => rfl) (H.st x k hk)
      cases k with
      | fam c g xs =>
        rcases hu with rfl | ⟨j, hj, rfl⟩
        · exact hx
        · intro hg
          exact hx (hn g hg x (by rw [hk]; rfl))
      | _ => rw [show n = (x, 0) from hu]; exact hx
  · rintro (h1 | ⟨m, h1, h2⟩)
    · exact (H'.lt n b hb).2 h1
    · have := H.inj n m b (φ.kill_has hb).2 h2
      subst this
      exact (φ.kill_has hb).1 h1
  · rcases hb with hb | ⟨m, _, hb⟩
    · exact H.ltB b hb
    · exact (H.lt m b hb).1
structure Grabbed (pr : Nat → Bool) (B : Nat → Prop) (φ : Loc) (h : Heap) (B1 : Nat → Prop) (φ1 : Loc) (h1 : Heap) (O : Nat → Prop) : Prop where
  sub : ∀ b, B b → B1 b
  own : ∀ b, O b → B1 b ∧ ¬ B b ∧ ∃ n : Nm, (φ n).has b ∧ pr n.1 = false
  old : ∀ n, φ1 n = φ n ∨ (φ1 n = .dead ∧ φ n ≠ .free ∧ pr n.1 = false)
  b1 : ∀ b, B1 b → B b ∨ ∃ n : Nm, (φ n).has b ∧ pr n.1 = false
  hs : ∀ x k, h1.get x = some k → h.get x = some k
theorem Grabbed.refl : Grabbed pr B φ h B φ h fun _ => False := ⟨fun _ h => h, fun _ h => h.elim, fun _ => .inl rfl, fun _ h => .inl h, fun _ _ h => h⟩
theorem Grabbed.alive {B1 : Nat → Prop} {φ1 : Loc} {h1 : Heap} {O : Nat → Prop} (g : Grabbed pr B φ h B1 φ1 h1 O) {n : Nm} {b : Nat} (hb : (φ1 n).has b) : (φ n).has b := by
  rcases g.old n with h | ⟨h, _⟩
  · rw [← h]; exact hb
  · rw [h] at hb; exact hb.elim
theorem Grabbed.trans {B1 B2 : Nat → Prop} {φ1 φ2 : Loc} {h1 h2 : Heap} {O1 O2 : Nat → Prop} (g : Grabbed pr B φ h B1 φ1 h1 O1) (k : Grabbed pr B1 φ1 h1 B2 φ2 h2 O2) : Grabbed pr B φ h B2 φ2 h2 (fun b => O1 b ∨ O2 b) ∧ Disj O1 O2 := by
  refine ⟨⟨fun b hb => k.sub b (g.sub b hb), fun b hb => ?_, fun n => ?_, fun b hb => ?_, fun x c hx => g.hs x c (k.hs x c hx)⟩, fun b h1 h2 => (k.own b h2).2.1 (g.own b h1).1⟩
  · rcases hb with hb | hb
    · obtain ⟨h1, h2, h3⟩ := g.own b hb
      exact ⟨k.sub b h1, h2, h3⟩
    · obtain ⟨h1, h2, n, h3, h4⟩ := k.own b hb
      exact ⟨h1, fun hB => h2 (g.sub b hB), n, g.alive h3, h4⟩
  · rcases k.old n with h1 | ⟨h1, h2, h3⟩
    · rw [h1]; exact g.old n
    · rcases g.old n with h4 | ⟨h4, h5, h6⟩
      · exact .inr ⟨h1, by rw [← h4]; exact h2, h3⟩
      · exact .inr ⟨h1, h5, h6⟩
  · rcases k.b1 b hb with h1 | ⟨n, h1, h2⟩
    · exact g.b1 b h1
    · exact .inr ⟨n, g.alive h1, h2⟩
theorem Grabbed.iff {B1 : Nat → Prop} {φ1 : Loc} {h1 : Heap} {O O' : Nat → Prop} (g : Grabbed pr B φ h B1 φ1 h1 O) (hO : ∀ b, O' b → O b) : Grabbed pr B φ h B1 φ1 h1 O' := { g with own := fun b hb => g.own b (hO b hb) }
theorem Grabbed.excl {B1 : Nat → Prop} {φ1 : Loc} {h1 : Heap} {O : Nat → Prop} (g : Grabbed pr B φ h B1 φ1 h1 O) {b : Nat} (hb : Excl B1 φ1 b) : Excl B φ b := by
  rcases hb with hb | ⟨n, hb⟩
  · rcases g.b1 b hb with h | ⟨n, h, _⟩
    · exact .inl h
    · exact .inr ⟨n, h⟩
  · exact .inr ⟨n, g.alive hb⟩
theorem Grabbed.keeps {B1 : Nat → Prop} {φ1 : Loc} {h1 : Heap} {O : Nat → Prop} (g : Grabbed pr B φ h B1 φ1 h1 O) (w : World) : Keeps w (Excl B φ) φ w (Excl B1 φ1) φ1 :=
  ⟨fun _ _ _ => rfl, Nat.le_refl _, fun b hb => .inl (g.excl hb), fun n _ => (g.old n).imp_right And.left⟩
theorem Grabbed.lw {B1 : Nat → Prop} {φ1 : Loc} {h1 : Heap} {O : Nat → Prop} (g : Grabbed pr B φ h B1 φ1 h1 O) {cs : List V} {vs : List Value} (hl : LW w (Excl B φ) φ cs vs) : LW w (Excl B1 φ1) φ1 cs vs := LW.mono (fun c v h => (g.keeps w).rep h) hl
theorem grabbed_kill (H : HeapAt B G fr φ h w) {ns : List Nat} (hp : ∀ n ∈ ns, pr n = false) {h1 : Heap} (hw : Without h ns h1) : Grabbed pr B φ h B (φ.kill ns) h1 fun _ => False := by
  refine ⟨fun _ h => h, fun _ h => h.elim, fun n => ?_, fun _ h => .inl h, fun x k hx => ?_⟩
  · by_cases hm : n.1 ∈ ns
    · rcases φ.kill_in hm with hk | ⟨hk, h2⟩
      · by_cases hf : φ n = .free
        · exact .inl (by rw [hf]; exact φ.kill_free.2 hf)
        · exact .inr ⟨hk, hf, hp _ hm⟩
      · exact .inl (hk.trans h2.symm)
    · exact .inl (φ.kill_out hm)
  · rw [hw x] at hx
    split at hx
    · cases hx
    · exact hx
theorem grabbed_lend (H : HeapAt B G fr φ h w) {ns : List Nat} (hp : ∀ n ∈ ns, pr n = false) {h1 : Heap} (hw : Without h ns h1) {O : Nat → Prop} (hO : ∀ b, O b → ∃ n : Nm, n.1 ∈ ns ∧ (φ n).has b) : Grabbed pr B φ h (fun b => B b ∨ ∃ n : Nm, n.1 ∈ ns ∧ (φ n).has b) (φ.kill ns) h1 O := by
  have g := grabbed_kill H hp hw
  refine ⟨fun _ h => .inl h, fun b hb => ?_, g.old, fun b hb => ?_, g.hs⟩
  · obtain ⟨n, h1, h2⟩ := hO b hb
    exact ⟨.inr ⟨n, h1, h2⟩, (H.lt n b h2).2, n, h2, hp _ h1⟩
  · rcases hb with hb | ⟨n, h1, h2⟩
    · exact .inl hb
    · exact .inr ⟨n, h2, hp _ h1⟩
def Took (w : World) (G : Nat → Nat → Value → Prop) (fr : Nat → Prop) (pr : Nat → Bool) (B : Nat → Prop) (φ : Loc) (h : Heap) (s : Sh) (x : s.D) (h1 : Heap) (us : List Value) : Prop :=
  ∃ B1 φ1 O, HeapAt B1 G fr φ1 h1 w ∧ SR w (Excl B1 φ1) s x us O ∧ Grabbed pr B φ h B1 φ1 h1 O
theorem grabA_sound {el : TC} {x lo : Nat} {n : Option Nat} {q : List el.D → Heap → Option R} (H : HeapAt B G fr φ h w) (hq : grabA pr h el x lo n q (h.get x) = some res) {v : Value} (hv : ∀ u, (φ (x, 0)).hd = some u → match n with | none => v = u | some n => SubAt el.sz lo n u v) :
    ∃ xs h1, q xs h1 = some res ∧ Took w G fr pr B φ h (.own el) xs h1 [v] := by
  unfold grabA at hq
  split at hq
  · rename_i e' xs hs
    split at hq
    · rename_i xs' hc
      unfold castL at hc
      split at hc
      · rename_i he
        subst he
        injection hc with hc
        subst hc
        have hA : ArrAt w (Excl B φ) (φ (x, 0)) e' xs := H.st x _ hs
        obtain ⟨u0, hu0, _⟩ := row_hd hA
        have hok := okns_top H hs
        have fin : ∀ {l' : Lc} {ys : List e'.D} {h1 : Heap}, (∀ n ∈ [x], pr n = false) → Without h [x] h1 → l'.hd = some v → (∀ b, l'.has b → (φ (x, 0)).has b) → ArrAt w (Excl B φ) l' e' ys → Took w G fr pr B φ h (.own e') ys h1 [v] := fun {l' ys h1} hp hw g1 g2 g3 =>
          ⟨_, _, fun b => l'.has b, H.lend hok hw, ⟨v, l', rfl, g1, by rw [excl_lend]; exact g3, fun b => Iff.rfl⟩, grabbed_lend H hp hw fun b hb => ⟨(x, 0), by simp, g2 b hb⟩⟩
        cases n with
        | none =>
          dsimp only at hq
          obtain ⟨hp, h1, hw, hq⟩ := dropN_spec hq
          exact ⟨_, h1, hq, fin hp hw (l' := φ (x, 0)) (by rw [hu0, hv u0 hu0]) (fun b hb => hb) hA⟩
        | some n =>
          dsimp only at hq
          obtain ⟨hp, h1, hw, hq⟩ := dropN_spec hq
          obtain ⟨l', g1, g2, g3⟩ := sub_row hA hu0 (hv u0 hu0)
          exact ⟨_, h1, hq, fin hp hw g1 g2 g3⟩
      · cases hc
    · cases hq
  · cases hq
theorem took_bare {el : TC} (H : HeapAt B G fr φ h w) {v : Value} (hv : Bare v) : Took w G fr pr B φ h (.own el) [] h [v] :=
  ⟨B, φ, fun _ => False, H, ⟨v, .val v, rfl, rfl, .inl ⟨v, rfl, rfl, hv⟩, fun b => Iff.rfl⟩, Grabbed.refl⟩
theorem grabO_sound {el : TC} {c : V} {q : List el.D → Heap → Option R} (H : HeapAt B G fr φ h w) {v : Value} (hr : Rep w (Excl B φ) φ c v) (hq : grabO pr h el q c = some res) :
    ∃ xs h1, q xs h1 = some res ∧ Took w G fr pr B φ h (.own el) xs h1 [v] := by
  unfold grabO at hq
  split at hq
  · exact ⟨_, _, hq, took_bare H (.inl (rep_raw hr).1)⟩
  · exact ⟨_, _, hq, took_bare H (rep_emp hr)⟩
  · exact grabA_sound H hq (rep_own hr).2.2.2
  · split at hq
    · rename_i hb
      obtain rfl := beq_true hb
      exact grabA_sound (n := some _) H hq (rep_sub hr).2.2.2
    · cases hq
  · cases hq
theorem grabF_sound {k : FC} {c : V} {q : List k.D → Heap → Option R} (H : HeapAt B G fr φ h w) {v : Value} (hr : Rep w (Excl B φ) φ c v) (hq : grabF pr h k q c = some res) :
    ∃ xs h1, q xs h1 = some res ∧ Took w G fr pr B φ h (.fam k) xs h1 [v] := by
  unfold grabF at hq
  split at hq
  · refine ⟨[], _, hq, B, φ, fun _ => False, H, ⟨v, rfl, .val v, fun _ => .dead, rfl, .inl ⟨v, rfl, rfl, .inl (rep_raw hr).1⟩, fun j y hj => (by cases hj), fun i j b hi => (by simp at hi), fun j b hj => (by simp at hj), fun b => ?_⟩, Grabbed.refl⟩
    constructor
    · exact False.elim
    · rintro (h | ⟨j, hj, _⟩)
      · exact h
      · simp at hj
  · rename_i x
    obtain ⟨_, _, _, hv⟩ := rep_own hr
    unfold grabF2 at hq
    split at hq
    · rename_i k' g xs hs
      split at hq
      · rename_i xs' hc
        obtain ⟨he, rfl⟩ := castF_some hc
        subst he
        obtain ⟨hp, h1, hw, hq⟩ := dropN_spec hq
        have hB := H.st x _ hs
        obtain ⟨u0, hu0, _⟩ := row_hd hB.1
        refine ⟨_, h1, hq, _, _, fun b => (φ (x, 0)).has b ∨ ∃ j, j < xs.length ∧ (φ (g, j + 1)).has b, H.lend (okns_fam H hs) hw, ⟨v, rfl, φ (x, 0), fun j => φ (g, j + 1), by rw [hu0]; exact congrArg some (hv u0 hu0).symm, hB.1, fun j y hj => by rw [excl_lend]; exact hB.2 j y hj, fun i j b hi hj h1 h2 => ?_, fun j b hj h1 h2 => ?_, fun b => Iff.rfl⟩, grabbed_lend H hp hw fun b hb => ?_⟩
        · have := H.inj _ _ _ h1 h2; injection this with _ e; omega
        · have := H.inj _ _ _ h1 h2; injection this with _ e; omega
        · rcases hb with hb | ⟨j, _, hb⟩
          · exact ⟨(x, 0), by simp, hb⟩
          · exact ⟨(g, j + 1), by simp, hb⟩
      · cases hq
    · rename_i el xs hs
      split at hq
      · rename_i xs' hc
        obtain ⟨he, rfl⟩ := castF_some hc
        subst he
        obtain ⟨hp, h1, hw, hq⟩ := dropN_spec hq
        have hA : ArrAt w (Excl B φ) (φ (x, 0)) (.sl el) xs := H.st x _ hs
        obtain ⟨u0, hu0, _⟩ := row_hd hA
        have hlen : (xs.map fun x => ((x, 0) : (FC.row el).D)).length = xs.length := by simp
        -- the headers
        have hcell : ∀ j, j < xs.length → ∃ v : Value, RT w (Excl B φ) (.sl el) (xs.getD j []) [v] ∧ ∀ (b off cap : Nat) (vs : Array Value) (t : TypeId) (z : Nat × Nat), φ (x, 0) = .at_ b off xs.length cap → w.heap[b]? = some (.cells vs t z) → vs[off + j * 1]? = some v := fun j hj => by
          rcases hA with ⟨v', _, h3, _⟩ | ⟨b, off, cap, vs, t, z, h2, h3, h4, h5, h6, h7⟩
          · omega
          · obtain ⟨us, g1, g2, g3⟩ := h7 j hj
            have hrt := g1 _ (getD_lt (d := []) hj)
            obtain ⟨hd, cp, q1, q2⟩ := id hrt
            rw [q1] at g3 hrt
            refine ⟨_, hrt, fun b' off' cap' vs' t' z' e1 e2 => ?_⟩
            rw [h2] at e1
            injection e1 with e1 e3 e4 e5
            subst e1; subst e3
            rw [h4] at e2
            injection e2 with e2
            injection e2 with e2
            subst e2
            have := g3 0 _ rfl
            simpa [TC.sz] using this
        let Ls : Nat → Lc := fun j => if hj : j < xs.length then .val (Classical.choose (hcell j hj)) else .dead
        have hLs : ∀ {j : Nat} (hj : j < xs.length), Ls j = .val (Classical.choose (hcell j hj)) := fun {j} hj => dif_pos hj
        have hLn : ∀ {j b : Nat}, (Ls j).has b → False := fun {j b} hh => by
          by_cases hj : j < xs.length
          · rw [hLs hj] at hh; exact hh
          · have : Ls j = .dead := dif_neg hj
            rw [this] at hh; exact hh
        refine ⟨_, h1, hq, _, _, fun b => (φ (x, 0)).has b, H.lend (okns_top H hs) hw, ⟨v, rfl, φ (x, 0), Ls, by rw [hu0]; exact congrArg some (hv u0 hu0).symm, ?_, fun j y hj => ?_, fun i j b hi hj h1 h2 => ?_, fun j b hj h1 h2 => ?_, fun b => ?_⟩, grabbed_lend H hp hw fun b hb => ⟨(x, 0), by simp, hb⟩⟩
        · rw [hlen]
          rcases hA with ⟨v', h2, h3, h4⟩ | ⟨b, off, cap, vs, t, z, h2, h3, h4, h5, h6, h7⟩
          · exact .inl ⟨v', h2, h3, h4⟩
          · refine .inr ⟨b, off, cap, vs, t, z, h2, h3, h4, h5, by simpa [TC.sz] using h6, fun j hj => ?_⟩
            have hs := Classical.choose_spec (hcell j hj)
            refine ⟨[Classical.choose (hcell j hj)], ⟨_, rfl, ?_⟩, rfl, fun c u hu => ?_⟩
            · show (Ls j).hd = _
              rw [hLs hj]; rfl
            · cases c with
              | zero =>
                simp only [List.getElem?_cons_zero, Option.some.injEq] at hu
                subst hu
                exact hs.2 b off cap vs t z h2 h4
              | succ c => simp at hu
        · have hj' : j < xs.length := by have := (List.getElem?_eq_some_iff.1 hj).1; simpa using this
          have hs := Classical.choose_spec (hcell j hj')
          rw [hLs hj']
          have hy : y = (xs.getD j [], 0) := by
            rw [List.getElem?_map, getD_lt (d := []) hj'] at hj
            injection hj with hj
            exact hj.symm
          subst hy
          exact ⟨_, rfl, by rw [excl_lend]; exact hs.1⟩
        · exact (hLn h1).elim
        · exact (hLn h1).elim
        · constructor
          · exact .inl
          · rintro (h | ⟨j, _, h⟩)
            · exact h
            · exact (hLn h).elim
      · cases hq
    · cases hq
  · cases hq
theorem grabS_sound : ∀ {s : Sh} {B : Nat → Prop} {φ : Loc} {h : Heap} {cs : List V} {vs : List Value} {q : s.D → Heap → List V → Option R}, HeapAt B G fr φ h w → LW w (Excl B φ) φ cs vs → grabS pr s h cs q = some res →
    ∃ x h1 rest B1 φ1 us ws O, q x h1 rest = some res ∧ vs = us ++ ws ∧ HeapAt B1 G fr φ1 h1 w ∧ LW w (Excl B1 φ1) φ1 rest ws ∧ SR w (Excl B1 φ1) s x us O ∧ Grabbed pr B φ h B1 φ1 h1 O := by
  intro s
  induction s with
  | v t =>
    intro B φ h cs vs q H hl hq
    simp only [grabS] at hq
    split at hq
    · rename_i p x l ns hg
      obtain ⟨hp0, hq2⟩ := need_some hq
      clear hq
      subst hp0
      obtain ⟨hp, h1, hw, hq⟩ := dropN_spec hq2
      obtain ⟨us, ws, h2, h3, h4, hok⟩ := grabT_sound H hg hl
      obtain ⟨F, H1⟩ := H.kill hp hok hw
      have g := grabbed_kill H hp hw
      exact ⟨x, h1, l, B, _, us, ws, _, hq, h2, H1, g.lw h4, ⟨by rw [excl_kill]; exact h3, fun b h => h⟩, g⟩
    · cases hq
  | own el =>
    intro B φ h cs vs q H hl hq
    cases cs with
    | nil => simp only [grabS] at hq; cases hq
    | cons c cs =>
      simp only [grabS] at hq
      obtain ⟨v, ws, rfl, hr, h1, hl⟩ := hl.uncons
      obtain ⟨xs, h1, hq, B1, φ1, O, H1, hs, g⟩ := grabO_sound H hr hq
      exact ⟨xs, h1, cs, B1, φ1, [v], ws, O, hq, rfl, H1, g.lw hl, hs, g⟩
  | fam k =>
    intro B φ h cs vs q H hl hq
    cases cs with
    | nil => simp only [grabS] at hq; cases hq
    | cons c cs =>
      simp only [grabS] at hq
      obtain ⟨v, ws, rfl, hr, h1, hl⟩ := hl.uncons
      obtain ⟨xs, h1, hq, B1, φ1, O, H1, hs, g⟩ := grabF_sound H hr hq
      exact ⟨xs, h1, cs, B1, φ1, [v], ws, O, hq, rfl, H1, g.lw hl, hs, g⟩
  | box s ih =>
    intro B φ h cs vs q H hl hq
    cases cs with
    | nil => simp only [grabS] at hq; cases hq
    | cons c l =>
    simp only [grabS] at hq
    unfold grabB at hq
    split at hq
    · rename_i x
      split at hq
      · rename_i cs' hs
        obtain ⟨hp, h1, hw, hq⟩ := dropN_spec hq
        obtain ⟨v, ws, rfl, hr, _, hl⟩ := hl.uncons
        obtain ⟨b, us, t, z, hb, hh, hop, hle, hv⟩ := H.st x _ hs
        obtain ⟨_, _, had⟩ := rep_ptr hr
        have hvb := had b hb
        have H1 := H.lend (okns_top H hs) hw
        have g1 := grabbed_lend (O := fun c => c = b) H hp hw (fun c hc => ⟨(x, 0), by simp, by rw [hb, hc]; rfl⟩)
        have hl1 : LW w (Excl B φ) φ cs' (us.toList.take cs'.length) := by
          refine ⟨by simp; omega, fun i c u h3 h4 => ?_⟩
          have hi : i < cs'.length := (List.getElem?_eq_some_iff.1 h3).1
          rw [List.getElem?_take, if_pos hi] at h4
          exact hv i c u h3 (by simpa using h4)
        obtain ⟨y, h2, rest, B2, φ2, us1, ws1, O2, hq, h3, H2, h4, hS, g2⟩ := ih H1 (g1.lw hl1) hq
        split at hq
        · have hws : ws1 = [] := List.eq_nil_of_length_eq_zero h4.1.symm
          subst hws
          rw [List.append_nil] at h3
          obtain ⟨g, hd⟩ := g1.trans g2
          refine ⟨y, h2, l, B2, φ2, [v], ws, _, hq, rfl, H2, g.lw hl, ⟨b, us, t, z, us1, O2, by rw [hvb], hh, hop, by rw [← h3]; simp; omega, fun i u hi => ?_, hS, fun hO => hd b rfl hO, fun c => Iff.rfl⟩, g⟩
          rw [← h3] at hi
          rw [List.getElem?_take] at hi
          split at hi
          · simpa using hi
          · cases hi
        · cases hq
      · cases hq
    · cases hq
  | chan =>
    intro B φ h cs vs q H hl hq
    cases cs with
    | nil => simp only [grabS] at hq; cases hq
    | cons c l =>
    simp only [grabS] at hq
    unfold grabCh at hq
    split at hq
    · rename_i x
      split at hq
      · rename_i cap n hs
        obtain ⟨hp, h1, hw, hq⟩ := dropN_spec hq
        obtain ⟨v, ws, rfl, hr, _, hlr⟩ := hl.uncons
        obtain ⟨b, buf, s0, r0, hb, hh, hn, hle⟩ := (show ChanAt w (φ (x, 0)) cap n from H.st x _ hs)
        have hv : v = .chan (some b) := (rep_chn hr).2.2.2 b hb
        subst hv
        have g := grabbed_lend (O := fun c => c = b) H hp hw (fun c hc => ⟨(x, 0), by simp, by rw [hb, hc]; rfl⟩)
        exact ⟨(cap, n), h1, l, _, _, [_], ws, _, hq, rfl, H.lend (okns_top H hs) hw, g.lw hlr, ⟨b, rfl, ⟨b, buf, s0, r0, rfl, hh, hn, hle⟩, fun c => Iff.rfl⟩, g⟩
      · cases hq
    · cases hq
  | map m =>
    intro B φ h cs vs q H hl hq
    cases cs with
    | nil => simp only [grabS] at hq; cases hq
    | cons c l =>
    simp only [grabS] at hq
    unfold grabMp at hq
    split at hq
    · rename_i x
      split at hq
      · rename_i m' ds0 hs
        split at hq
        · rename_i ds hc
          obtain ⟨he, hdd⟩ := castM_spec hc
          subst he
          have hdd : ds = ds0 := hdd
          subst hdd
          obtain ⟨hp, h1, hw, hq⟩ := dropN_spec hq
          obtain ⟨v, ws, rfl, hr, _, hlr⟩ := hl.uncons
          obtain ⟨b, mes, clock, hb, hh, hM⟩ := (show ∃ b mes clock, φ (x, 0) = .blk b ∧ w.heap[b]? = some (.map mes clock) ∧ MapAt w (Excl B φ) m' mes clock ds from H.st x _ hs)
          have hv : v = .map (some b) := (rep_mp hr).2.2 b hb
          subst hv
          have g := grabbed_lend (O := fun c => c = b) H hp hw (fun c hc => ⟨(x, 0), by simp, by rw [hb, hc]; rfl⟩)
          exact ⟨ds, h1, l, _, _, [_], ws, _, hq, rfl, H.lend (okns_top H hs) hw, g.lw hlr, ⟨b, mes, clock, rfl, hh, ⟨hM.1.keep fun t x vs h => RT.mono (fun b hb => g.excl hb) h, hM.2⟩, fun c => Iff.rfl⟩, g⟩
        · cases hq
      · cases hq
    · cases hq
  | iter m =>
    intro B φ h cs vs q H hl hq
    cases cs with
    | nil => simp only [grabS] at hq; cases hq
    | cons c l =>
    simp only [grabS] at hq
    unfold grabIt at hq
    split at hq
    · rename_i x
      split at hq
      · rename_i m' ds0 last hs
        split at hq
        · rename_i ds hc
          obtain ⟨he, hdd⟩ := castM_spec hc
          subst he
          have hdd : ds = ds0 := hdd
          subst hdd
          obtain ⟨hp, h1, hw, hq⟩ := dropN_spec hq
          obtain ⟨v, ws, rfl, hr, _, hlr⟩ := hl.uncons
          obtain ⟨b, hb, hI⟩ := (show ∃ r, φ (x, 0) = .blk r ∧ IterAt w (Excl B φ) r m' ds last from H.st x _ hs)
          have hv : v = .pointer (some ⟨b, 0, none⟩) := (rep_ptr hr).2.2 b hb
          subst hv
          have g := grabbed_lend (O := fun c => c = b) H hp hw (fun c hc => ⟨(x, 0), by simp, by rw [hb, hc]; rfl⟩)
          refine ⟨ds, h1, l, _, _, [_], ws, _, hq, rfl, H.lend (okns_top H hs) hw, g.lw hlr, ⟨b, rfl, IterAt.mono (fun b hb => g.excl hb) ?_, fun c => Iff.rfl⟩, g⟩
          obtain ⟨bm, mes, clock, since, seen, c0, k1, k2, k3, k4, k5, k6, k7, k8, k9, k10⟩ := hI
          exact ⟨bm, mes, clock, since, seen, c0, k1, k2, k3, k4, k5, k6, k7, k8, k9, fun d hd => by cases hd⟩
        · cases hq
      · cases hq
    · cases hq
  | unit =>
    intro B φ h cs vs q H hl hq
    simp only [grabS] at hq
    exact ⟨(), h, cs, B, φ, [], vs, _, hq, rfl, H, hl, ⟨rfl, fun b h => h⟩, Grabbed.refl⟩
  | pair s1 s2 ih1 ih2 =>
    intro B φ h cs vs q H hl hq
    simp only [grabS] at hq
    obtain ⟨x, h1, r1, B1, φ1, us, ws, O1, hq, h2, H1, hl1, hS1, g1⟩ := ih1 H hl hq
    obtain ⟨y, h2', r2, B2, φ2, us', ws', O2, hq, h3, H2, hl2, hS2, g2⟩ := ih2 H1 hl1 hq
    obtain ⟨g, hd⟩ := g1.trans g2
    exact ⟨(x, y), h2', r2, B2, φ2, us ++ us', ws', _, hq, by rw [h2, h3, List.append_assoc], H2, hl2, ⟨us, us', O1, O2, rfl, hS1.mono (fun b hb => g2.excl hb), hS2, hd, fun c => Iff.rfl⟩, g⟩
end
end Go.TM
