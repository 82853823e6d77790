/- The machine VM, part 8: maps, lengths; all quiet operations together. -/
import Derived.Test.YtbopmdbejfcbcaaGreatV7
set_option linter.unusedVariables false
set_option linter.unusedSectionVars false
set_option linter.unusedSimpArgs false
set_option linter.constructorNameAsVariable false
namespace Go.VM
open Go.RowKit
variable [Val]

section
variable {P : Program} {ty : TypeId} {N : Nat} {B : Nat → Prop} {G : Nat → Nat → Value → Prop} {fr : Nat → Prop} {φ : Loc} {a : Act} {w : World} {e : T V} {h : Heap} {nx : Nat} {pr : List Nat}

/-! keys -/

theorem tKey_spec {t : TypeId} {k : Nat} (h : tKey P t = some k) : tKind P t = some k := by
  unfold tKey at h
  split at h
  · cases h
  · split at h
    · rename_i h'
      rw [h', h]
    · cases h

theorem checkKey_run (em : Bool) (d : Nat) {kt : TypeId} {k : Nat} (h : tKind P kt = some k) (v : Value) (w : World) : (Instr.checkKey em (d + 1) kt v).run P w = .ok () w := by
  unfold Instr.checkKey
  rcases tKind_spec h with ⟨_, j, hj⟩ | ⟨_, hj⟩ | ⟨_, hj⟩ <;> simp only [Sem.run_bind, run_underlying hj, Result.andThen_ok] <;> rfl

theorem beq_bytes {s t : ByteArray} {x y : List Nat} (ha : s.data.toList.map UInt8.toNat = x) (hb : t.data.toList.map UInt8.toNat = y) : eqL x y = (s == t) := by
  rw [eqL_bytes ha hb, beq_toListBytes]

theorem now_spec {X : Nat → Prop} {t : TypeId} {k : Nat} (ht : tKind P t = some k) {x y : V} {u v : Value} (hk : kindOk k x = true) {r : Bool} (he : cellEq x y = some r) (hx : Rep w X φ x u) (hy : Rep w X φ y v) : ∃ d, P.underlying t = some d ∧ Instr.sameNow d u v = some r := by
  unfold cellEq at he
  split at he
  · split at he
    · rename_i hj
      have hj := of_decide_eq_true hj
      subst hj
      injection he with he
      subst he
      obtain rfl := rep_i hx
      obtain rfl := rep_i hy
      rcases tKind_spec ht with ⟨rfl, j', hj⟩ | ⟨rfl, _⟩ | ⟨rfl, _⟩
      · exact ⟨_, hj, by simp [Instr.sameNow, eqI_eq]⟩
      · cases hk
      · cases hk
    · cases he
  · injection he with he
    subst he
    obtain rfl := rep_b hx
    obtain rfl := rep_b hy
    rcases tKind_spec ht with ⟨rfl, j', hj⟩ | ⟨rfl, _⟩ | ⟨rfl, hj⟩
    · cases hk
    · cases hk
    · exact ⟨_, hj, by simp [Instr.sameNow, eqB_eq]⟩
  · injection he with he
    subst he
    obtain ⟨s, rfl, hs⟩ := rep_str hx
    obtain ⟨s', rfl, hs'⟩ := rep_str hy
    rcases tKind_spec ht with ⟨rfl, j', hj⟩ | ⟨rfl, hj⟩ | ⟨rfl, _⟩
    · cases hk
    · exact ⟨_, hj, by simp [Instr.sameNow, beq_bytes hs hs']⟩
    · cases hk
  · cases he

/-- a key, looked for -/
theorem findNow_spec {X : Nat → Prop} {t : TypeId} {k : Nat} (ht : tKind P t = some k) {d : TypeDesc} (hd : P.underlying t = some d) {x : V} {u : Value} (hk : kindOk k x = true) (hx : Rep w X φ x u) : ∀ {es : List (V × V × Nat)} {mes : List MapEntry} {n : Nat} {r : Option (Nat × V)}, es.length = mes.length →
    (∀ (i : Nat) (k v : V) (n : Nat) (e : MapEntry), es[i]? = some (k, v, n) → mes[i]? = some e → Rep w X φ k e.key ∧ Rep w X φ v e.val ∧ e.born = n) → findKey x es n = some r →
    (r = none ∧ Instr.findNow d u mes n = some none) ∨ ∃ i k' c m e', r = some (n + i, c) ∧ es[i]? = some (k', c, m) ∧ mes[i]? = some e' ∧ cellEq x k' = some true ∧ Instr.findNow d u mes n = some (some (n + i, e'.val))
  | [], mes, n, r, hl, hr, h => by
    simp only [findKey, Option.some.injEq] at h
    subst h
    cases mes with
    | nil => exact .inl ⟨rfl, rfl⟩
    | cons => cases hl
  | (k', c, m) :: es, [], n, r, hl, hr, h => by cases hl
  | (k', c, m) :: es, e' :: mes, n, r, hl, hr, h => by
    simp only [findKey] at h
    obtain ⟨h1, h2, h3⟩ := hr 0 k' c m e' rfl rfl
    split at h
    · rename_i hc
      injection h with h
      subst h
      obtain ⟨d', hd', hn⟩ := now_spec ht hk hc hx h1
      rw [hd] at hd'; injection hd' with hd'; subst hd'
      exact .inr ⟨0, k', c, m, e', rfl, rfl, rfl, hc, by simp [Instr.findNow, hn]⟩
    · rename_i hc
      obtain ⟨d', hd', hn⟩ := now_spec ht hk hc hx h1
      rw [hd] at hd'; injection hd' with hd'; subst hd'
      rcases findNow_spec ht hd hk hx (by simpa using hl) (fun i k v m e g1 g2 => hr (i + 1) k v m e (by simpa using g1) (by simpa using g2)) h with ⟨h4, h5⟩ | ⟨i, k'', c', m', e'', h4, h5, h6, h7, h8⟩
      · exact .inl ⟨h4, by simp [Instr.findNow, hn, h5]⟩
      · exact .inr ⟨i + 1, k'', c', m', e'', by rw [h4, show n + 1 + i = n + (i + 1) from by omega], by simpa using h5, by simpa using h6, h7, by simp only [Instr.findNow, hn, h8]; rw [show n + 1 + i = n + (i + 1) from by omega]⟩
    · cases h

theorem find_run {X : Nat → Prop} {t : TypeId} {k : Nat} (ht : tKind P t = some k) {x : V} {u : Value} (hk : kindOk k x = true) (hx : Rep w X φ x u) {es : List (V × V × Nat)} {mes : Array MapEntry} (hm : MapAt w X φ es mes) {r : Option (Nat × V)} (h : findKey x es 0 = some r) :
    (r = none ∧ ∀ w', (Instr.findKey t u mes.toList).run P w' = .ok none w') ∨ ∃ i k' c m e', r = some (i, c) ∧ es[i]? = some (k', c, m) ∧ mes[i]? = some e' ∧ cellEq x k' = some true ∧ ∀ w', (Instr.findKey t u mes.toList).run P w' = .ok (some (i, e'.val)) w' := by
  obtain ⟨d, hd⟩ : ∃ d, P.underlying t = some d := by
    rcases tKind_spec ht with ⟨_, j, hj⟩ | ⟨_, hj⟩ | ⟨_, hj⟩ <;> exact ⟨_, hj⟩
  rcases findNow_spec (mes := mes.toList) ht hd hk hx (by simpa using hm.len) (fun i k v n e g1 g2 => hm.rep i k v n e g1 (by simpa using g2)) h with ⟨h1, h2⟩ | ⟨i, k', c, m, e', h1, h2, h3, h4, h5⟩
  · refine .inl ⟨h1, fun w' => ?_⟩
    unfold Instr.findKey
    simp only [Sem.run_bind, run_underlying hd, Result.andThen_ok, h2]
    rfl
  · rw [Nat.zero_add] at h1 h5
    refine .inr ⟨i, k', c, m, e', h1, h2, by simpa using h3, h4, fun w' => ?_⟩
    unfold Instr.findKey
    simp only [Sem.run_bind, run_underlying hd, Result.andThen_ok, h5]
    rfl

theorem getObj_map {b : Nat} {mes : Array MapEntry} {clock : Nat} {w : World} (h : w.heap[b]? = some (.map mes clock)) : (getObj b).run P w = .ok (.map mes clock) w := by
  show Sem.run P (.getObj b .pure) w = _
  simp only [Sem.run, h]
theorem getObj_it {b : Nat} {m : Option Nat} {c l : Nat} {s : Array Nat} {w : World} (h : w.heap[b]? = some (.mapIter m c s l)) : (getObj b).run P w = .ok (.mapIter m c s l) w := by
  show Sem.run P (.getObj b .pure) w = _
  simp only [Sem.run, h]
theorem setObj_run {b : Nat} {w : World} {o' : Obj} (h : w.heap[b]? = some o') (hc : ∀ cs e z, o' ≠ .cells cs e z) (o : Obj) : (setObj b o).run P w = .ok () { w with heap := w.heap.setIfInBounds b o } := by
  show Sem.run P (.setObj b o (.pure ())) w = _
  cases o' <;> simp only [Sem.run, h]
  exact absurd rfl (hc _ _ _)

theorem rep_pair {X : Nat → Prop} {c d : V} {u v : Value} (h1 : Rep w X φ c u) (h2 : Rep w X φ d v) : Rep w X φ (.tup [c, d]) (.tuple #[u, v]) :=
  .tup [c, d] [u, v] rfl fun i c' v' g1 g2 => by
    match i with
    | 0 => simp at g1 g2; subst g1; subst g2; exact h1
    | 1 => simp at g1 g2; subst g1; subst g2; exact h2
    | i + 2 => simp at g1

theorem lookup_run {t kt el : TypeId} {k : Nat} (ht : P.underlying t = some (.map kt el)) (hkt : tKind P kt = some k) {zs : Value} (hz : ∀ w, (zeroValue el).run P w = .ok zs w) {b : Nat} {mes : Array MapEntry} {clock : Nat} {w : World} (hb : w.heap[b]? = some (.map mes clock)) {u : Value}
    {v : Value} {is : Bool} (hf : ((Instr.findKey kt u mes.toList).run P w = .ok none w ∧ v = zs ∧ is = false) ∨ ∃ i, (Instr.findKey kt u mes.toList).run P w = .ok (some (i, v)) w ∧ is = true) (ok : Bool) :
    (Instr.lookup t (.map (some b)) u ok).run P w = .ok (if ok then .tuple #[v, .bool is] else v) w := by
  have hck : (Instr.checkKey mes.isEmpty 10000 kt u).run P w = .ok () w := checkKey_run _ 9999 hkt _ w
  unfold Instr.lookup
  simp only [Sem.run_bind, run_underlying ht, Result.andThen_ok, getObj_map hb, Sem.run_pure, hck]
  rcases hf with ⟨h1, rfl, rfl⟩ | ⟨i, h1, rfl⟩
  · simp [h1, hz]
  · simp [h1]

section ops
variable {o : Oper} {nm : Nat} {r : Option (Option Nat)} {v : V} {new : Option Blk}

theorem q_look {t kt el : TypeId} {m k : Operand} {ok : Bool} (ho : o.op = .lookup t m k ok) (ht : P.underlying t = some (.map kt el)) {kk : Nat} (hkt : tKey P kt = some kk) {z : V} (hz : tZero1 P el = some z)
    (hy : yLook h kk z ok (VM.opd e (tOpd m)) (VM.opd e (tOpd k)) = some (v, new)) (R : RelAt N B G fr φ ⟨e, h, nx, pr⟩ a w) : Comes P B φ a w o nm (reads (.look kk z (tOpd m) (tOpd k) ok) (VM.opd e (tOpd m))) v new := by
  have hkt := tKey_spec hkt
  obtain ⟨zs, hzr, hzp⟩ : ∃ zs, (∀ w, (zeroValue el).run P w = .ok zs w) ∧ Rep w (Excl B φ) φ z zs := by
    unfold tZero1 at hz
    split at hz
    · rename_i zs hzs
      obtain ⟨i, hi, hiz⟩ := Option.bind_eq_some_iff.1 hzs
      exact ⟨zs, fun w => by simp [zeroValue, typeInfo, hi, hiz], (toV_rep hz).1⟩
    · cases hz
  unfold yLook at hy
  split at hy
  · rename_i y kv hm hk
    unfold yLook1 at hy
    split at hy
    · rename_i es clock hs
      split at hy
      · rename_i hko
        obtain ⟨b, hb, mes, hh, hma⟩ := R.st y _ hs
        obtain ⟨rr, hv, hd, hrr⟩ := rep_mp (R.opd hm)
        obtain rfl := hrr b hb
        rw [hm]
        have key : ∀ (c : V) (u : Value) (is : Bool), Rep w (Excl B φ) φ c u → (∀ w', ((Instr.findKey kt (a.eval k) mes.toList).run P w' = .ok none w' ∧ u = zs ∧ is = false) ∨ ∃ i, (Instr.findKey kt (a.eval k) mes.toList).run P w' = .ok (some (i, u)) w' ∧ is = true) →
            Comes P B φ a w o nm (reads (.look kk z (tOpd m) (tOpd k) ok) (some (.mp y))) (withOk ok c is) none := fun c u is hc hf =>
          ⟨if ok then .tuple #[u, .bool is] else u, fun b' => b' = rr, by cases ok; exact hc; exact rep_pair hc mk_b, fun w' hw => by
              have := lookup_run (P := P) ht hkt hzr ((hw rr rfl).trans hh) (u := a.eval k) (hf w') ok
              simp [execOp, ho, hv, this], fun o' hr b' hb' => by
              subst hb'
              simp only [reads, Option.some.injEq] at hr
              exact .inr ⟨y, hr.symm, hb⟩⟩
        unfold yLook2 at hy
        split at hy
        · rename_i i c hf
          injection hy with hy; injection hy with h1 h2
          subst h1; subst h2
          rcases find_run (P := P) hkt hko (R.opd hk) hma hf with ⟨h3, _⟩ | ⟨i', k', c', n, e', h3, h4, h5, h6, h7⟩
          · cases h3
          · injection h3 with h3; injection h3 with h3 h8
            subst h8
            exact key c e'.val true (hma.rep i' k' c n e' h4 h5).2.1 fun w' => .inr ⟨i', h7 w', rfl⟩
        · rename_i hf
          injection hy with hy; injection hy with h1 h2
          subst h1; subst h2
          rcases find_run (P := P) hkt hko (R.opd hk) hma hf with ⟨h3, h4⟩ | ⟨i', k', c', n, e', h3, h4, h5, h6, h7⟩
          · exact key z zs false hzp fun w' => .inl ⟨h4 w', rfl, rfl⟩
          · cases h3
        · cases hy
      · cases hy
    · cases hy
  · cases hy

theorem len_run {x : Value} {t : TypeId} (n : Nat) (h : (∃ b, x = .string b ∧ n = b.size ∧ P.underlying t = some .string) ∨ ∃ q k e, x = .slice q n k ∧ P.underlying t = some (.slice e)) (w : World) : (Builtin.len_ #[t] ty #[x]).run P w = .ok (goInt n) w := by
  rcases h with ⟨b, rfl, rfl, ht⟩ | ⟨q, k, e, rfl, ht⟩ <;> simp [Builtin.len_, run_underlying ht]

theorem len_map_run {t kt el : TypeId} (ht : P.underlying t = some (.map kt el)) {b : Nat} {mes : Array MapEntry} {clock : Nat} {w : World} (hb : w.heap[b]? = some (.map mes clock)) : (Builtin.len_ #[t] ty #[.map (some b)]).run P w = .ok (goInt mes.size) w := by
  simp [Builtin.len_, run_underlying ht, getObj_map hb]

theorem q_len {x : Operand} {t : TypeId} {c : Call} (hcl : c.callee = .builtin .len) (hca : c.args = #[x]) (hct : c.argTypes = #[t]) (ho : o.op = .call c) {kd : Nat} (ht : (kd = 0 → P.underlying t = some .string) ∧ (kd = 1 → ∃ e, P.underlying t = some (.slice e)) ∧ (kd = 2 → ∃ k e, P.underlying t = some (.map k e)))
    (hy : yLen h kd (VM.opd e (tOpd x)) = some (v, new)) (R : RelAt N B G fr φ ⟨e, h, nx, pr⟩ a w) : Comes P B φ a w o nm (reads (.len kd (tOpd x)) (VM.opd e (COp.addr (.len kd (tOpd x))))) v new := by
  have hrun : ∀ n : Nat, ((∃ b, a.eval x = .string b ∧ n = b.size ∧ P.underlying t = some .string) ∨ ∃ q k e, a.eval x = .slice q n k ∧ P.underlying t = some (.slice e)) → ∀ w', (execOp a.eval o).run P w' = .ok (.value (.int .i64 n)) w' := fun n h w' => by
    simp [execOp, ho, resolve, invoke, builtin, hcl, hca, hct, len_run (P := P) (ty := o.type) n h, goInt]
  have nm' : ∀ {n : Nat}, num n = some (v, new) → v = .raw (.int .i64 (n : Int)) ∧ new = none := fun {n} h => by
    unfold num at h; injection h with h; injection h with h1 h2; exact ⟨h1.symm, h2.symm⟩
  unfold yLen at hy
  split at hy <;> first | (cases hy; done) | skip
  · rename_i sz n g hx
    obtain ⟨rfl, rfl⟩ := nm' hy
    obtain ⟨e', he⟩ := ht.2.1 rfl
    have hF := R.opd hx
    cases hF' : a.eval x with
    | slice ad len cap =>
      rw [hF'] at hF
      cases hF with
      | fro _ _ _ ad cap val hs hxx hlt hc hr h1 hf hn => exact stay (hrun _ (.inr ⟨_, _, _, hF', he⟩)) mk_i
      | froNil _ _ => exact stay (hrun _ (.inr ⟨_, _, _, hF', he⟩)) mk_i
      | froZero _ _ _ _ => exact stay (hrun _ (.inr ⟨_, _, _, hF', he⟩)) mk_i
    | _ => rw [hF'] at hF; cases hF
  · rename_i hx
    obtain ⟨rfl, rfl⟩ := nm' hy
    obtain ⟨e', he⟩ := ht.2.1 rfl
    obtain ⟨ad, c, hv, _⟩ := rep_sl (R.opd hx)
    exact stay (hrun _ (.inr ⟨_, _, _, hv, he⟩)) mk_i
  · rename_i hx
    obtain ⟨rfl, rfl⟩ := nm' hy
    obtain ⟨e', he⟩ := ht.2.1 rfl
    obtain ⟨ad, hv⟩ := rep_emp (R.opd hx)
    exact stay (hrun _ (.inr ⟨_, _, _, hv, he⟩)) mk_i
  · rename_i hx
    obtain ⟨rfl, rfl⟩ := nm' hy
    obtain ⟨e', he⟩ := ht.2.1 rfl
    exact stay (hrun _ (.inr ⟨_, _, _, (rep_raw (R.opd hx)).1, he⟩)) mk_i
  · rename_i t' hx
    obtain ⟨rfl, rfl⟩ := nm' hy
    obtain ⟨s, hv, hs⟩ := rep_str (R.opd hx)
    exact stay (hrun _ (.inl ⟨s, hv, by rw [← hs]; simp, ht.1 rfl⟩)) mk_i
  · rename_i y hx
    unfold yLenM at hy
    split at hy
    · rename_i es clock hs
      obtain ⟨rfl, rfl⟩ := nm' hy
      obtain ⟨k, e', he⟩ := ht.2.2 rfl
      obtain ⟨b, hb, mes, hh, hma⟩ := R.st y _ hs
      obtain ⟨rr, hv, hd, hrr⟩ := rep_mp (R.opd hx)
      obtain rfl := hrr b hb
      refine ⟨.int .i64 (es.length : Int), fun b' => b' = rr, mk_i, fun w' hw => ?_, fun o' hr b' hb' => ?_⟩
      · have := len_map_run (P := P) (ty := o.type) he ((hw rr rfl).trans hh)
        simp [execOp, ho, resolve, invoke, builtin, hcl, hca, hct, hv, this, goInt, hma.len]
      · subst hb'
        simp only [COp.addr, hx, reads, Option.some.injEq] at hr
        exact .inr ⟨y, hr.symm, hb⟩
    · cases hy

theorem find_spec {X : Nat → Prop} {st : Nat} : ∀ {es : List (V × V × Nat)} {mes : List MapEntry} {k c : V} {n : Nat}, es.length = mes.length →
    (∀ (i : Nat) (k v : V) (n : Nat) (e : MapEntry), es[i]? = some (k, v, n) → mes[i]? = some e → Rep w X φ k e.key ∧ Rep w X φ v e.val ∧ e.born = n) → (es.find? fun e => Nat.beq e.2.2 st) = some (k, c, n) →
    ∃ e', mes.find? (fun e => e.born == st) = some e' ∧ Rep w X φ k e'.key ∧ Rep w X φ c e'.val
  | [], mes, k, c, n, hl, hr, h => by cases h
  | (k', c', m) :: es, [], k, c, n, hl, hr, h => by cases hl
  | (k', c', m) :: es, e' :: mes, k, c, n, hl, hr, h => by
    obtain ⟨h1, h2, h3⟩ := hr 0 k' c' m e' rfl rfl
    simp only [List.find?_cons] at h ⊢
    have hb : (e'.born == st) = Nat.beq m st := by rw [h3, Bool.eq_iff_iff, beq_iff_eq]; exact ⟨fun h => by subst h; exact Nat.beq_refl _, Nat.eq_of_beq_eq_true⟩
    rw [hb]
    split at h
    · rename_i hm
      injection h with h
      injection h with h4 h5
      injection h5 with h5 h6
      subst h4; subst h5
      exact ⟨e', rfl, h1, h2⟩
    · rename_i hm
      exact find_spec (by simpa using hl) (fun i k v n e g1 g2 => hr (i + 1) k v n e (by simpa using g1) (by simpa using g2)) h

theorem q_rng {t : TypeId} {x : Operand} (ho : o.op = .range t x) {kt el : TypeId} (ht : P.underlying t = some (.map kt el)) (hy : yRng h nm (VM.opd e (tOpd x)) = some (v, new)) (R : RelAt N B G fr φ ⟨e, h, nx, pr⟩ a w) : Comes P B φ a w o nm r v new := by
  unfold yRng at hy
  split at hy
  · rename_i y hx
    unfold yRng2 at hy
    split at hy
    · rename_i es clock hs
      injection hy with hy; injection hy with h1 h2
      subst h1; subst h2
      obtain ⟨b, hb, mes, hh, hma⟩ := R.st y _ hs
      have hR := R.opd hx
      obtain ⟨rr, hv, hd, hrr⟩ := rep_mp hR
      obtain rfl := hrr b hb
      refine ⟨.pointer (some ⟨w.heap.size, 0, none⟩), w.alloc (.mapIter (some rr) clock #[] clock), w.heap.size, ?_, by simp, fun b h => Below.heap_alloc w _ b h, rfl, rfl, rfl, ⟨Nat.le_refl _, by simp⟩, fun φ' hr hn => ?_, fun φ' _ hn => new_ptr hn⟩
      · simp [execOp, ho, hv, Instr.range, run_underlying ht, getObj_map hh]
      · have h2 := hr _ _ hR
        rw [hv] at h2
        obtain ⟨r2, h3, h4, h5⟩ := rep_mp h2
        injection h3 with h3; injection h3 with h3
        subst h3
        exact ⟨some rr, alloc_at _ _, h4, rr, rfl, fun b hb => h5 b hb⟩
    · cases hy
  · rename_i hx
    injection hy with hy; injection hy with h1 h2
    subst h1; subst h2
    have hv := (rep_raw (R.opd hx)).1
    refine ⟨.pointer (some ⟨w.heap.size, 0, none⟩), w.alloc (.mapIter none 0 #[] 0), w.heap.size, ?_, by simp, fun b h => Below.heap_alloc w _ b h, rfl, rfl, rfl, ⟨Nat.le_refl _, by simp⟩, fun φ' hr hn => ?_, fun φ' _ hn => new_ptr hn⟩
    · simp [execOp, ho, hv, Instr.range, run_underlying ht]
    · exact ⟨none, alloc_at _ _, rfl⟩
  · cases hy

theorem q_ent {x : Operand} (ho : o.op = .entry x) (hy : yEnt h (VM.opd e (tOpd x)) = some (v, new)) (R : RelAt N B G fr φ ⟨e, h, nx, pr⟩ a w) : Comes P B φ a w o nm none v new := by
  unfold yEnt at hy
  split at hy
  · rename_i y hx
    unfold yEnt1 at hy
    split at hy
    · rename_i m since seen last hs
      unfold yEnt2 at hy
      split at hy
      · rename_i n es clock hn hm
        split at hy
        · rename_i hcl
          unfold yEnt3 at hy
          split at hy
          · rename_i k c born hf
            injection hy with hy; injection hy with h1 h2
            subst h1; subst h2
            obtain ⟨b, hb, rr, hh, hd, d, rfl, hdd⟩ := R.st y _ hs
            obtain ⟨b', hb', mes, hh', hma⟩ := R.st m _ hm
            obtain rfl := hdd b' hb'
            obtain ⟨ad, hv, _, _, had⟩ := rep_ptr (R.opd hx)
            obtain rfl := had b hb
            have hcl : clock = last := Nat.eq_of_beq_eq_true hcl
            subst hcl
            obtain ⟨e', he, h1, h2⟩ := find_spec (mes := mes.toList) (by simpa using hma.len) (fun i k v n e g1 g2 => hma.rep i k v n e g1 (by simpa using g2)) hf
            have he : mes.find? (fun e => e.born == n) = some e' := by simpa using he
            have hback : seen.toArray.back? = some n := by simpa using hn
            refine ⟨.tuple #[e'.key, e'.val], fun c => c = b ∨ c = d, rep_pair h1 h2, fun w' hw => ?_, fun o' hr => by cases hr⟩
            have g1 := getObj_it (P := P) ((hw b (.inl rfl)).trans hh)
            have g2 := getObj_map (P := P) ((hw d (.inr rfl)).trans hh')
            simp [execOp, ho, hv, Instr.entry, g1, g2, hn, he]
          · cases hy
        · cases hy
      · cases hy
    · cases hy
  · cases hy

theorem ints_run (R : RelAt N B G fr φ ⟨e, h, nx, pr⟩ a w) : ∀ {xs : List Operand} {cs : List V} {l : List Int}, VM.opds e (tOpds xs) = some cs → ints cs = some l → xs.map a.eval = l.map (Value.int .i64)
  | [], cs, l, h1, h2 => by
    simp only [tOpds, VM.opds, Option.some.injEq] at h1
    subst h1
    simp only [ints, Option.some.injEq] at h2
    subst h2
    rfl
  | x :: xs, cs, l, h1, h2 => by
    simp only [tOpds, VM.opds] at h1
    split at h1
    · rename_i c d hc hd
      injection h1 with h1
      subst h1
      simp only [ints] at h2
      split at h2
      · rename_i n l' hn hl
        injection h2 with h2
        subst h2
        have hcn : c = .raw (.int .i64 n) := by
          unfold i64? at hn
          split at hn
          · injection hn with hn; subst hn; rfl
          · cases hn
        subst hcn
        simp only [List.map_cons, rep_i (R.opd hc), ints_run R hd hl]
      · cases h2
    · cases h1

theorem max_fold (w : World) : ∀ (l : List Int) (n : Int), ((l.map (Value.int .i64)).foldlM Builtin.max2 (Value.int .i64 n)).run P w = .ok (.int .i64 (mostI true n l)) w
  | [], n => rfl
  | m :: l, n => by
    simp only [List.map_cons, List.foldlM_cons, Sem.run_bind, Builtin.max2, Sem.run_pure, Result.andThen_ok, mostI]
    have : (if m > n then m else n) = (match ltI n m with | true => m | false => n) := by
      rw [ltI_eq]
      by_cases h : n < m
      · rw [if_pos h, decide_eq_true h]
      · rw [if_neg h, decide_eq_false h]
    rw [this]
    exact max_fold w l _
theorem min_fold (w : World) : ∀ (l : List Int) (n : Int), ((l.map (Value.int .i64)).foldlM Builtin.min2 (Value.int .i64 n)).run P w = .ok (.int .i64 (mostI false n l)) w
  | [], n => rfl
  | m :: l, n => by
    simp only [List.map_cons, List.foldlM_cons, Sem.run_bind, Builtin.min2, Sem.run_pure, Result.andThen_ok, mostI]
    have : (if m < n then m else n) = (match ltI m n with | true => m | false => n) := by
      rw [ltI_eq]
      by_cases h : m < n
      · rw [if_pos h, decide_eq_true h]
      · rw [if_neg h, decide_eq_false h]
    rw [this]
    exact min_fold w l _

theorem q_most {mx : Bool} {c : Call} {xs : List Operand} (hcl : c.callee = .builtin (if mx then .max else .min)) (hca : c.args.toList = xs) (ho : o.op = .call c) (hy : yMost mx (VM.opds e (tOpds xs)) = some (v, new)) (R : RelAt N B G fr φ ⟨e, h, nx, pr⟩ a w) : Comes P B φ a w o nm r v new := by
  unfold yMost at hy
  split at hy
  · rename_i cs hcs
    split at hy
    · rename_i n l hl
      injection hy with hy; injection hy with h1 h2
      subst h1; subst h2
      have hm := ints_run R hcs hl
      subst hca
      have hm' : (c.args.map a.eval).toList = Value.int .i64 n :: l.map (Value.int .i64) := by simpa using hm
      refine stay (u := .int .i64 (mostI mx n l)) (fun w' => ?_) mk_i
      cases mx
      · have : ∀ (t : Array TypeId) (y : TypeId), (Builtin.min_ t y (c.args.map a.eval)).run P w' = .ok (.int .i64 (mostI false n l)) w' := fun t y => by
          unfold Builtin.min_
          rw [hm']
          exact min_fold w' l n
        simp [execOp, ho, resolve, invoke, builtin, hcl, this]
      · have : ∀ (t : Array TypeId) (y : TypeId), (Builtin.max_ t y (c.args.map a.eval)).run P w' = .ok (.int .i64 (mostI true n l)) w' := fun t y => by
          unfold Builtin.max_
          rw [hm']
          exact max_fold w' l n
        simp [execOp, ho, resolve, invoke, builtin, hcl, this]
    · cases hy
  · cases hy

theorem sameOpd_eq {l c : Operand} (h : sameOpd l c = true) : a.eval l = a.eval c := by
  unfold sameOpd at h
  split at h
  · have := Nat.eq_of_beq_eq_true h; subst this; rfl
  · rw [beq_iff_eq] at h; subst h; rfl
  · cases h

theorem quiet_call {c : Call} (ho : o.op = .call c) {op : COp} (hc : tCall P c = op) (hy : yv e h nm op = some (v, new)) (R : RelAt N B G fr φ ⟨e, h, nx, pr⟩ a w) : Comes P B φ a w o nm (reads op (VM.opd e op.addr)) v new := by
  unfold tCall at hc
  split at hc
  · subst hc; cases hy
  · subst hc; cases hy
  · rename_i b hcl
    split at hc
    · rename_i x t hca hct
      have hca : c.args = #[x] := by apply Array.ext'; simpa using hca
      have hct : c.argTypes = #[t] := by apply Array.ext'; simpa using hct
      split at hc
      · rename_i ht
        subst hc
        exact q_len hcl hca hct ho ⟨fun _ => ht, fun h => (by cases h), fun h => (by cases h)⟩ hy R
      · rename_i ht
        subst hc
        exact q_len hcl hca hct ho ⟨fun h => (by cases h), fun _ => ⟨_, ht⟩, fun h => (by cases h)⟩ hy R
      · rename_i ht
        subst hc
        exact q_len hcl hca hct ho ⟨fun h => (by cases h), fun h => (by cases h), fun _ => ⟨_, _, ht⟩⟩ hy R
      · subst hc; cases hy
    · split at hc
      · split at hc
        · split at hc <;> (subst hc; cases hy)
        · subst hc; cases hy
      · subst hc; cases hy
    · split at hc
      · split at hc <;> (subst hc; cases hy)
      · subst hc; cases hy
    · rename_i x xs t ts hca hct
      split at hc
      · subst hc
        exact q_most (mx := true) (xs := x :: xs) hcl hca ho hy R
      · subst hc; cases hy
    · rename_i x xs t ts hca hct
      split at hc
      · subst hc
        exact q_most (mx := false) (xs := x :: xs) hcl hca ho hy R
      · subst hc; cases hy
    · subst hc; cases hy

/-- All quiet operations. -/
theorem sound_quiet {op : COp} (hc : tOp P o.op = op) (hy : yv e h nm op = some (v, new)) (R : RelAt N B G fr φ ⟨e, h, nx, pr⟩ a w) : Comes P B φ a w o nm (reads op (VM.opd e op.addr)) v new := by
  cases ho : o.op with
  | call c => rw [ho] at hc; exact quiet_call ho hc hy R
  | move x => rw [ho] at hc; simp only [tOp] at hc; subst hc; exact q_mv (.inl ho) hy R
  | assign x => rw [ho] at hc; simp only [tOp] at hc; subst hc; exact q_mv (.inr ho) hy R
  | pick x y z => rw [ho] at hc; simp only [tOp] at hc; subst hc; exact q_pick ho hy R
  | alloc t =>
    rw [ho] at hc; simp only [tOp] at hc
    split at hc
    · rename_i zs hz; subst hc; exact q_alloc ho hz hy
    · subst hc; cases hy
  | box t x =>
    rw [ho] at hc; simp only [tOp] at hc
    split at hc
    · subst hc; exact q_box ho hy R
    · subst hc; cases hy
  | build t ps =>
    rw [ho] at hc; simp only [tOp] at hc
    split at hc
    · rename_i zs fs hz ht
      split at hc
      · rename_i pl hpl
        split at hc
        · rename_i qs hq; subst hc; exact q_build ho hz (.inl ⟨_, _, ht, hpl, rfl⟩) hq hy R
        · subst hc; cases hy
      · subst hc; cases hy
    · rename_i zs n el hz ht
      split at hc
      · rename_i k hk
        split at hc
        · rename_i qs hq; subst hc; exact q_build ho hz (.inr ⟨_, _, _, ht, hk, rfl⟩) hq hy R
        · subst hc; cases hy
      · subst hc; cases hy
    · subst hc; cases hy
  | buildSlice t len ps =>
    rw [ho] at hc; simp only [tOp] at hc
    split at hc
    · rename_i el hel
      split at hc
      · rename_i k zs hk hz
        split at hc
        · rename_i hb
          subst hc
          simp only [Bool.and_eq_true] at hb
          exact q_lit ho (tElem_eq hel) hk hz (Nat.eq_of_beq_eq_true hb.1.1) (Nat.le_of_ble_eq_true hb.1.2) (Nat.le_of_ble_eq_true hb.2) hy R
        · subst hc; cases hy
      · subst hc; cases hy
    · subst hc; cases hy
  | load t x =>
    rw [ho] at hc; simp only [tOp] at hc
    split at hc
    · rename_i g k hg hk; subst hc; exact q_load ho hg hk hy R
    · subst hc; cases hy
  | nilCheck x => rw [ho] at hc; simp only [tOp] at hc; subst hc; exact q_nil ho hy R
  | binOp op t x y t' =>
    rw [ho] at hc; simp only [tOp, tBin] at hc
    split at hc
    · subst hc; exact q_bin ho ⟨fun h => (by cases h), fun h => (by cases h), fun h => (by cases h), fun h => (by cases h)⟩ hy R
    · subst hc; exact q_bin ho ⟨fun h => (by cases h), fun h => (by cases h), fun h => (by cases h), fun h => (by cases h)⟩ hy R
    · rename_i ht; subst hc; exact q_bin ho ⟨fun _ => ht, fun h => (by cases h), fun h => (by cases h), fun h => (by cases h)⟩ hy R
    · rename_i ht; subst hc; exact q_bin ho ⟨fun h => (by cases h), fun _ => ⟨_, ht⟩, fun h => (by cases h), fun h => (by cases h)⟩ hy R
    · rename_i ht; subst hc; exact q_bin ho ⟨fun h => (by cases h), fun h => (by cases h), fun _ => ⟨_, ht⟩, fun h => (by cases h)⟩ hy R
    · rename_i ht; subst hc; exact q_bin ho ⟨fun h => (by cases h), fun h => (by cases h), fun h => (by cases h), fun _ => ⟨_, _, ht⟩⟩ hy R
    · rename_i fs ht
      split at hc
      · rename_i l hm hf; subst hc; exact q_beq ho ht hf hm hy R
      · subst hc; cases hy
    · subst hc; cases hy
  | unOp op t x => rw [ho] at hc; simp only [tOp] at hc; subst hc; exact q_un ho hy R
  | convert t d x =>
    rw [ho] at hc; simp only [tOp] at hc
    split at hc
    · rename_i u k hu hd; subst hc; exact q_conv ho hd ⟨_, hu⟩ hy R
    · split at hc <;> (subst hc; cases hy)
    · split at hc <;> (subst hc; cases hy)
    · subst hc; cases hy
  | makeFunc f x y => rw [ho] at hc; simp only [tOp] at hc; subst hc; exact q_fn ho hy R
  | makeMap t r' =>
    rw [ho] at hc; simp only [tOp] at hc
    split at hc
    · subst hc; exact q_mkmap ho hy
    · subst hc; cases hy
  | makeSlice t l c =>
    rw [ho] at hc; simp only [tOp] at hc
    split at hc
    · rename_i el hel
      split at hc
      · rename_i i zs hi hz
        split at hc
        · rename_i hb
          subst hc
          simp only [Bool.and_eq_true] at hb
          exact q_mksl ho (tElem_eq hel) hi (Nat.le_of_ble_eq_true hb.1.1.1) (Nat.le_of_ble_eq_true hb.1.1.2) hz (Nat.eq_of_beq_eq_true hb.1.2) (sameOpd_eq hb.2) hy R
        · subst hc; cases hy
      · subst hc; cases hy
    · subst hc; cases hy
  | slice t x lo hi mx =>
    rw [ho] at hc; simp only [tOp] at hc
    split at hc
    · rename_i el ht
      split at hc
      · rename_i k hk; subst hc; exact q_slc ho ht hk hy R
      · subst hc; cases hy
    · subst hc; cases hy
  | fieldAddr t x i =>
    rw [ho] at hc; simp only [tOp] at hc
    split at hc
    · rename_i fs ht
      split at hc
      · rename_i f hf
        split at hc
        · rename_i k hk; subst hc; exact q_fad ho ht hf hk hy R
        · subst hc; cases hy
      · subst hc; cases hy
    · subst hc; cases hy
  | field t x i =>
    rw [ho] at hc; simp only [tOp] at hc
    split at hc
    · rename_i fs ht
      split at hc
      · rename_i f hf
        split at hc
        · rename_i g k hg hk; subst hc; exact q_fld ho ht hf hg hk hy R
        · subst hc; cases hy
      · subst hc; cases hy
    · subst hc; cases hy
  | indexAddr t x i =>
    rw [ho] at hc; simp only [tOp] at hc
    split at hc
    · rename_i el ht
      split at hc
      · rename_i k hk; subst hc; exact q_idx ho ht hk hy R
      · subst hc; cases hy
    · subst hc; cases hy
  | index t x i =>
    rw [ho] at hc; simp only [tOp] at hc
    split at hc
    · rename_i ht; subst hc; exact q_six ho ht hy R
    · subst hc; cases hy
  | extract x i => rw [ho] at hc; simp only [tOp] at hc; subst hc; exact q_ext ho hy R
  | lookup t m k ok =>
    rw [ho] at hc; simp only [tOp] at hc
    split at hc
    · rename_i kt el ht
      split at hc
      · rename_i kk z hkk hz; subst hc; exact q_look ho ht hkk hz hy R
      · subst hc; cases hy
    · subst hc; cases hy
  | range t x =>
    rw [ho] at hc; simp only [tOp] at hc
    split at hc
    · rename_i kt el ht; subst hc; exact q_rng ho ht hy R
    · subst hc; cases hy
  | entry x => rw [ho] at hc; simp only [tOp] at hc; subst hc; exact q_ent ho hy R
  | store t a x =>
    rw [ho] at hc; simp only [tOp] at hc
    split at hc <;> (subst hc; cases hy)
  | mapUpdate t m k c =>
    rw [ho] at hc; simp only [tOp] at hc
    split at hc
    · split at hc <;> (subst hc; cases hy)
    · subst hc; cases hy
  | next x b =>
    rw [ho] at hc
    cases b <;> simp only [tOp] at hc <;> (subst hc; cases hy)
  | _ => rw [ho] at hc; simp only [tOp] at hc; subst hc; cases hy

end ops
end
end Go.VM
