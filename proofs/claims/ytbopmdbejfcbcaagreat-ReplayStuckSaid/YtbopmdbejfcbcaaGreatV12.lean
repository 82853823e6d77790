/- The machine VM, part 12: bytes and texts; calls; all operations. -/
import Derived.Test.YtbopmdbejfcbcaaGreatV11
import Derived.Laws.IdiomStrings
set_option linter.unusedVariables false
set_option linter.unusedSectionVars false
set_option linter.unusedSimpArgs false
set_option linter.constructorNameAsVariable false
namespace Go.VM
open Go.RowKit
variable [Val]

/-- What is asked of calls. -/
def CallOk (P : Program) (G : Nat → Nat → Value → Prop) (call : Calling) : Prop := ∀ (g : Nat) (args : List V) (h : Heap) (nx : Nat) (pr : List Nat) (q : V → Heap → Nat → Bool), call g args h nx pr q = true →
  (∃ fn, P.funcs[g]? = some fn ∧ (fn.name == "runtime.NumGoroutine") = false ∧ fn.body.isNone = false) ∧
  ∀ (B : Nat → Prop) (U : Nat → Prop) (φ : Loc) (w : World) (vals : List Value), HeapAt B G (FR U nx) φ h w → (∀ x, U x → x < nx) → args.length = vals.length →
    (∀ (i : Nat) (c : V) (v : Value), args[i]? = some c → vals[i]? = some v → Rep w (Excl B φ) φ c v) →
    Calls P g vals.toArray w fun e w' => ∃ v c φ' h' nx', e = .returned v ∧ q c h' nx' = true ∧ HeapAt B G (FR U nx') φ' h' w' ∧ nx ≤ nx' ∧ Fwd pr φ w φ' w' ∧ Rep w' (Excl B φ') φ' c v

section
variable {P : Program} {ty : TypeId} {N : Nat} {B : Nat → Prop} {G : Nat → Nat → Value → Prop} {fr U : Nat → Prop} {φ : Loc} {a : Act} {w : World} {e : T V} {h : Heap} {nx : Nat} {pr : List Nat}
variable {o : Oper} {nm : Nat} {q : S → Bool}

theorem cellsOf_get : ∀ {l : List Nat} {i : Nat} {c : V}, (cellsOf l)[i]? = some c → ∃ b, l[i]? = some b ∧ c = .raw (.int .u8 (b : Int))
  | [], i, c, h => by cases h
  | b :: l, i, c, h => by
    cases i with
    | zero => simp [cellsOf] at h; exact ⟨b, rfl, h.symm⟩
    | succ i => simp only [cellsOf, List.getElem?_cons_succ] at h ⊢; exact cellsOf_get h
theorem cellsOf_len : ∀ (l : List Nat), (cellsOf l).length = l.length
  | [] => rfl
  | b :: l => by simp [cellsOf, cellsOf_len l]

theorem e_bytes {t d el : TypeId} {x : Operand} (ho : o.op = .convert t d x) (ht : P.underlying t = some .string) (hdt : P.underlying d = some (.slice el)) (hel : P.underlying el = some (.int .u8)) (hU : U nm) (hnx : nm < nx) (hd : ∀ d, o.dst = some d → d < N)
    (hq : evBytes ⟨e, h, nx, pr⟩ nm o.dst q (VM.opd e (tOpd x)) = true) (R : RelAt N B G (FR U nx) φ ⟨e, h, nx, pr⟩ a w) : Does P N B G (fun x => U x ∧ x ≠ nm) pr nx φ w a o q := by
  unfold evBytes at hq
  split at hq
  · rename_i t' hx
    obtain ⟨s, hv, hs⟩ := rep_str (R.opd hx)
    have hlen : t'.length = s.size := by rw [← hs]; simp
    have hge := grownCap_ge w s.size 0 el
    have hsz : (bytesRow s (grownCap w s.size 0 el)).size = grownCap w s.size 0 el := by
      have : s.data.size = s.size := rfl
      simp only [bytesRow, Array.size_append, Array.size_map, Array.size_replicate]
      omega
    refine does_value (u := .slice (some ⟨w.heap.size, 0, none⟩) s.size (grownCap w s.size 0 el)) (w' := w.drew.alloc (.cells (bytesRow s (grownCap w s.size 0 el)) el ((bytesRow s (grownCap w s.size 0 el)).size, (bytesRow s (grownCap w s.size 0 el)).size + 1))) ?_
      (out_new R hU hnx (w' := w.drew.alloc (.cells (bytesRow s (grownCap w s.size 0 el)) el ((bytesRow s (grownCap w s.size 0 el)).size, (bytesRow s (grownCap w s.size 0 el)).size + 1))) (n := w.heap.size) (by simp) (fun b hb => Below.heap_alloc w.drew _ b hb) rfl rfl rfl ⟨Nat.le_refl _, by simp⟩ (fun φ' hr hφ => ?_) (fun φ' hr hφ => ?_) hd hq)
    · have := run_bytes_of_string (P := P) w t d el s ht hdt hel
      simp [execOp, ho, hv, this]
    · refine ⟨_, _, _, drew_alloc_at _ _, fun i hi => by omega, by rw [cellsOf_len, hsz]; omega, fun i c v h1 h2 => ?_⟩
      obtain ⟨b, hb, rfl⟩ := cellsOf_get h1
      rw [← hs] at hb
      simp only [List.getElem?_map] at hb
      obtain ⟨u, hu, rfl⟩ := Option.map_eq_some_iff.1 hb
      have hi : i < s.data.size := by have := (List.getElem?_eq_some_iff.1 hu).1; simpa using this
      unfold bytesRow at h2
      rw [Array.getElem?_append_left (by simpa using hi)] at h2
      simp only [Array.getElem?_map] at h2
      have hu' : s.data[i]? = some u := by simpa using hu
      rw [hu'] at h2
      injection h2 with h2
      subst h2
      exact ⟨mk_i, rfl⟩
    · rw [hlen]
      refine .sl _ _ _ _ _ _ _ rfl (by rw [hφ]; simp) fun b hb => ?_
      rw [hφ] at hb; injection hb with hb; injection hb with hb; subst hb
      exact ⟨fun _ => rfl, hge, _, _, _, drew_alloc_at _ _, by rw [hsz]; omega, by dsimp only; rw [hsz]; omega⟩
  · cases hq

theorem bytesOf_spec {X : Nat → Prop} : ∀ {cs : List V} {vs : List Value} {t : List Nat}, bytesOf cs = some t → LW w X φ cs vs → ∃ l : List UInt8, l.map UInt8.toNat = t ∧ vs = l.map fun b => Value.int .u8 (b.toNat : Int)
  | [], vs, t, h, hl => by
    simp only [bytesOf, Option.some.injEq] at h
    subst h
    exact ⟨[], rfl, List.eq_nil_of_length_eq_zero hl.1.symm⟩
  | c :: cs, [], t, h, hl => by cases hl.1
  | c :: cs, v :: vs, t, h, hl => by
    unfold bytesOf at h
    split at h
    · rename_i heq; cases heq
    · rename_i n r heq
      injection heq with h1 h2
      subst h1; subst h2
      split at h
      · rename_i l hn hl'
        injection h with h
        subst h
        have hn : n < 256 := Nat.le_of_ble_eq_true hn
        obtain ⟨l', h3, h4⟩ := bytesOf_spec (vs := vs) hl' ⟨by have := hl.1; simpa using this, fun i c v g1 g2 => hl.2 (i + 1) c v (by simpa using g1) (by simpa using g2)⟩
        have hv := rep_i (hl.2 0 _ v rfl rfl).1
        have hto : (UInt8.ofNat n).toNat = n := by simp [UInt8.toNat_ofNat]; omega
        exact ⟨UInt8.ofNat n :: l', by simp only [List.map_cons, h3, hto], by simp only [List.map_cons, hto, h4, hv]; rfl⟩
      · cases h
    · cases h

theorem e_text {t d el : TypeId} {x : Operand} (ho : o.op = .convert t d x) (ht : P.underlying t = some (.slice el)) (hdt : P.underlying d = some .string) (hel : P.underlying el = some (.int .u8)) (hd : ∀ d, o.dst = some d → d < N)
    (hq : evText ⟨e, h, nx, pr⟩ nm o.dst q (elemsO h 1 (VM.opd e (tOpd x))) = true) (R : RelAt N B G (FR U nx) φ ⟨e, h, nx, pr⟩ a w) : Does P N B G (fun x => U x ∧ x ≠ nm) pr nx φ w a o q := by
  unfold evText at hq
  split at hq
  · rename_i m cs hy
    cases hxo : VM.opd e (tOpd x) with
    | none => rw [hxo] at hy; cases hy
    | some cx =>
    rw [hxo] at hy
    obtain ⟨news, hS, hn⟩ := elems_spec (P := P) R ht (by omega) hy (R.opd hxo)
    unfold evText2 at hq
    split at hq
    · rename_i t' ht'
      obtain ⟨l, hl, hvs⟩ := bytesOf_spec ht' hn
      have hm : l.length = m := by have := hS.newsLen; rw [hvs] at this; simpa using this
      have hrep : Rep w (Excl B φ) φ (.str t') (.string ⟨l.toArray⟩) := .str _ _ (by simpa using hl)
      refine does_value (u := .string ⟨l.toArray⟩) (w' := w) ?_ ((out_same R hrep hd hq).less fun x hx => hx.1)
      have hconv : (convert t d (a.eval x)).run P w = .ok (.string ⟨l.toArray⟩) w := by
        have hlen := hS.len w
        have hcells := hS.cells
        cases hv : a.eval x with
        | slice ad n c =>
          rw [hv] at hlen hcells
          have hnm : n = m := by
            simp only [Builtin.lenOf, Sem.run_pure] at hlen
            injection hlen
          subst hnm
          rw [run_convert_bytes_string w t d el ad n c ht hel hdt]
          cases ad with
          | none =>
            have hr := R.opd hxo
            simp only [Builtin.firstCells, Sem.run_pure] at hcells
            injection hcells with hcells
            have : news = [] := by simpa using congrArg Array.toList hcells.symm
            rw [this] at hvs
            have : l = [] := by simpa using hvs.symm
            subst this
            simp [Conv.bytesToString]
            rfl
          | some ad =>
            have hlc : (loadCells ad n).run P w = .ok ((l.map fun b => (b.toNat : Int)).map (Value.int .u8)).toArray w := by
              simp only [Builtin.firstCells, Nat.mul_one] at hcells
              rw [hcells, hvs, List.map_map]
              rfl
            rw [run_bytesToString w ad n c _ hlc, foldl_push_byteCells]
            congr 2
            show (ByteArray.mk _) = _
            simp
        | string s =>
          exfalso
          have hr := R.opd hxo
          rw [hv] at hr
          cases hr <;> first | (cases hy; done) | (simp [elems] at hy; done)
        | _ => rw [hv] at hlen; simp [Builtin.lenOf] at hlen
      simp [execOp, ho, hconv]
    · cases hq
  · cases hq

theorem e_call (call : Calling) (hcall : CallOk P G call) {c : Call} {f : Operand} (hcl : c.callee = .value f) (ho : o.op = .call c) (hU : ∀ x, U x → x < nx) (hd : ∀ d, o.dst = some d → d < N)
    (hq : evCall call ⟨e, h, nx, pr⟩ nm o.dst q (VM.opd e (tOpd f)) (VM.opds e (tOpds c.args.toList)) = true) (R : RelAt N B G (FR U nx) φ ⟨e, h, nx, pr⟩ a w) : Does P N B G U pr nx φ w a o q := by
  unfold evCall at hq
  split at hq
  · rename_i g first cap cs hff hxs
    obtain ⟨⟨fn, hfn, hname, hbody⟩, hC⟩ := hcall _ _ _ _ _ _ hq
    obtain ⟨vs, us, hfv, hl1, hl2, hv1, hv2⟩ := rep_fn (R.opd hff)
    obtain ⟨hxl, hxr⟩ := R.opds hxs
    have hrun : (execOp a.eval o).run P w = .ok (.enter g (vs ++ c.args.toList.map a.eval ++ us).toArray) w := by
      have e1 : (vs ++ c.args.toList.map a.eval ++ us).toArray = vs.toArray ++ c.args.map a.eval ++ us.toArray := by
        apply Array.ext'; simp
      simp only [execOp, ho, resolve, hcl, hfv, Deferred.ofValue, Sem.run_bind, Sem.run_pure, Result.andThen_ok, invoke, callFunc, run_program, hfn, hname, hbody]
      rw [e1]
      simp
    have hall : ∀ (i : Nat) (c' : V) (v : Value), (first ++ cs ++ cap)[i]? = some c' → (vs ++ c.args.toList.map a.eval ++ us)[i]? = some v → Rep w (Excl B φ) φ c' v := by
      have app : ∀ {p q : List V} {x y : List Value}, p.length = x.length → (∀ (i : Nat) (c : V) (v : Value), p[i]? = some c → x[i]? = some v → Rep w (Excl B φ) φ c v) → (∀ (i : Nat) (c : V) (v : Value), q[i]? = some c → y[i]? = some v → Rep w (Excl B φ) φ c v) →
          ∀ (i : Nat) (c : V) (v : Value), (p ++ q)[i]? = some c → (x ++ y)[i]? = some v → Rep w (Excl B φ) φ c v := by
        intro p q x y hl h1 h2 i c v h3 h4
        by_cases hi : i < p.length
        · rw [List.getElem?_append_left hi] at h3
          rw [List.getElem?_append_left (by omega)] at h4
          exact h1 i c v h3 h4
        · rw [List.getElem?_append_right (by omega)] at h3
          rw [List.getElem?_append_right (by omega)] at h4
          rw [hl] at h3
          exact h2 _ c v h3 h4
      exact app (by simp [hl1, hxl]) (app hl1 hv1 hxr) hv2
    have hlen : (first ++ cs ++ cap).length = (vs ++ c.args.toList.map a.eval ++ us).length := by simp [hl1, hl2, hxl]
    intro Q
    unfold Oper.wp
    rw [hrun]
    refine (hC B U φ w _ R.toHeapAt hU hlen hall).mono ?_
    rintro e' w' ⟨v, c', φ', h', nx', rfl, hq', H, hle, F, hrep⟩
    have R' : RelAt N B G (FR U nx') φ' ⟨e, h', nx', pr⟩ a w' := R.step F H
    exact ((show After N B G U pr nx' φ' w' q (a.put o.dst v) w' from out_same R' hrep hd hq') |> fun ⟨s', φ'', k1, k2, k3, k4, k5⟩ => ⟨s', φ'', k1, k2, k3, Nat.le_trans hle k4, F.trans k5⟩)
  · cases hq

/-! all operations -/

theorem evOp_quiet {call : Calling} {s : S} {dst : Option Nat} {op : COp} (he : op.eff = false) : evOp call s nm dst q op = evQuiet s nm dst q (yv s.env s.h nm op) := by
  cases op <;> first | rfl | cases he

theorem does_quiet {op : COp} (hc : tOp P o.op = op) (hU : U nm) (hnx : nm < nx) (hd : ∀ d, o.dst = some d → d < N) (hq : evQuiet ⟨e, h, nx, pr⟩ nm o.dst q (yv e h nm op) = true) (R : RelAt N B G (FR U nx) φ ⟨e, h, nx, pr⟩ a w) : Does P N B G (fun x => U x ∧ x ≠ nm) pr nx φ w a o q := by
  unfold evQuiet at hq
  split at hq
  · rename_i v new hy
    have hC := sound_quiet hc hy R
    cases new with
    | none =>
      obtain ⟨u, D, hr, hx, _⟩ := hC
      exact does_value (hx w fun _ _ => rfl) ((out_same R hr hd hq).less fun x hx => hx.1)
    | some k =>
      obtain ⟨u, w', n, hx, h1, h2, h3, h4, h5, h6, h7, h8⟩ := hC
      exact does_value hx (out_new R hU hnx h1 h2 h3 h4 h5 h6 h7 h8 hd hq)
  · cases hq

theorem tOp_eff {op : Op} (h : (tOp P op).eff = true) : (∃ t a x, op = .store t a x) ∨ (∃ t m k v, op = .mapUpdate t m k v) ∨ (∃ x, op = .next x false) ∨ (∃ t d x, op = .convert t d x) ∨ ∃ c, op = .call c := by
  cases op with
  | store t a x => exact .inl ⟨_, _, _, rfl⟩
  | mapUpdate t m k v => exact .inr (.inl ⟨_, _, _, _, rfl⟩)
  | next x b => cases b; exact .inr (.inr (.inl ⟨_, rfl⟩)); cases h
  | convert t d x => exact .inr (.inr (.inr (.inl ⟨_, _, _, rfl⟩)))
  | call c => exact .inr (.inr (.inr (.inr ⟨_, rfl⟩)))
  | _ =>
    exfalso
    simp only [tOp, tBin] at h
    revert h
    repeat' split
    all_goals (intro h; cases h)

theorem sound_op (call : Calling) (hcall : CallOk P G call) {op : COp} (hc : tOp P o.op = op) (hU : U nm) (hUx : ∀ x, U x → x < nx) (hd : ∀ d, o.dst = some d → d < N) (hq : evOp call ⟨e, h, nx, pr⟩ nm o.dst q op = true) (R : RelAt N B G (FR U nx) φ ⟨e, h, nx, pr⟩ a w) :
    Does P N B G (fun x => U x ∧ x ≠ nm) pr nx φ w a o q := by
  have less : Does P N B G U pr nx φ w a o q → Does P N B G (fun x => U x ∧ x ≠ nm) pr nx φ w a o q := fun hD Q => Oper.wp_mono (fun _ _ hA => hA.less fun x hx => hx.1) (hD Q)
  cases he : op.eff with
  | false =>
    rw [evOp_quiet he] at hq
    exact does_quiet hc hU (hUx _ hU) hd hq R
  | true =>
    rcases tOp_eff (by rw [hc]; exact he) with ⟨t, x, y, ho⟩ | ⟨t, m, k, v, ho⟩ | ⟨x, ho⟩ | ⟨t, d, x, ho⟩ | ⟨c, ho⟩
    · rw [ho] at hc; simp only [tOp] at hc
      split at hc
      · rename_i k hk; subst hc; exact less (e_store ho hk hd hq R)
      · subst hc; cases he
    · rw [ho] at hc; simp only [tOp] at hc
      split at hc
      · rename_i kt el ht
        split at hc
        · rename_i kk hkk; subst hc; exact less (e_mup ho ht hkk hd hq R)
        · subst hc; cases he
      · subst hc; cases he
    · rw [ho] at hc; simp only [tOp] at hc
      subst hc
      exact less (e_nxt ho hd hq R)
    · rw [ho] at hc; simp only [tOp] at hc
      split at hc
      · subst hc; cases he
      · rename_i el ht hdt
        split at hc
        · rename_i hel; subst hc; exact e_bytes ho ht hdt hel hU (hUx _ hU) hd hq R
        · subst hc; cases he
      · rename_i el ht hdt
        split at hc
        · rename_i hel; subst hc; exact e_text ho ht hdt hel hd hq R
        · subst hc; cases he
      · subst hc; cases he
    · rw [ho] at hc; simp only [tOp, tCall] at hc
      split at hc
      · rename_i f hcl
        subst hc
        exact less (e_call call hcall hcl ho hUx hd hq R)
      · subst hc; cases he
      · rename_i b hcl
        split at hc
        · split at hc <;> (subst hc; cases he)
        · rename_i x y t t' hca hct
          have hca : c.args = #[x, y] := by apply Array.ext'; simpa using hca
          have hct : c.argTypes = #[t, t'] := by apply Array.ext'; simpa using hct
          split at hc
          · rename_i el hel
            split at hc
            · rename_i i hi htt
              have htt := Nat.eq_of_beq_eq_true htt
              subst htt
              split at hc
              · rename_i hb
                subst hc
                simp only [Bool.and_eq_true, beq_iff_eq] at hb
                obtain ⟨z, hz, hzs⟩ := Option.map_eq_some_iff.1 hb.2
                exact e_app hcl hca hct ho (tElem_eq hel) hi hz hzs (Nat.le_of_ble_eq_true hb.1.1) (Nat.le_of_ble_eq_true hb.1.2) hU (hUx _ hU) hd hq R
              · subst hc; cases he
            · subst hc; cases he
          · subst hc; cases he
        · rename_i m k t t' hca hct
          have hca : c.args = #[m, k] := by apply Array.ext'; simpa using hca
          have hct : c.argTypes = #[t, t'] := by apply Array.ext'; simpa using hct
          split at hc
          · rename_i kt el ht
            split at hc
            · rename_i kk hkk; subst hc; exact less (e_del hcl hca hct ho ht hkk hd hq R)
            · subst hc; cases he
          · subst hc; cases he
        · split at hc <;> (subst hc; cases he)
        · split at hc <;> (subst hc; cases he)
        · subst hc; cases he

end
end Go.VM
