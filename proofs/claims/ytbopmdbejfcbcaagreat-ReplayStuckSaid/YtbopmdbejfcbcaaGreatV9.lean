/- The machine VM, part 9: stores; maps that are written; steps of iterators. -/
import Derived.Test.YtbopmdbejfcbcaaGreatV8
import Derived.Laws.IdiomCopy
set_option linter.unusedVariables false
set_option linter.unusedSectionVars false
set_option linter.unusedSimpArgs false
set_option linter.constructorNameAsVariable false
namespace Go.VM
open Go.RowKit
variable [Val]

/-- cells set one by one -/
def setL (cur : Array Value) (o : Nat) : List Value → Array Value
  | [] => cur
  | v :: r => setL (cur.setIfInBounds o v) (o + 1) r

theorem setL_size : ∀ (vs : List Value) (cur : Array Value) (o : Nat), (setL cur o vs).size = cur.size
  | [], cur, o => rfl
  | v :: r, cur, o => by simp [setL, setL_size r]
theorem setL_get : ∀ (vs : List Value) (cur : Array Value) (o i : Nat), o + vs.length ≤ cur.size → (setL cur o vs)[i]? = if o ≤ i ∧ i < o + vs.length then vs[i - o]? else cur[i]?
  | [], cur, o, i, h => by simp only [setL, List.length_nil]; rw [if_neg (by omega)]
  | v :: vs, cur, o, i, h => by
    simp only [List.length_cons] at h
    simp only [setL]
    rw [setL_get vs _ (o + 1) i (by simp; omega)]
    by_cases hi : i = o
    · subst hi
      rw [if_neg (by omega), if_pos ⟨by omega, by simp⟩]
      simp [show i < cur.size by omega]
    · by_cases h2 : o + 1 ≤ i ∧ i < o + 1 + vs.length
      · rw [if_pos h2, if_pos ⟨by omega, by simp; omega⟩, show i - o = (i - (o + 1)) + 1 from by omega]
        simp
      · rw [if_neg h2, if_neg (by simp; omega), Array.getElem?_setIfInBounds_ne (by omega)]

theorem putCells_get : ∀ (ds cs : List V) (off i : Nat), off + ds.length ≤ cs.length → (putCells cs off ds)[i]? = if off ≤ i ∧ i < off + ds.length then ds[i - off]? else cs[i]?
  | [], cs, off, i, h => by simp only [putCells, List.length_nil]; rw [if_neg (by omega)]
  | d :: ds, cs, off, i, h => by
    simp only [List.length_cons] at h
    simp only [putCells]
    rw [putCells_get ds (cs.set off d) (off + 1) i (by simp; omega)]
    by_cases hi : i = off
    · subst hi
      rw [if_neg (by omega), if_pos ⟨by omega, by simp⟩]
      simp [show i < cs.length by omega]
    · by_cases h2 : off + 1 ≤ i ∧ i < off + 1 + ds.length
      · rw [if_pos h2, if_pos ⟨by omega, by simp; omega⟩, show i - off = (i - (off + 1)) + 1 from by omega]
        simp
      · rw [if_neg h2, if_neg (by simp; omega), List.getElem?_set_ne (by omega)]
theorem putCells_len : ∀ (ds cs : List V) (off : Nat), (putCells cs off ds).length = cs.length
  | [], cs, off => rfl
  | d :: ds, cs, off => by simp [putCells, putCells_len ds]

theorem setCells_spec {b : Nat} {t : TypeId} {z : Nat × Nat} : ∀ (vs : List Value) (o : Nat) (w : World) (cur : Array Value), w.heap[b]? = some (.cells cur t z) →
    (w.setCells b o vs).heap.size = w.heap.size ∧ (∀ c, c ≠ b → (w.setCells b o vs).heap[c]? = w.heap[c]?) ∧ (w.setCells b o vs).os = w.os ∧ (w.setCells b o vs).tape = w.tape ∧ (w.setCells b o vs).output = w.output ∧ (w.setCells b o vs).heap[b]? = some (.cells (setL cur o vs) t z)
  | [], o, w, cur, h => ⟨rfl, fun _ _ => rfl, rfl, rfl, rfl, h⟩
  | v :: r, o, w, cur, h => by
    simp only [World.setCells, setL]
    rw [setCell_eq_setRow w b o cur t z v h]
    obtain ⟨h1, h2, h3, h4, h5, h6⟩ := setCells_spec r (o + 1) (w.setRow b (cur.setIfInBounds o v)) _ (setRow_heap w b cur _ t z h)
    exact ⟨h1.trans (by simp), fun c hc => (h2 c hc).trans (setRow_other w b c _ hc), h3, h4, h5, h6⟩

section
variable {P : Program} {ty : TypeId} {N : Nat} {B : Nat → Prop} {G : Nat → Nat → Value → Prop} {fr U : Nat → Prop} {φ : Loc} {a : Act} {w : World} {e : T V} {h : Heap} {nx : Nat} {pr : List Nat}

theorem cells_pw {X : Nat → Prop} {c : V} {v : Value} (h : Rep w X φ c v) (ho : allOne c.cells = true) : c.cells.length = v.cells.toList.length ∧ (∀ u ∈ v.cells.toList, u.oneCell' = true) ∧ ∀ (i : Nat) (d : V) (u : Value), c.cells[i]? = some d → v.cells.toList[i]? = some u → Rep w X φ d u ∧ u.oneCell' = true := by
  obtain ⟨h1, h2⟩ := rep_cells h ho
  refine ⟨by simpa using h1, fun u hu => ?_, fun i d u hd hu => h2 i d u hd (by simpa using hu)⟩
  obtain ⟨i, hi⟩ := List.mem_iff_getElem?.1 hu
  have hlt : i < c.cells.length := by rw [h1]; have := (List.getElem?_eq_some_iff.1 hi).1; simpa using this
  exact (h2 i c.cells[i] u (by simp [hlt]) (by simpa using hi)).2

/-- Cells of a block are written. -/
theorem HeapAt.cells (R : HeapAt B G fr φ h w) {x b : Nat} (hx : φ x = some (some b)) (hpr : x ∉ pr) {cs ds : List V} (hs : h.get x = some (.cells cs)) {off : Nat} {us : List Value} (hl : ds.length = us.length) (ho : off + ds.length ≤ cs.length) (h1 : ∀ u ∈ us, u.oneCell' = true)
    (hr : ∀ (i : Nat) (d : V) (u : Value), ds[i]? = some d → us[i]? = some u → Rep w (Excl B φ) φ d u ∧ u.oneCell' = true) {h' : Heap} (hp : Put h x (some (.cells (putCells cs off ds))) h') :
    Fwd pr φ w φ (w.setCells b off us) ∧ HeapAt B G fr φ h' (w.setCells b off us) ∧ (storeCells ⟨b, off, none⟩ us).run P w = .ok () (w.setCells b off us) := by
  obtain ⟨b', hb', vs, t, z, hh, hz, hle, hv⟩ := R.st x _ hs
  rw [hx] at hb'; injection hb' with hb'; injection hb' with hb'; subst hb'
  obtain ⟨g1, g2, g3, g4, g5, g6⟩ := setCells_spec us off w vs hh
  have hfit : off + us.length ≤ vs.size := by omega
  obtain ⟨F, H⟩ := R.write hx hpr g1 g2 g3 g4 g5 (fun cs e z h => ⟨_, _, _, g6, by rw [setL_size]; rw [hh] at h; injection h with h; injection h with h; rw [h]⟩)
    (k := .cells (putCells cs off ds)) (fun hrep => ⟨_, t, z, g6, by rw [setL_size]; exact hz, by rw [setL_size, putCells_len]; exact hle, fun i c v h3 h4 => by
      rw [putCells_get _ _ _ _ ho] at h3
      rw [setL_get _ _ _ _ hfit] at h4
      by_cases hi : off ≤ i ∧ i < off + ds.length
      · rw [if_pos hi] at h3
        rw [if_pos (by omega)] at h4
        have := hr _ _ _ h3 h4
        exact ⟨hrep _ _ this.1, this.2⟩
      · rw [if_neg hi] at h3
        rw [if_neg (by omega)] at h4
        have := hv _ _ _ h3 h4
        exact ⟨hrep _ _ this.1, this.2⟩⟩) hp
  refine ⟨F, H, ?_⟩
  have := run_storeCells_cells (P := P) b off us 0 w (fun j hj => by rw [cell_of_heap hh]; simp; omega) (fun j hj => by
    have hzz := hz (off + 0 + j) (by omega)
    simp only [World.frozen?, hh]
    rw [Bool.eq_false_iff]
    intro hc
    simp only [Bool.and_eq_true, decide_eq_true_eq] at hc
    exact hzz hc) h1
  simpa using this

/-- what is to be shown of an operation -/
def Does (P : Program) (N : Nat) (B : Nat → Prop) (G : Nat → Nat → Value → Prop) (U : Nat → Prop) (pr : List Nat) (nx : Nat) (φ : Loc) (w : World) (a : Act) (o : Oper) (q : S → Bool) : Prop :=
  ∀ Q : Exit → Act → World → Prop, o.wp P a w (After N B G U pr nx φ w q) Q

theorem does_value {o : Oper} {q : S → Bool} {u : Value} {w' : World} (hx : (execOp a.eval o).run P w = .ok (.value u) w') (h : After N B G U pr nx φ w q (a.put o.dst u) w') : Does P N B G U pr nx φ w a o q := fun Q => by
  unfold Oper.wp
  rw [hx]
  exact h
theorem does_skip {o : Oper} {q : S → Bool} {w' : World} (hx : (execOp a.eval o).run P w = .ok .skip w') (h : After N B G U pr nx φ w q (a.put o.dst undef) w') : Does P N B G U pr nx φ w a o q := fun Q => by
  unfold Oper.wp
  rw [hx]
  exact h

section ops
variable {o : Oper} {nm : Nat} {q : S → Bool}

theorem e_store {t : TypeId} {x y : Operand} (ho : o.op = .store t x y) {k : Nat} (hk : tSize P t = some k) (hd : ∀ d, o.dst = some d → d < N)
    (hq : evStore ⟨e, h, nx, pr⟩ o.dst k q (VM.opd e (tOpd x)) (VM.opd e (tOpd y)) = true) (R : RelAt N B G (FR U nx) φ ⟨e, h, nx, pr⟩ a w) : Does P N B G U pr nx φ w a o q := by
  unfold evStore at hq
  split at hq
  · rename_i z off c hx hy
    unfold evStore2 at hq
    split at hq
    · rename_i cs hs
      split at hq
      · rename_i hc
        simp only [Bool.and_eq_true] at hc
        have h1 : off + k ≤ cs.length := Nat.le_of_ble_eq_true hc.1.1
        have h2 : c.cells.length = k := Nat.eq_of_beq_eq_true hc.1.2
        obtain ⟨hpr, h', hp, hq⟩ := setB_spec hq
        obtain ⟨b, hb, _⟩ := R.st z _ hs
        obtain ⟨ad, hv, _, _, had⟩ := rep_ptr (R.opd hx)
        obtain rfl := had b hb
        obtain ⟨g1, g2, g3⟩ := cells_pw (R.opd hy) hc.2
        obtain ⟨F, H, hrun⟩ := R.toHeapAt.cells (P := P) (pr := pr) hb hpr hs g1 (by omega) g2 g3 hp
        have hvs : (a.eval y).cells.size = k := by rw [← h2, g1]; simp
        have hst : (storeVar t ⟨b, off, none⟩ (a.eval y)).run P w = .ok () (w.setCells b off (a.eval y).cells.toList) := by
          unfold storeVar
          simp only [Sem.run_bind, tSize_run hk, Result.andThen_ok, hvs, ne_eq, not_true_eq_false, if_false, Sem.run_ite, ite_not]
          simpa using hrun
        refine does_skip (w' := w.setCells b off (a.eval y).cells.toList) ?_ ((void_spec (R.step (pr'' := pr) (nx' := nx) F H) hd hq undef).from F)
        simp [execOp, ho, hv, Instr.storeAt, sureAddr_run, hst]
      · cases hq
    · cases hq
  · cases hq

/-- the world behind a write into a block that is not cells -/
def mapW (w : World) (b : Nat) (o : Obj) : World := { w with heap := w.heap.setIfInBounds b o }
theorem mapW_at {b : Nat} {o o' : Obj} (h : w.heap[b]? = some o) : (mapW w b o').heap[b]? = some o' := by
  have := (Array.getElem?_eq_some_iff.1 h).1
  simp [mapW, this]
theorem mapW_ne {b c : Nat} {o : Obj} (h : c ≠ b) : (mapW w b o).heap[c]? = w.heap[c]? := by
  simp [mapW, Array.getElem?_setIfInBounds_ne (Ne.symm h)]

theorem HeapAt.obj (R : HeapAt B G fr φ h w) {x b : Nat} (hx : φ x = some (some b)) (hpr : x ∉ pr) {ob ob' : Obj} (hb : w.heap[b]? = some ob) (hc : ∀ cs e z, ob ≠ .cells cs e z) {k : Blk} {h' : Heap} (hp : Put h x (some k) h') (hbl : (∀ c v, Rep w (Excl B φ) φ c v → Rep (mapW w b ob') (Excl B φ) φ c v) → BlkAt (mapW w b ob') (Excl B φ) φ b k) :
    Fwd pr φ w φ (mapW w b ob') ∧ HeapAt B G fr φ h' (mapW w b ob') ∧ (setObj b ob').run P w = .ok () (mapW w b ob') := by
  obtain ⟨F, H⟩ := R.write hx hpr (w' := mapW w b ob') (by simp [mapW]) (fun c hc => mapW_ne hc) rfl rfl rfl (fun cs e z h => by rw [hb] at h; injection h with h; exact absurd h (hc _ _ _)) hbl hp
  exact ⟨F, H, setObj_run hb hc ob'⟩

theorem modify_get {es : List (V × V × Nat)} {i j : Nat} {f : V × V × Nat → V × V × Nat} : (es.modify i f)[j]? = if j = i then es[j]?.map f else es[j]? := by
  rw [List.getElem?_modify]
  by_cases h : i = j
  · subst h; simp
  · rw [if_neg (fun e => h e.symm)]
    simp [h]

theorem cellEq_bits {X : Nat → Prop} {x y : V} {u v : Value} (h : cellEq x y = some true) (hx : Rep w X φ x u) (hy : Rep w X φ y v) : Instr.sameBits 10000 v u = true := by
  unfold cellEq at h
  split at h
  · split at h
    · rename_i hj
      have hj := of_decide_eq_true hj
      subst hj
      injection h with h
      obtain rfl := rep_i hx
      obtain rfl := rep_i hy
      obtain rfl := eqI_iff.1 h
      simp [Instr.sameBits]
    · cases h
  · injection h with h
    obtain rfl := rep_b hx
    obtain rfl := rep_b hy
    rw [eqB_eq] at h
    simp at h
    subst h
    simp [Instr.sameBits]
  · injection h with h
    obtain ⟨s, rfl, hs⟩ := rep_str hx
    obtain ⟨s', rfl, hs'⟩ := rep_str hy
    obtain rfl := eqL_iff.1 h
    show (s' == s) = true
    rw [← beq_bytes hs' hs]
    exact eqL_iff.2 rfl
  · cases h

theorem e_mup {t kt el : TypeId} {m k v : Operand} (ho : o.op = .mapUpdate t m k v) (ht : P.underlying t = some (.map kt el)) {kk : Nat} (hkt : tKey P kt = some kk) (hd : ∀ d, o.dst = some d → d < N)
    (hq : evMup ⟨e, h, nx, pr⟩ o.dst kk q (VM.opd e (tOpd m)) (VM.opd e (tOpd k)) (VM.opd e (tOpd v)) = true) (R : RelAt N B G (FR U nx) φ ⟨e, h, nx, pr⟩ a w) : Does P N B G U pr nx φ w a o q := by
  have hkt := tKey_spec hkt
  unfold evMup at hq
  split at hq
  · rename_i y kv c hm hk hc
    unfold evMup2 at hq
    split at hq
    · rename_i es clock hs
      split at hq
      · rename_i hko
        simp only [Bool.and_eq_true] at hko
        obtain ⟨b, hb, mes, hh, hma⟩ := R.st y _ hs
        obtain ⟨rr, hv, _, hrr⟩ := rep_mp (R.opd hm)
        obtain rfl := hrr b hb
        have hck : (Instr.checkKey false 10000 kt (a.eval k)).run P w = .ok () w := checkKey_run _ 9999 hkt _ w
        have hnc : ∀ cs e z, Obj.map mes clock ≠ .cells cs e z := fun _ _ _ h => by cases h
        unfold evMup3 at hq
        split at hq
        · rename_i i c0 hf
          obtain ⟨hpr, h', hp, hq⟩ := setB_spec hq
          rcases find_run (P := P) hkt hko.1 (R.opd hk) hma hf with ⟨h3, _⟩ | ⟨i', k', c', n, e', h3, h4, h5, h6, h7⟩
          · cases h3
          · injection h3 with h3; injection h3 with h3 h8
            subst h3
            obtain ⟨r1, r2, r3⟩ := hma.rep i k' c' n e' h4 h5
            have hbits := cellEq_bits h6 (R.opd hk) r1
            obtain ⟨F, H, hrun⟩ := R.toHeapAt.obj (P := P) (pr := pr) hb hpr hh hnc hp (ob' := .map (mes.modify i fun e => { e with key := a.eval k, val := a.eval v }) clock) (fun hrep => ⟨_, mapW_at hh, by simp [hma.len], fun j p d n' e'' g1 g2 => by
              rw [modify_get] at g1
              rw [Array.getElem?_modify] at g2
              by_cases hj : j = i
              · subst hj
                rw [if_pos rfl, h4] at g1
                rw [if_pos rfl, h5] at g2
                simp at g1 g2
                obtain ⟨rfl, rfl, rfl⟩ := g1
                subst g2
                exact ⟨hrep _ _ (R.opd hk), hrep _ _ (R.opd hc), r3⟩
              · rw [if_neg hj] at g1
                rw [if_neg (fun e => hj e.symm)] at g2
                obtain ⟨r1, r2, r3⟩ := hma.rep j p d n' e'' g1 g2
                exact ⟨hrep _ _ r1, hrep _ _ r2, r3⟩⟩)
            have hkk : ((mes[i]?).map (·.key)).getD (a.eval k) = e'.key := by simp [h5]
            have hup : (Instr.mapUpdate t (.map (some rr)) (a.eval k) (a.eval v)).run P w = .ok () (mapW w rr (.map (mes.modify i fun e => { e with key := a.eval k, val := a.eval v }) clock)) := by
              unfold Instr.mapUpdate
              simp only [Sem.run_bind, run_underlying ht, Result.andThen_ok, getObj_map hh, hck, h7, hkk, Instr.keyThatStays, hbits, if_true, Sem.run_pure, hrun]
            exact does_skip (by simp [execOp, ho, hv, hup]) ((void_spec (R.step (pr'' := pr) (nx' := nx) F H) hd hq undef).from F)
        · rename_i hf
          obtain ⟨hpr, h', hp, hq⟩ := setB_spec hq
          rcases find_run (P := P) hkt hko.1 (R.opd hk) hma hf with ⟨_, h4⟩ | ⟨i', k', c', n, e', h3, h4, h5, h6, h7⟩
          · obtain ⟨F, H, hrun⟩ := R.toHeapAt.obj (P := P) (pr := pr) hb hpr hh hnc hp (ob' := .map (mes.push { key := a.eval k, val := a.eval v, born := clock }) (clock + 1)) (fun hrep => ⟨_, mapW_at hh, by simp [hma.len], fun j p d n' e'' g1 g2 => by
              rcases Nat.lt_or_ge j es.length with hj | hj
              · rw [List.getElem?_append_left hj] at g1
                rw [Array.getElem?_push_lt (by rw [← hma.len]; exact hj), ← Array.getElem?_eq_getElem] at g2
                obtain ⟨r1, r2, r3⟩ := hma.rep j p d n' e'' g1 g2
                exact ⟨hrep _ _ r1, hrep _ _ r2, r3⟩
              · rw [List.getElem?_append_right hj] at g1
                have hj0 : j = es.length := by
                  rcases Nat.lt_or_ge (j - es.length) 1 with h | h
                  · omega
                  · rw [List.getElem?_eq_none (by simpa using h)] at g1; cases g1
                subst hj0
                rw [hma.len, Array.getElem?_push_size] at g2
                simp at g1 g2
                obtain ⟨rfl, rfl, rfl⟩ := g1
                subst g2
                exact ⟨hrep _ _ (R.opd hk), hrep _ _ (R.opd hc), rfl⟩⟩)
            have hup : (Instr.mapUpdate t (.map (some rr)) (a.eval k) (a.eval v)).run P w = .ok () (mapW w rr (.map (mes.push { key := a.eval k, val := a.eval v, born := clock }) (clock + 1))) := by
              unfold Instr.mapUpdate
              simp only [Sem.run_bind, run_underlying ht, Result.andThen_ok, getObj_map hh, hck, h4, hrun]
            exact does_skip (by simp [execOp, ho, hv, hup]) ((void_spec (R.step (pr'' := pr) (nx' := nx) F H) hd hq undef).from F)
          · cases h3
        · cases hq
      · cases hq
    · cases hq
  · cases hq

theorem e_del {t kt el t2 : TypeId} {m k : Operand} {c : Call} (hcl : c.callee = .builtin .delete) (hca : c.args = #[m, k]) (hct : c.argTypes = #[t, t2]) (ho : o.op = .call c) (ht : P.underlying t = some (.map kt el)) {kk : Nat} (hkt : tKey P kt = some kk) (hd : ∀ d, o.dst = some d → d < N)
    (hq : evDel ⟨e, h, nx, pr⟩ o.dst kk q (VM.opd e (tOpd m)) (VM.opd e (tOpd k)) = true) (R : RelAt N B G (FR U nx) φ ⟨e, h, nx, pr⟩ a w) : Does P N B G U pr nx φ w a o q := by
  have hkt := tKey_spec hkt
  unfold evDel at hq
  split at hq
  · rename_i y kv hm hk
    unfold evDel2 at hq
    split at hq
    · rename_i es clock hs
      split at hq
      · rename_i hko
        obtain ⟨b, hb, mes, hh, hma⟩ := R.st y _ hs
        obtain ⟨rr, hv, _, hrr⟩ := rep_mp (R.opd hm)
        obtain rfl := hrr b hb
        have hck : ∀ em, (Instr.checkKey em 10000 kt (a.eval k)).run P w = .ok () w := fun em => checkKey_run em 9999 hkt _ w
        have hnc : ∀ cs e z, Obj.map mes clock ≠ .cells cs e z := fun _ _ _ h => by cases h
        unfold evDel3 at hq
        split at hq
        · rename_i i c0 hf
          obtain ⟨hpr, h', hp, hq⟩ := setB_spec hq
          rcases find_run (P := P) hkt hko (R.opd hk) hma hf with ⟨h3, _⟩ | ⟨i', k', c', n, e', h3, h4, h5, h6, h7⟩
          · cases h3
          · injection h3 with h3; injection h3 with h3 h8
            subst h3
            have hlt : i < mes.size := (Array.getElem?_eq_some_iff.1 h5).1
            obtain ⟨F, H, hrun⟩ := R.toHeapAt.obj (P := P) (pr := pr) hb hpr hh hnc hp (ob' := .map (mes.eraseIdxIfInBounds i) clock) (fun hrep => ⟨_, mapW_at hh, by simp [Array.eraseIdxIfInBounds, hlt, hma.len, List.length_eraseIdx], fun j p d n' e'' g1 g2 => by
              simp only [Array.eraseIdxIfInBounds, hlt, dif_pos, Array.getElem?_eraseIdx] at g2
              rw [List.getElem?_eraseIdx] at g1
              split at g1
              · rename_i hj
                rw [if_pos hj] at g2
                obtain ⟨r1, r2, r3⟩ := hma.rep _ p d n' e'' g1 g2
                exact ⟨hrep _ _ r1, hrep _ _ r2, r3⟩
              · rename_i hj
                rw [if_neg hj] at g2
                obtain ⟨r1, r2, r3⟩ := hma.rep _ p d n' e'' g1 g2
                exact ⟨hrep _ _ r1, hrep _ _ r2, r3⟩⟩)
            have hdel : (Builtin.delete_ #[t, t2] o.type #[.map (some rr), a.eval k]).run P w = .ok (.tuple #[]) (mapW w rr (.map (mes.eraseIdxIfInBounds i) clock)) := by
              unfold Builtin.delete_
              simp [run_underlying ht, getObj_map hh, hck, h7, hrun]
            exact does_value (u := .tuple #[]) (by simp [execOp, ho, resolve, invoke, builtin, hcl, hca, hct, hv, hdel]) ((void_spec (R.step (pr'' := pr) (nx' := nx) F H) hd hq _).from F)
        · rename_i hf
          obtain ⟨hpr, h', hp, hq⟩ := setB_spec hq
          rcases find_run (P := P) hkt hko (R.opd hk) hma hf with ⟨_, h4⟩ | ⟨i', k', c', n, e', h3, h4, h5, h6, h7⟩
          · obtain ⟨F, H, hrun⟩ := R.toHeapAt.obj (P := P) (pr := pr) hb hpr hh hnc hp (ob' := .map mes clock) (fun hrep => ⟨_, mapW_at hh, hma.len, fun j p d n' e'' g1 g2 => by
                obtain ⟨r1, r2, r3⟩ := hma.rep _ p d n' e'' g1 g2
                exact ⟨hrep _ _ r1, hrep _ _ r2, r3⟩⟩)
            have hdel : (Builtin.delete_ #[t, t2] o.type #[.map (some rr), a.eval k]).run P w = .ok (.tuple #[]) (mapW w rr (.map mes clock)) := by
              unfold Builtin.delete_
              simp [run_underlying ht, getObj_map hh, hck, h4, hrun]
            exact does_value (u := .tuple #[]) (by simp [execOp, ho, resolve, invoke, builtin, hcl, hca, hct, hv, hdel]) ((void_spec (R.step (pr'' := pr) (nx' := nx) F H) hd hq _).from F)
          · cases h3
        · cases hq
      · cases hq
    · cases hq
  · cases hq

/-- a map's entries, one by one -/
def Al (w : World) (X : Nat → Prop) (φ : Loc) : List (V × V × Nat) → List MapEntry → Prop
  | [], [] => True
  | x :: es, e :: mes => (Rep w X φ x.1 e.key ∧ Rep w X φ x.2.1 e.val ∧ e.born = x.2.2) ∧ Al w X φ es mes
  | _, _ => False

theorem al_of {X : Nat → Prop} : ∀ {es : List (V × V × Nat)} {mes : List MapEntry}, es.length = mes.length →
    (∀ (i : Nat) (k v : V) (n : Nat) (e : MapEntry), es[i]? = some (k, v, n) → mes[i]? = some e → Rep w X φ k e.key ∧ Rep w X φ v e.val ∧ e.born = n) → Al w X φ es mes
  | [], [], _, _ => trivial
  | [], _ :: _, h, _ => by cases h
  | _ :: _, [], h, _ => by cases h
  | (k, v, n) :: es, e :: mes, hl, hr => ⟨hr 0 k v n e rfl rfl, al_of (by simpa using hl) fun i k v n e g1 g2 => hr (i + 1) k v n e (by simpa using g1) (by simpa using g2)⟩

theorem Al.filter {X : Nat → Prop} (p : Nat → Bool) : ∀ {es : List (V × V × Nat)} {mes : List MapEntry}, Al w X φ es mes → Al w X φ (es.filter fun x => p x.2.2) (mes.filter fun e => p e.born)
  | [], [], _ => trivial
  | [], _ :: _, h => h.elim
  | _ :: _, [], h => h.elim
  | x :: es, e :: mes, ⟨h1, h2⟩ => by
    have ih := Al.filter p h2
    simp only [List.filter_cons, h1.2.2]
    cases p x.2.2
    · exact ih
    · exact ⟨h1, ih⟩

theorem Al.all {X : Nat → Prop} (p : Nat → Bool) : ∀ {es : List (V × V × Nat)} {mes : List MapEntry}, Al w X φ es mes → es.all (fun x => p x.2.2) = mes.all fun e => p e.born
  | [], [], _ => rfl
  | [], _ :: _, h => h.elim
  | _ :: _, [], h => h.elim
  | x :: es, e :: mes, ⟨h1, h2⟩ => by simp only [List.all_cons, h1.2.2, Al.all p h2]

theorem Al.nil {X : Nat → Prop} {mes : List MapEntry} (h : Al w X φ [] mes) : mes = [] := by
  cases mes with
  | nil => rfl
  | cons => exact h.elim
theorem Al.one {X : Nat → Prop} {x : V × V × Nat} {mes : List MapEntry} (h : Al w X φ [x] mes) : ∃ e, mes = [e] ∧ Rep w X φ x.1 e.key ∧ Rep w X φ x.2.1 e.val ∧ e.born = x.2.2 := by
  match mes, h with
  | [e], h => exact ⟨e, rfl, h.1⟩
  | _ :: _ :: _, h => exact h.2.elim
theorem Al.empty {X : Nat → Prop} {es : List (V × V × Nat)} {mes : List MapEntry} (h : Al w X φ es mes) : es.isEmpty = mes.isEmpty := by
  cases es <;> cases mes <;> first | rfl | exact h.elim

theorem blt_dec (m n : Nat) : Nat.blt m n = decide (m < n) := by
  by_cases h : m < n
  · rw [decide_eq_true h]; exact Nat.ble_eq_true_of_le h
  · rw [decide_eq_false h]
    cases hh : Nat.blt m n with
    | true => exact absurd (Nat.le_of_ble_eq_true hh) h
    | false => rfl
theorem ble_dec (m n : Nat) : Nat.ble m n = decide (m ≤ n) := by
  by_cases h : m ≤ n
  · rw [decide_eq_true h]; exact Nat.ble_eq_true_of_le h
  · rw [decide_eq_false h]
    cases hh : Nat.ble m n with
    | true => exact absurd (Nat.le_of_ble_eq_true hh) h
    | false => rfl

theorem nextOf_spec {X : Nat → Prop} {es : List (V × V × Nat)} {mes : Array MapEntry} {since last : Nat} {seen : List Nat} {r : Option (V × V × Nat)} (hal : Al w X φ es mes.toList) (h : nextOf es since seen last = some r) :
    (!seen.toArray.isEmpty && !mes.isEmpty && mes.all fun e => decide (e.born ≥ last)) = false ∧
    ((r = none ∧ ((mes.filter fun e => !seen.toArray.contains e.born).filter fun e => decide (e.born < since)) = #[] ∧ ((mes.filter fun e => !seen.toArray.contains e.born).filter fun e => decide (e.born ≥ since)) = #[]) ∨
    ∃ x e, r = some x ∧ ((mes.filter fun e => !seen.toArray.contains e.born).filter fun e => decide (e.born < since)) = #[e] ∧ ((mes.filter fun e => !seen.toArray.contains e.born).filter fun e => decide (e.born ≥ since)) = #[] ∧ Rep w X φ x.1 e.key ∧ Rep w X φ x.2.1 e.val ∧ e.born = x.2.2) := by
  unfold nextOf at h
  split at h
  · cases h
  · rename_i hc
    have hc' : (!seen.toArray.isEmpty && !mes.isEmpty && mes.all fun e => decide (e.born ≥ last)) = false := by
      have h1 := hal.all fun n => Nat.ble last n
      have h2 := hal.empty
      rw [h1, h2] at hc
      simp only [ble_dec] at hc
      have e1 : mes.all (fun e => decide (e.born ≥ last)) = mes.toList.all fun e => decide (last ≤ e.born) := by simp
      have e2 : mes.isEmpty = mes.toList.isEmpty := by simp
      have e3 : seen.toArray.isEmpty = seen.isEmpty := by simp
      rw [e1, e2, e3]
      exact hc
    refine ⟨hc', ?_⟩
    have hl := hal.filter fun n => !seen.contains n
    have ho := hl.filter fun n => Nat.blt n since
    have hn := hl.filter fun n => Nat.ble since n
    simp only [blt_dec, ble_dec] at ho hn h
    have eo : ((mes.filter fun e => !seen.toArray.contains e.born).filter fun e => decide (e.born < since)).toList = (mes.toList.filter fun e => !seen.contains e.born).filter fun e => decide (e.born < since) := by
      simp only [Array.toList_filter, List.contains_toArray]
    have en : ((mes.filter fun e => !seen.toArray.contains e.born).filter fun e => decide (e.born ≥ since)).toList = (mes.toList.filter fun e => !seen.contains e.born).filter fun e => decide (since ≤ e.born) := by
      simp only [Array.toList_filter, List.contains_toArray, ge_iff_le]
    split at h
    · rename_i h1 h2
      rw [h1] at ho
      rw [h2] at hn
      injection h with h
      exact .inl ⟨h.symm, Array.ext' (by rw [eo, ho.nil]), Array.ext' (by rw [en, hn.nil])⟩
    · rename_i x h1 h2
      rw [h1] at ho
      rw [h2] at hn
      injection h with h
      obtain ⟨e, he, h3⟩ := ho.one
      exact .inr ⟨x, e, h.symm, Array.ext' (by rw [eo, he]), Array.ext' (by rw [en, hn.nil]), h3⟩
    · cases h

theorem rep_three {X : Nat → Prop} {c d f : V} {u v x : Value} (h1 : Rep w X φ c u) (h2 : Rep w X φ d v) (h3 : Rep w X φ f x) : Rep w X φ (.tup [c, d, f]) (.tuple #[u, v, x]) :=
  .tup [c, d, f] [u, v, x] rfl fun i c' v' g1 g2 => by
    match i with
    | 0 => simp at g1 g2; subst g1; subst g2; exact h1
    | 1 => simp at g1 g2; subst g1; subst g2; exact h2
    | 2 => simp at g1 g2; subst g1; subst g2; exact h3
    | i + 3 => simp at g1
theorem rep_no {X : Nat → Prop} : Rep w X φ (.tup [.raw (.bool false)]) (.tuple #[.bool false]) :=
  .tup [.raw (.bool false)] [.bool false] rfl fun i c' v' g1 g2 => by
    match i with
    | 0 => simp at g1 g2; subst g1; subst g2; exact mk_b
    | i + 1 => simp at g1

theorem e_nxt {x : Operand} (ho : o.op = .next x false) (hd : ∀ d, o.dst = some d → d < N) (hq : evNxt ⟨e, h, nx, pr⟩ nm o.dst q (VM.opd e (tOpd x)) = true) (R : RelAt N B G (FR U nx) φ ⟨e, h, nx, pr⟩ a w) : Does P N B G U pr nx φ w a o q := by
  unfold evNxt at hq
  split at hq
  · rename_i y hx
    unfold evNxt1 at hq
    split at hq
    · rename_i s0 s1 s2 hs
      obtain ⟨b, hb, rr, hh, rfl⟩ := R.st y _ hs
      obtain ⟨ad, hv, _, _, had⟩ := rep_ptr (R.opd hx)
      obtain rfl := had b hb
      refine does_value (u := .tuple #[.bool false]) (w' := w) ?_ (out_same R rep_no hd hq)
      simp [execOp, ho, hv, Instr.next, getObj_it hh]
    · rename_i m since seen last hs
      unfold evNxt2 at hq
      split at hq
      · rename_i es clock hm
        obtain ⟨b, hb, rr, hh, hd', d, rfl, hdd⟩ := R.st y _ hs
        obtain ⟨b', hb', mes, hh', hma⟩ := R.st m _ hm
        obtain rfl := hdd b' hb'
        obtain ⟨ad, hv, _, _, had⟩ := rep_ptr (R.opd hx)
        obtain rfl := had b hb
        have hal := al_of (mes := mes.toList) (by simpa using hma.len) fun i k v n e g1 g2 => hma.rep i k v n e g1 (by simpa using g2)
        unfold evNxt3 at hq
        split at hq
        · rename_i hn
          obtain ⟨hc, h1 | ⟨x', e', h1, _⟩⟩ := nextOf_spec hal hn
          · obtain ⟨_, h2, h3⟩ := h1
            have hrun : (Instr.next (.pointer (some ⟨b, 0, none⟩)) false o.type).run P w = .ok (.tuple #[.bool false]) w := by
              unfold Instr.next
              simp only [Sem.run_bind, Sem.run_pure, Result.andThen_ok, getObj_it hh, getObj_map hh', hc, h2, h3]
              simp [Question.forced]
            exact does_value (u := .tuple #[.bool false]) (w' := w) (by simp [execOp, ho, hv, hrun]) (out_same R rep_no hd hq)
          · cases h1
        · rename_i k c n hn
          obtain ⟨hc, ⟨h1, _⟩ | ⟨x', e', h1, h2, h3, h4, h5, h6⟩⟩ := nextOf_spec hal hn
          · cases h1
          · injection h1 with h1
            subst h1
            dsimp only at h4 h5 h6
            obtain ⟨hpr, h'', hp, hq⟩ := setB_spec hq
            obtain ⟨F, H, hset⟩ := R.toHeapAt.obj (P := P) (pr := pr) hb hpr hh (fun _ _ _ h => by cases h) hp (ob' := .mapIter (some d) since (seen ++ [e'.born]).toArray clock) (fun hrep => ⟨some d, by rw [mapW_at hh, h6], hd', d, rfl, hdd⟩)
            have hrun : (Instr.next (.pointer (some ⟨b, 0, none⟩)) false o.type).run P w = .ok (.tuple #[.bool true, e'.key, e'.val]) (mapW w b (.mapIter (some d) since (seen ++ [e'.born]).toArray clock)) := by
              unfold Instr.next
              simp only [Sem.run_bind, Sem.run_pure, Result.andThen_ok, getObj_it hh, getObj_map hh', hc, h2, h3]
              simp [Question.forced, hset]
            exact does_value (by simp [execOp, ho, hv, hrun]) ((out_same (R.step (pr'' := pr) (nx' := nx) F H) (rep_three mk_b (F.rep h4) (F.rep h5)) hd hq).from F)
        · cases hq
      · cases hq
    · cases hq
  · cases hq

end ops
end
end Go.VM
