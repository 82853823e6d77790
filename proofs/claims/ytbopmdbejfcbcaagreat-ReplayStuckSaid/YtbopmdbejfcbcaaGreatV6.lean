/- The machine VM, part 6: quiet operations: slices, addresses, fields, texts, maps. -/
import Derived.Test.YtbopmdbejfcbcaaGreatV5
set_option linter.unusedVariables false
set_option linter.unusedSectionVars false
set_option linter.unusedSimpArgs false
set_option linter.constructorNameAsVariable false
namespace Go.VM
open Go.RowKit
variable [Val]

theorem fold_set : ∀ (us : List Value) (j : Nat) (vs : Array Value) (off : Nat), off + j + us.length ≤ vs.size →
    ((us.zipIdx j).foldl (fun cs (p : Value × Nat) => cs.setIfInBounds (off + p.2) p.1) vs).size = vs.size ∧
    ∀ i, ((us.zipIdx j).foldl (fun cs (p : Value × Nat) => cs.setIfInBounds (off + p.2) p.1) vs)[i]? = if off + j ≤ i ∧ i < off + j + us.length then us[i - (off + j)]? else vs[i]?
  | [], j, vs, off, h => ⟨rfl, fun i => by simp only [List.zipIdx_nil, List.foldl_nil, List.length_nil]; rw [if_neg (by omega)]⟩
  | u :: us, j, vs, off, h => by
    simp only [List.length_cons] at h
    obtain ⟨h1, h2⟩ := fold_set us (j + 1) (vs.setIfInBounds (off + j) u) off (by simp; omega)
    simp only [List.zipIdx_cons, List.foldl_cons]
    refine ⟨by rw [h1]; simp, fun i => ?_⟩
    rw [h2 i]
    by_cases hi : i = off + j
    · subst hi
      rw [if_neg (by omega), if_pos ⟨by omega, by simp⟩]
      simp [show off + j < vs.size by omega]
    · by_cases hr : off + (j + 1) ≤ i ∧ i < off + (j + 1) + us.length
      · rw [if_pos hr, if_pos ⟨by omega, by simp; omega⟩]
        rw [show i - (off + j) = (i - (off + (j + 1))) + 1 from by omega]
        simp
      · rw [if_neg hr, if_neg (by simp; omega), Array.getElem?_setIfInBounds_ne (by omega)]

section
variable {P : Program} {N : Nat} {B : Nat → Prop} {G : Nat → Nat → Value → Prop} {fr : Nat → Prop} {φ : Loc} {a : Act} {w : World} {e : T V} {h : Heap} {nx : Nat} {pr : List Nat}

theorem fill_lit (R : RelAt N B G fr φ ⟨e, h, nx, pr⟩ a w) (k : Nat) : ∀ (ps : List (Nat × Operand)) (n : Nat) (cs : List V) (vs : Array Value), litv e k n (tLits ps) = some cs → (n + ps.length) * k ≤ vs.size →
    cs.length = ps.length * k ∧ ∃ us, Instr.fill (fun i => some (i * k, k)) vs (ps.map fun p => (p.1, a.eval p.2)) = some us ∧ us.size = vs.size ∧ (∀ i, i < n * k → us[i]? = vs[i]?) ∧
      ∀ i c, cs[i]? = some c → ∃ v, us[n * k + i]? = some v ∧ v.oneCell' = true ∧ Rep w (Excl B φ) φ c v
  | [], n, cs, vs, h, hs => by
    simp only [tLits, litv, Option.some.injEq] at h
    subst h
    exact ⟨by simp, vs, rfl, rfl, fun i _ => rfl, fun i c h => by cases h⟩
  | (i, x) :: ps, n, cs, vs, h, hs => by
    simp only [tLits, litv] at h
    split at h
    · rename_i c l hi hx hl
      split at h
      · rename_i hc
        injection h with h
        subst h
        simp only [Bool.and_eq_true] at hc
        have hk : c.cells.length = k := Nat.eq_of_beq_eq_true hc.1
        have hin : i = n := Nat.eq_of_beq_eq_true hi
        subst hin
        obtain ⟨h1, h2⟩ := rep_cells (R.opd hx) hc.2
        have hvk : (a.eval x).cells.size = k := by omega
        have e1 : (i + (ps.length + 1)) * k = i * k + k + ps.length * k := by rw [Nat.add_mul, Nat.add_mul]; omega
        have e2 : (i + 1 + ps.length) * k = i * k + k + ps.length * k := by rw [Nat.add_mul, Nat.add_mul]; omega
        have e3 : (i + 1) * k = i * k + k := by rw [Nat.add_mul]; omega
        have e4 : (ps.length + 1) * k = k + ps.length * k := by rw [Nat.add_mul]; omega
        simp only [List.length_cons, e1] at hs
        have hlen : (a.eval x).cells.toList.length = k := by simpa using hvk
        obtain ⟨g1, g2⟩ := fold_set (a.eval x).cells.toList 0 vs (i * k) (by rw [hlen]; omega)
        obtain ⟨q1, us, q2, q3, q4, q5⟩ := fill_lit R k ps (i + 1) l _ hl (by rw [g1, e2]; omega)
        refine ⟨by simp only [List.length_append, List.length_cons, q1, hk, e4], us, ?_, by rw [q3, g1], fun m hm => ?_, fun m d hd => ?_⟩
        · simp only [List.map_cons, Instr.fill]
          rw [if_neg (by simp; omega)]
          rw [← q2]
          congr 1
          rw [← Array.foldl_toList]
          simp
        · rw [q4 m (by rw [e3]; omega), g2 m, if_neg (by omega)]
        · by_cases hm : m < k
          · have hm1 : m < c.cells.length := by omega
            rw [List.getElem?_append_left hm1] at hd
            have hm' : m < (a.eval x).cells.size := by omega
            obtain ⟨h5, h6⟩ := h2 m d (a.eval x).cells[m] hd (by simp [hm'])
            refine ⟨(a.eval x).cells[m], ?_, h6, h5⟩
            rw [q4 (i * k + m) (by rw [e3]; omega), g2, if_pos ⟨by omega, by omega⟩]
            rw [show i * k + m - (i * k + 0) = m from by omega]
            simp [hm']
          · rw [List.getElem?_append_right (by omega), hk] at hd
            obtain ⟨v, hv, ho, hr⟩ := q5 (m - k) d hd
            exact ⟨v, by rw [← hv, e3]; congr 1; omega, ho, hr⟩
      · cases h
    · cases h

theorem tElem_eq {t e : TypeId} (h : tElem P t = some e) : P.underlying t = some (.slice e) := by
  unfold tElem at h
  split at h
  · injection h with h; subst h; assumption
  · cases h

theorem tLits_len : ∀ (ps : List (Nat × Operand)), (tLits ps).length = ps.length
  | [] => rfl
  | p :: r => by simp [tLits, tLits_len r]

/-- A new block of cells, and a slice of all of it. -/
theorem newSlice {o : Oper} {nm : Nat} {r : Option (Option Nat)} {cs : List V} {vs : Array Value} (hp : PW w (Excl B φ) φ cs vs) {t : TypeId} {sz n : Nat} (hn : n * sz = vs.size) (hx : (execOp a.eval o).run P w = .ok (.value (.slice (some ⟨w.heap.size, 0, none⟩) n n)) (w.alloc (.cells vs t))) :
    Comes P B φ a w o nm r (.sl nm sz 0 n (some n)) (some (.cells cs)) :=
  newCells hp hx fun φ' hφ => .sl _ _ _ _ _ _ _ rfl (by rw [hφ]; simp) fun b hb => by
    rw [hφ] at hb; injection hb with hb; injection hb with hb; subst hb
    exact ⟨fun _ => rfl, Nat.le_refl _, vs, t, (0, 0), alloc_at _ _, by omega, rfl⟩

section ops
variable {o : Oper} {nm : Nat} {r : Option (Option Nat)} {v : V} {new : Option Blk}

theorem q_lit {t el : TypeId} {len : Nat} {ps : Array (Nat × Operand)} (ho : o.op = .buildSlice t len ps) (ht : P.underlying t = some (.slice el)) {k : Nat} (hk : tSize P el = some k) {zs : List V} (hz : tZero P el = some zs) (hzk : zs.length = k) (hcap : len * k ≤ 16777216) (hk0 : 0 < k)
    (hy : yLit nm k len (tLits ps.toList).length (litv e k 0 (tLits ps.toList)) = some (v, new)) (R : RelAt N B G fr φ ⟨e, h, nx, pr⟩ a w) : Comes P B φ a w o nm r v new := by
  unfold yLit at hy
  split at hy
  · rename_i cs hls
    split at hy
    · rename_i hc
      injection hy with hy; injection hy with h1 h2
      subst h1; subst h2
      have hps : ps.toList.length = len := by rw [← Nat.eq_of_beq_eq_true hc, tLits_len]
      obtain ⟨z, i, hi, hiz, hzc, hzr⟩ := zero_run hz
      have hzs : z.cells.size = k := by rw [← (zero_pw (w := w) (X := Excl B φ) (φ := φ) hzc).1]; exact hzk
      obtain ⟨q1, us, q2, q3, q4, q5⟩ := fill_lit R k ps.toList 0 cs ((Array.range (len * k)).map (z.cells[· % z.cells.size]!)) hls (by rw [hps]; simp)
      have hsz : us.size = len * k := by rw [q3]; simp
      have hcl : cs.length = us.size := by rw [q1, hps, hsz]
      have hp : PW w (Excl B φ) φ cs us := ⟨hcl, fun i c u h1 h2 => by
        obtain ⟨v, hv, h3, h4⟩ := q5 i c h1
        rw [Nat.zero_mul, Nat.zero_add, h2] at hv
        injection hv with hv
        subst hv
        exact ⟨h4, h3⟩⟩
      have hrun : (Instr.buildSlice t len (ps.map fun (i, x) => (i, a.eval x))).run P w = .ok (.slice (some ⟨w.heap.size, 0, none⟩) len len) (w.alloc (.cells us el)) := by
        have hq2 : Instr.fill (fun i => some (i * k, k)) ((Array.range (len * k)).map (z.cells[· % z.cells.size]!)) (ps.map fun (i, x) => (i, a.eval x)).toList = some us := by
          rw [← q2]; simp
        unfold Instr.buildSlice
        simp only [Sem.run_bind, run_underlying ht, Result.andThen_ok, tSize_run hk]
        rw [if_neg (by omega)]
        by_cases h0 : len * k = 0
        · have hr0 : (Array.range (len * k)).map (z.cells[· % z.cells.size]!) = (Array.range (len * k)).map ((#[] : Array Value)[· % (#[] : Array Value).size]!) := by
            rw [h0]; simp [Array.range_zero']
          rw [hr0] at hq2
          simp only [if_pos h0, Sem.run_bind, Sem.run_pure, Result.andThen_ok, hq2, newRow, run_newObj]
          simp
        · simp only [if_neg h0, Sem.run_bind, hzr, Sem.run_pure, Result.andThen_ok, hq2, newRow, run_newObj]
          simp
      exact newSlice hp hsz.symm (t := el) (by simp [execOp, ho, hrun])
    · cases hy
  · cases hy

theorem reps_len (zs : List V) : ∀ n, (reps zs n).length = n * zs.length
  | 0 => by simp [reps]
  | n + 1 => by simp [reps, reps_len zs n, Nat.add_mul]; omega
theorem reps_get (zs : List V) (h0 : 0 < zs.length) : ∀ (n i : Nat), i < n * zs.length → (reps zs n)[i]? = zs[i % zs.length]?
  | 0, i, h => by simp at h
  | n + 1, i, h => by
    rw [reps]
    by_cases hi : i < zs.length
    · rw [List.getElem?_append_left hi, Nat.mod_eq_of_lt hi]
    · have h' : i < n * zs.length + zs.length := by rw [← Nat.succ_mul]; exact h
      rw [List.getElem?_append_right (by omega), reps_get zs h0 n (i - zs.length) (by omega), Nat.mod_eq_sub_mod (a := i) (by omega)]

theorem q_mksl {t el : TypeId} {l c' : Operand} (ho : o.op = .makeSlice t l c') (ht : P.underlying t = some (.slice el)) {i : TypeInfo} (hi : P.info? el = some i) (hs0 : 0 < i.size) (hbp : 0 < i.bytes) {zs : List V} (hz : tZero P el = some zs) (hzs : zs.length = i.size) (hlc : a.eval l = a.eval c')
    (hy : yMake nm i.size i.bytes zs (VM.opd e (tOpd l)) = some (v, new)) (R : RelAt N B G fr φ ⟨e, h, nx, pr⟩ a w) : Comes P B φ a w o nm r v new := by
  unfold yMake at hy
  split at hy
  · rename_i n hn
    split at hy
    · rename_i hb
      injection hy with hy; injection hy with h1 h2
      subst h1; subst h2
      have hb := Nat.le_of_ble_eq_true hb
      have hv : a.eval l = .int .i64 (n : Int) := rep_i (R.opd hn)
      obtain ⟨z', i', hi', hiz, hzc, _⟩ := zero_run hz
      rw [hi] at hi'
      injection hi' with hi'
      subst hi'
      have hpz := zero_pw (w := w) (X := Excl B φ) (φ := φ) hzc
      have hbytes : (i.bytes : Int) * (n : Int) ≤ 281474976710656 := by
        have : ((n * i.bytes : Nat) : Int) ≤ 140737488355328 := by omega
        rw [Int.natCast_mul] at this
        rw [Int.mul_comm]; omega
      have h63 : (n : Int) ≤ 9223372036854775807 := by
        have : n * 1 ≤ n * i.bytes := Nat.mul_le_mul_left n hbp
        omega
      have hr := run_make (P := P) w t el i z' ht hi hiz .i64 .i64 n n (by omega) (Int.le_refl _) hbytes h63
      simp only [Int.toNat_natCast] at hr
      have hp : PW w (Excl B φ) φ (reps zs n) (madeCells z'.cells (n * i.size)) := by
        refine ⟨by rw [reps_len, hzs, size_madeCells], fun j c u h1 h2 => ?_⟩
        have hj : j < n * i.size := by
          have := (List.getElem?_eq_some_iff.1 h1).1
          rwa [reps_len, hzs] at this
        rw [reps_get zs (by omega) n j (by rw [hzs]; exact hj)] at h1
        have hlt : j % zs.length < z'.cells.size := by rw [← hpz.1]; exact Nat.mod_lt _ (by omega)
        have hm : (madeCells z'.cells (n * i.size))[j]? = some z'.cells[j % zs.length] := by
          have hlt' : j % z'.cells.size < z'.cells.size := by rw [← hpz.1]; rw [← hpz.1] at hlt; exact hlt
          simp [madeCells, hj, ← hpz.1]
          rw [getElem!_pos z'.cells (j % zs.length) hlt]
        rw [hm] at h2
        injection h2 with h2
        subst h2
        exact hpz.2 _ c _ h1 (by simp [hlt])
      exact newSlice hp (by rw [size_madeCells]) (t := el) (by simp [execOp, ho, ← hlc, hv, hr])
    · cases hy
  · cases hy

theorem place_spec {x : Operand} {n m : Nat} (hp : place (VM.opd e (tOpd x)) n = some m) (R : RelAt N B G fr φ ⟨e, h, nx, pr⟩ a w) : a.eval x = .int .i64 m ∧ m ≤ n := by
  unfold place at hp
  split at hp
  · rename_i k hx
    split at hp
    · rename_i hle
      injection hp with hp
      subst hp
      exact ⟨rep_i (R.opd hx), Nat.le_of_ble_eq_true hle⟩
    · cases hp
  · cases hp

theorem bound_run {m N : Nat} (h : m ≤ N) (code : BoundsCode) (w : World) : (Instr.sliceBound (.int .i64 (m : Int)) N code).run P w = .ok m w := by
  simp [Instr.sliceBound, asIntOf, h]

theorem bounds_run {lo hi : Option Operand} {n c k l : Nat} (hk : placeO e (tOpt hi) n n = some k) (hl : placeO e (tOpt lo) 0 k = some l) (hc : n ≤ c) (R : RelAt N B G fr φ ⟨e, h, nx, pr⟩ a w) (sl : Bool) :
    (∀ w', (Instr.sliceBounds sl n c (lo.map a.eval) (hi.map a.eval) none).run P w' = .ok (l, k, c) w') ∧ l ≤ k ∧ k ≤ n := by
  have h1 : k ≤ n ∧ (hi = none ∧ k = n ∨ ∃ x, hi = some x ∧ a.eval x = .int .i64 k) := by
    cases hi with
    | none => simp only [tOpt, placeO, Option.some.injEq] at hk; exact ⟨by omega, .inl ⟨rfl, hk.symm⟩⟩
    | some x => have := place_spec (by simpa [tOpt, placeO] using hk) R; exact ⟨this.2, .inr ⟨x, rfl, this.1⟩⟩
  have h2 : l ≤ k ∧ (lo = none ∧ l = 0 ∨ ∃ x, lo = some x ∧ a.eval x = .int .i64 l) := by
    cases lo with
    | none => simp only [tOpt, placeO, Option.some.injEq] at hl; exact ⟨by omega, .inl ⟨rfl, hl.symm⟩⟩
    | some x => have := place_spec (by simpa [tOpt, placeO] using hl) R; exact ⟨this.2, .inr ⟨x, rfl, this.1⟩⟩
  refine ⟨fun w' => ?_, h2.1, h1.1⟩
  obtain ⟨hkn, h1⟩ := h1
  obtain ⟨hlk, h2⟩ := h2
  unfold Instr.sliceBounds
  rcases h1 with ⟨rfl, rfl⟩ | ⟨x, rfl, hx⟩ <;> rcases h2 with ⟨rfl, rfl⟩ | ⟨y, rfl, hy⟩
  · simp
  · simp [hy, bound_run hlk]
  · simp [hx, bound_run (Nat.le_trans hkn hc)]
  · simp [hx, hy, bound_run hlk, bound_run (Nat.le_trans hkn hc)]

theorem sliceAt_run {t el : TypeId} (ht : P.underlying t = some (.slice el)) {k : Nat} (hk : tSize P el = some k) (ad : Option Addr) {n c l m : Nat} {lo hi : Option Value} (w' : World) (hb : (Instr.sliceBounds true n c lo hi none).run P w' = .ok (l, m, c) w') :
    (Instr.sliceAt t (.slice ad n c) lo hi none).run P w' = .ok (.slice (if c = l then ad else ad.map (·.add (l * k))) (m - l) (c - l)) w' := by
  unfold Instr.sliceAt
  simp only [Sem.run_bind, run_underlying ht, Result.andThen_ok]
  unfold Instr.slice
  simp only [Sem.run_bind, run_underlying ht, Result.andThen_ok, hb, tSize_run hk, Sem.run_pure]

theorem upTo_spec {lo : Option Opd} {x : Option Nat} {l : Nat} (h : upTo e lo x = some l) : ∃ k, x = some k ∧ placeO e lo 0 k = some l := by
  unfold upTo at h
  split at h
  · exact ⟨_, rfl, h⟩
  · cases h

theorem q_slc {t el : TypeId} {x : Operand} {lo hi mx : Option Operand} (ho : o.op = .slice t x lo hi mx) (ht : P.underlying t = some (.slice el)) {k : Nat} (hk : tSize P el = some k)
    (hy : ySlc e h k (tOpt lo) (tOpt hi) (tOpt mx) (VM.opd e (tOpd x)) = some (v, new)) (R : RelAt N B G fr φ ⟨e, h, nx, pr⟩ a w) : Comes P B φ a w o nm r v new := by
  have hmx : ∀ {y : Option Operand}, tOpt y = none → y = none := fun {y} h => by cases y with | none => rfl | some y => cases h
  unfold ySlc at hy
  split at hy
  · rename_i y sz' off n cap hx
    split at hy
    · rename_i hsz hm
      obtain rfl := hmx hm
      have hsz : k = sz' := Nat.eq_of_beq_eq_true hsz
      subst hsz
      split at hy
      · rename_i cs hs
        unfold ySlc2 at hy
        split at hy
        · rename_i m l hpm hpl
          injection hy with hy; injection hy with h1 h2
          subst h1; subst h2
          obtain ⟨m', hm', hpl2⟩ := upTo_spec hpl
          rw [hpm] at hm'
          injection hm' with hm'
          subst hm'
          obtain ⟨b, hb, vs, t', z, hh, _⟩ := R.st y _ hs
          obtain ⟨ad, c, hv, hsp, hd, had⟩ := rep_sl (R.opd hx)
          obtain ⟨had, hnc, vs', e', z', hh', hroom, hcap⟩ := had b hb
          obtain ⟨hrun, hlm, hmn⟩ := bounds_run (P := P) hpm hpl2 hnc R true
          refine stay (u := .slice (if c = l then some ad else (some ad).map (·.add (l * k))) (m - l) (c - l)) (fun w' => ?_) ?_
          · simp [execOp, ho, hv, sliceAt_run ht hk (some ad) w' (hrun w')]
          · have hmul : c * k = l * k + (c - l) * k := by rw [← Nat.add_mul]; congr 1; omega
            have hroom' : ∀ ad', ad'.spot = none → (0 < c - l → ad' = ⟨b, off + l * k, none⟩) → Rep w (Excl B φ) φ (.sl y k (off + l * k) (m - l) (less cap l)) (.slice (some ad') (m - l) (c - l)) := fun ad' hsp' had' =>
              .sl _ _ _ _ _ _ _ hsp' hd fun b' hb' => by
                rw [hb] at hb'; injection hb' with hb'; injection hb' with hb'; subst hb'
                refine ⟨had', by omega, vs', e', z', hh', by omega, ?_⟩
                cases cap with
                | none => dsimp only [less] at hcap ⊢; omega
                | some q => dsimp only [less] at hcap ⊢; omega
            split
            · exact hroom' ad hsp fun h => by omega
            · refine hroom' _ (by show (ad.add (l * k)).spot = none; rw [addr_add _ hsp]) fun h => ?_
              rw [had (by omega)]
              exact addr_add _ rfl _
        · cases hy
      · cases hy
    · cases hy
  · rename_i sz' n g hx
    split at hy
    · rename_i hsz hm
      obtain rfl := hmx hm
      have hsz : k = sz' := Nat.eq_of_beq_eq_true hsz
      subst hsz
      unfold yFro2 at hy
      split at hy
      · rename_i m l hpm hpl
        injection hy with hy; injection hy with h1 h2
        subst h1; subst h2
        obtain ⟨m', hm', hpl2⟩ := upTo_spec hpl
        rw [hpm] at hm'
        injection hm' with hm'
        subst hm'
        have hF := R.opd hx
        cases hF' : a.eval x with
        | slice ad len cap =>
          rw [hF'] at hF
          cases hF with
          | fro _ _ _ ad cap val hs hxx hlt hc hr h1 hf hn =>
            obtain ⟨hrun, hlm, hmn⟩ := bounds_run (P := P) hpm hpl2 hc R true
            refine stay (u := .slice (if cap = l then some ad else (some ad).map (·.add (l * k))) (m - l) (cap - l)) (fun w' => ?_) ?_
            · simp [execOp, ho, hF', sliceAt_run ht hk (some ad) w' (hrun w')]
            · split
              · rename_i hcl
                have : m - l = 0 := by omega
                rw [this]
                exact .froZero _ _ _ _
              · simp only [Option.map_some, addr_add _ hs]
                refine .fro _ _ _ ⟨ad.block, ad.off + l * k, none⟩ _ (fun j c => val (j + l) c) rfl hxx hlt (by omega) (fun j c h1 h2 => ?_) (fun j c h2 h3 => h1 (j + l) c (by omega) h3) (fun j c h1 h2 => hf (j + l) c (by omega) h2) fun j c h1 h2 => hn (j + l) c (by omega) h2
                rw [← hr (j + l) c (by omega) h2, Nat.add_mul, show ad.off + l * k + (j * k + c) = ad.off + (j * k + l * k + c) from by omega]
          | froNil _ _ =>
            obtain ⟨hrun, hlm, hmn⟩ := bounds_run (P := P) hpm hpl2 (Nat.le_refl 0) R true
            have h0 : m = 0 ∧ l = 0 := by omega
            obtain ⟨rfl, rfl⟩ := h0
            exact stay (u := .slice none 0 0) (fun w' => by simp [execOp, ho, hF', sliceAt_run ht hk none w' (hrun w')]) (.froNil _ _)
          | froZero _ _ ad cap =>
            obtain ⟨hrun, hlm, hmn⟩ := bounds_run (P := P) hpm hpl2 (Nat.zero_le cap) R true
            have h0 : m = 0 ∧ l = 0 := by omega
            obtain ⟨rfl, rfl⟩ := h0
            refine stay (u := .slice (if cap = 0 then some ad else (some ad).map (·.add (0 * k))) 0 (cap - 0)) (fun w' => by simp [execOp, ho, hF', sliceAt_run ht hk (some ad) w' (hrun w')]) ?_
            split <;> exact .froZero _ _ _ _
        | _ => rw [hF'] at hF; cases hF
      · cases hy
    · cases hy
  · cases hy

theorem fieldAt_run {t : TypeId} {fs : Array Field} (ht : P.underlying t = some (.struct fs)) {i : Nat} {f : Field} (hf : fs[i]? = some f) {k : Nat} (hk : tSize P f.type = some (k + 1)) (ad : Addr) (hs : ad.spot = none) (w : World) :
    (Instr.fieldAt t (.pointer (some ad)) i).run P w = .ok (.pointer (some ⟨ad.block, ad.off + f.offset, none⟩)) w := by
  unfold Instr.fieldAt
  simp only [Sem.run_bind, run_underlying ht, Result.andThen_ok, hf, sureAddr_run, fieldPlace, tSize_run hk]
  simp [addr_add _ hs]

end ops
end
end Go.VM
