/- The machine VM, part 11: append, whole. -/
import Derived.Test.YtbopmdbejfcbcaaGreatV10
set_option linter.unusedVariables false
set_option linter.unusedSectionVars false
set_option linter.unusedSimpArgs false
set_option linter.constructorNameAsVariable false
namespace Go.VM
open Go.RowKit
variable [Val]

section
variable {P : Program} {ty : TypeId} {N : Nat} {B : Nat → Prop} {G : Nat → Nat → Value → Prop} {fr U : Nat → Prop} {φ : Loc} {a : Act} {w : World} {e : T V} {h : Heap} {nx : Nat} {pr : List Nat}
variable {o : Oper} {nm : Nat} {q : S → Bool}

/-- what a grown row holds -/
theorem grown_blk {X : Nat → Prop} {olds news : List Value} {old new : List V} (ho : LW w X φ old olds) (hn : LW w X φ new news) {rest : Array Value} {t : TypeId} {φ' : Loc} {X' : Nat → Prop} {w' : World} (hr : ∀ c v, Rep w X φ c v → Rep w' X' φ' c v) {b : Nat} (hb : w'.heap[b]? = some (.cells ((olds ++ news).toArray ++ rest) t)) :
    BlkAt w' X' φ' b (.cells (old ++ new)) := by
  have hA := (ho.append hn).mono hr
  refine ⟨_, t, (0, 0), hb, fun i _ => by omega, ?_, fun i c v h1 h2 => ?_⟩
  · rw [hA.1]; simp
  · have hi : i < (olds ++ news).length := by rw [← hA.1]; exact (List.getElem?_eq_some_iff.1 h1).1
    refine hA.2 i c v h1 ?_
    rw [Array.getElem?_append_left (by simpa using hi)] at h2
    simpa using h2

theorem grown_size {olds news : List Value} {z : Array Value} {sz n gc : Nat} (hz : z.size = sz) (hl : (olds ++ news).length = n * sz) (hge : n ≤ gc) : 0 + gc * sz = ((olds ++ news).toArray ++ Builtin.zeroCells z (gc - n)).size := by
  rw [Array.size_append, zeros_size, hz, List.size_toArray, hl, ← Nat.add_mul, Nat.zero_add]
  congr 1; omega

/-- into a new row -/
theorem app_new (R : RelAt N B G (FR U nx) φ ⟨e, h, nx, pr⟩ a w) (hU : U nm) (hnx : nm < nx) (hd : ∀ d, o.dst = some d → d < N) {olds news : List Value} {old new : List V} (ho : LW w (Excl B φ) φ old olds) (hn : LW w (Excl B φ) φ new news) {z : Array Value} {sz bytes n gc : Nat} (hz : z.size = sz) (hl : (olds ++ news).length = n * sz) (hge : n ≤ gc) {t : TypeId}
    (hx : (execOp a.eval o).run P w = .ok (.value (.slice (some ⟨w.heap.size, 0, none⟩) n gc)) (w.drew.alloc (.cells ((olds ++ news).toArray ++ Builtin.zeroCells z (gc - n)) t)))
    (hq : appNew ⟨e, h, nx, pr⟩ nm o.dst sz bytes old new n q = true) : Does P N B G (fun x => U x ∧ x ≠ nm) pr nx φ w a o q := by
  unfold appNew at hq
  split at hq
  · refine does_value hx (out_new R hU hnx (w' := w.drew.alloc (.cells ((olds ++ news).toArray ++ Builtin.zeroCells z (gc - n)) t)) (n := w.heap.size) (by simp) (fun b hb => ?_) rfl rfl rfl ⟨Nat.le_refl _, by simp⟩ (fun φ' hr hφ => grown_blk ho hn hr (drew_alloc_at _ _)) (fun φ' hr hφ => ?_) hd hq)
    · exact Below.heap_alloc w.drew _ b hb
    · refine .sl _ _ _ _ _ _ _ rfl (by rw [hφ]; simp) fun b hb => ?_
      rw [hφ] at hb; injection hb with hb; injection hb with hb; subst hb
      exact ⟨fun _ => rfl, hge, _, t, (0, 0), drew_alloc_at _ _, by rw [grown_size hz hl hge]; exact Nat.le_refl _, grown_size hz hl hge⟩
  · cases hq

theorem app_fits {n bytes : Nat} (hb : 0 < bytes) (h : n * bytes ≤ 140737488355328) : ((n : Nat) : Int) ≤ 9223372036854775807 := by
  have : n * 1 ≤ n * bytes := Nat.mul_le_mul_left n hb
  omega

theorem appNew_fits {s : S} {dst : Option Nat} {sz bytes n : Nat} {old new : List V} (hq : appNew s nm dst sz bytes old new n q = true) : n * bytes ≤ 140737488355328 := by
  unfold appNew at hq
  split at hq
  · rename_i h; exact Nat.le_of_ble_eq_true h
  · cases hq

theorem e_app {t el : TypeId} {x y : Operand} {c : Call} (hcl : c.callee = .builtin .append) (hca : c.args = #[x, y]) (hct : c.argTypes = #[t, t]) (ho : o.op = .call c) (ht : P.underlying t = some (.slice el)) {i : TypeInfo} (hi : P.info? el = some i) {z : Value} (hz : i.zero = some z) (hzs : z.cells.size = i.size) (h0 : 0 < i.size) (hby : 0 < i.bytes)
    (hU : U nm) (hnx : nm < nx) (hd : ∀ d, o.dst = some d → d < N) (hq : evApp1 ⟨e, h, nx, pr⟩ nm o.dst i.size i.bytes q (VM.opd e (tOpd x)) (elemsO h i.size (VM.opd e (tOpd y))) = true) (R : RelAt N B G (FR U nx) φ ⟨e, h, nx, pr⟩ a w) :
    Does P N B G (fun x => U x ∧ x ≠ nm) pr nx φ w a o q := by
  have hrun : ∀ {v : Value} {w' : World}, (Builtin.append_ #[t, t] o.type #[a.eval x, a.eval y]).run P w = .ok v w' → (execOp a.eval o).run P w = .ok (.value v) w' := fun hr => by
    simp [execOp, ho, resolve, invoke, builtin, hcl, hca, hct, hr]
  have same : ∀ {cv : V} {v : Value} {q' : S → Bool}, (execOp a.eval o).run P w = .ok (.value v) w → Rep w (Excl B φ) φ cv v → VM.out ⟨e, h, nx, pr⟩ o.dst nm cv none q = true → Does P N B G (fun x => U x ∧ x ≠ nm) pr nx φ w a o q := fun hx hr hq =>
    does_value hx ((out_same R hr hd hq).less fun x hx => hx.1)
  unfold evApp1 at hq
  split at hq
  · rename_i cv m new hx hy
    cases hyo : VM.opd e (tOpd y) with
    | none => rw [hyo] at hy; cases hy
    | some cy =>
    rw [hyo] at hy
    obtain ⟨news, hS, hn⟩ := elems_spec (P := P) R ht h0 hy (R.opd hyo)
    have hxr := R.opd hx
    unfold evApp at hq
    split at hq
    · -- nil
      have hxv := (rep_raw hxr).1
      split at hq
      · have hnil : news = [] := List.eq_nil_of_length_eq_zero (by rw [hS.newsLen]; simp)
        subst hnil
        exact same (q' := q) (hrun (by rw [hxv]; exact run_append_nothing w t t o.type el i ht hi none 0 0 (Nat.le_refl _) _ hS)) (.raw _ rfl) hq
      · rename_i m
        have hfit := appNew_fits hq
        have hr := run_append_grow_src (P := P) w t t o.type el i z ht hi hz none 0 0 [] (by simp [Builtin.firstCells]) (a.eval y) (m + 1) news hS (by omega) (by rw [Nat.zero_add]; exact app_fits hby hfit) (by rw [Nat.zero_add, nextslicecap_zero (by omega)]; simp only [Nat.succ_eq_add_one] at hfit; omega)
        simp only [Nat.zero_add] at hr
        exact app_new R hU hnx hd (LW.nil (w := w)) hn hzs (by rw [List.nil_append, hS.newsLen]) (grownCap_ge _ _ _ _) (hrun (by rw [hxv]; exact hr)) hq
    · -- no room at all
      obtain ⟨ad, hxv⟩ := rep_emp hxr
      split at hq
      · have hnil : news = [] := List.eq_nil_of_length_eq_zero (by rw [hS.newsLen]; simp)
        subst hnil
        exact same (q' := q) (hrun (by rw [hxv]; exact run_append_nothing w t t o.type el i ht hi (some ad) 0 0 (Nat.le_refl _) _ hS)) (.emp ad) hq
      · rename_i m
        have hfit := appNew_fits hq
        have hr := run_append_grow_src (P := P) w t t o.type el i z ht hi hz (some ad) 0 0 [] (run_firstCells_some w.drew i.size 0 ad 0 0 [] (by simp) fun j v h => by cases h) (a.eval y) (m + 1) news hS (by omega) (by rw [Nat.zero_add]; exact app_fits hby hfit) (by rw [Nat.zero_add, nextslicecap_zero (by omega)]; simp only [Nat.succ_eq_add_one] at hfit; omega)
        simp only [Nat.zero_add] at hr
        exact app_new R hU hnx hd (LW.nil (w := w)) hn hzs (by rw [List.nil_append, hS.newsLen]) (grownCap_ge _ _ _ _) (hrun (by rw [hxv]; exact hr)) hq
    · -- frozen
      rename_i sz' n g
      split at hq
      · split at hq
        · rename_i hsz
          have hsz := Nat.eq_of_beq_eq_true hsz
          have hnil : news = [] := List.eq_nil_of_length_eq_zero (by rw [hS.newsLen]; simp)
          subst hnil
          subst hsz
          obtain ⟨ad, cap, hxv, hle⟩ : ∃ ad cap, a.eval x = .slice ad n cap ∧ n ≤ cap := by
            cases hxe : a.eval x with
            | slice ad len cap =>
              rw [hxe] at hxr
              cases hxr with
              | fro _ _ _ ad cap val hs hx hlt hc => exact ⟨_, _, rfl, hc⟩
              | froNil => exact ⟨_, _, rfl, Nat.le_refl _⟩
              | froZero => exact ⟨_, _, rfl, Nat.zero_le _⟩
            | _ => rw [hxe] at hxr; cases hxr
          exact same (q' := q) (hrun (by rw [hxv]; exact run_append_nothing w t t o.type el i ht hi ad n cap hle _ hS)) (by rw [← hxv]; exact hxr) hq
        · cases hq
      · cases hq
    · -- a row of ours
      rename_i ys sz' off n cap
      split at hq
      · rename_i hsz
        have hsz := Nat.eq_of_beq_eq_true hsz
        subst hsz
        split at hq
        · rename_i cs hs
          obtain ⟨b, hb, vs, t', zz, hh, hzz, hlen, hv⟩ := R.st ys _ hs
          obtain ⟨ad, cc, hxv, hsp, hdd, had⟩ := rep_sl hxr
          obtain ⟨had0, hnc, vs', t'', z'', hh', hroom, hcap⟩ := had b hb
          rw [hh] at hh'; injection hh' with hh'; injection hh' with e1 e2 e3; subst e1; subst e2; subst e3
          -- in place
          have place : ∀ {q' : S → Bool}, n + m ≤ cc → off + (n + m) * i.size ≤ cs.length → appIn ⟨e, h, nx, pr⟩ nm o.dst ys i.size off n m cap cs new q = true → Does P N B G (fun x => U x ∧ x ≠ nm) pr nx φ w a o q := by
            intro q' hle hin hq
            unfold appIn at hq
            obtain ⟨hpr, h', hp, hq⟩ := setB_spec hq
            have hmul : (n + m) * i.size = n * i.size + m * i.size := Nat.add_mul _ _ _
            have hnl : new.length = m * i.size := by rw [hn.1, hS.newsLen]
            obtain ⟨F, H, _⟩ := R.toHeapAt.cells (P := P) (pr := pr) hb hpr hs (off := off + n * i.size) hn.1 (by rw [hnl]; omega) hn.one hn.2 hp
            have hr : (Builtin.append_ #[t, t] o.type #[.slice (some ad) n cc, a.eval y]).run P w = .ok (.slice (some ad) (n + m) cc) (w.setCells b (off + n * i.size) news) := by
              rcases Nat.eq_zero_or_pos cc with h0' | h0'
              · have hm0 : m = 0 := by omega
                subst hm0
                have hnil : news = [] := List.eq_nil_of_length_eq_zero (by rw [hS.newsLen]; simp)
                subst hnil
                exact run_append_nothing w t t o.type el i ht hi (some ad) n cc hnc _ hS
              · rw [had0 h0']
                refine run_append_room_src w t t o.type el i ht hi b off n cc _ m news hS hle (fun j hj => ?_) fun j hj => ?_
                · have hnl' := hS.newsLen
                  rw [cell_of_heap hh]; simp; omega
                · have hnl' := hS.newsLen
                  have hz1 := hzz (off + n * i.size + j) (by omega)
                  simp only [World.frozen?, hh]
                  rw [Bool.eq_false_iff]
                  intro hc
                  simp only [Bool.and_eq_true, decide_eq_true_eq] at hc
                  exact hz1 hc
            have hrep : Rep (w.setCells b (off + n * i.size) news) (Excl B φ) φ (.sl ys i.size off (n + m) cap) (.slice (some ad) (n + m) cc) := .sl _ _ _ _ _ _ _ hsp hdd fun b' hb' => by
              rw [hb] at hb'; injection hb' with hb'; injection hb' with hb'; subst hb'
              exact ⟨had0, Room.mono F.keep ⟨hle, vs, t', zz, hh, hroom, hcap⟩⟩
            exact does_value (hrun (by rw [hxv]; exact hr)) (((out_same (R.step (pr'' := pr) (nx' := nx) F H) hrep hd hq).from F).less fun x hx => hx.1)
          -- what is there
          have hold : ∀ {W : World}, (∀ j, W.cell? ⟨b, j, none⟩ = w.cell? ⟨b, j, none⟩) → ∀ (hcut : off + n * i.size ≤ cs.length), (Builtin.firstCells i.size n (.slice (some ad) n cc)).run P W = .ok ((vs.toList.drop off).take (n * i.size)).toArray W := fun {W} hW hcut => by
            obtain ⟨g1, g2, g3⟩ := cut_lw hv hlen hcut
            refine run_firstCells_some W i.size n ad n cc _ g2 fun j u hu => ?_
            have hj : j < n * i.size := by rw [← g2]; exact (List.getElem?_eq_some_iff.1 hu).1
            have hn0 : 0 < n := by
              rcases Nat.eq_zero_or_pos n with h | h
              · subst h; omega
              · exact h
            rw [had0 (by omega), addr_add _ rfl, hW, cell_of_heap hh]
            exact g3 j u hu
          unfold appSl at hq
          split at hq
          · -- room to the end
            dsimp only at hcap
            split at hq
            · rename_i hin
              have hin := Nat.le_of_ble_eq_true hin
              refine place (q' := q) ?_ hin hq
              rcases Nat.lt_or_ge cc (n + m) with hlt | hge
              · have : (cc + 1) * i.size ≤ (n + m) * i.size := Nat.mul_le_mul_right _ hlt
                rw [Nat.succ_mul] at this; omega
              · exact hge
            · rename_i hin
              split at hq
              · rename_i hc
                simp only [Bool.and_eq_true] at hc
                have hoff := Nat.eq_of_beq_eq_true hc.1
                have hns := Nat.eq_of_beq_eq_true hc.2
                subst hoff
                obtain ⟨hpr, h1, hp1, hq⟩ := setB_spec hq
                have hfit := appNew_fits hq
                unfold appNew at hq
                split at hq
                · simp only [VM.out, forceBlk_eq] at hq
                  obtain ⟨h2, hp2, hq⟩ := T.putK_spec hq
                  obtain ⟨e', he', hq⟩ := setO_spec hq
                  obtain ⟨g1, g2, g3⟩ := cut_lw hv hlen (off := 0) (k := n * i.size) (by omega)
                  have hcut : cut cs 0 (n * i.size) = cs := by unfold cut; rw [hns]; simp
                  rw [hcut] at g1
                  have fin : ∀ {φ' : Loc} {w' : World} {v : Nat} {c' : Nat}, Fwd pr φ w φ' w' → HeapAt B G (fun x => FR U nx x ∧ x ≠ nm) φ' h2 w' → φ' nm = some (some v) → (execOp a.eval o).run P w = .ok (.value (.slice (some ⟨v, 0, none⟩) (n + m) c')) w' → n + m ≤ c' → (∃ vs e z, w'.heap[v]? = some (.cells vs e z) ∧ 0 + c' * i.size = vs.size) →
                      Does P N B G (fun x => U x ∧ x ≠ nm) pr nx φ w a o q := fun {φ' w' v c'} F H hφ hx hle hsz =>
                    does_value hx ⟨_, φ', hq, ((R.step (pr'' := pr) (nx' := nx) F H).put hd (.sl _ _ _ _ _ _ _ rfl (by rw [hφ]; simp) fun b' hb' => by
                      rw [hφ] at hb'; injection hb' with hb'; injection hb' with hb'; subst hb'
                      obtain ⟨vs, e, z, k1, k2⟩ := hsz
                      exact ⟨fun _ => rfl, hle, vs, e, z, k1, by omega, k2⟩) he').less fun x hx => fr_less hnx hx, rfl, Nat.le_refl _, F⟩
                  rcases Nat.lt_or_ge cc (n + m) with hlt | hge
                  · -- a new one
                    have hr := run_append_grow_src (P := P) w t t o.type el i z ht hi hz (some ad) n cc _ (hold (W := w.drew) (fun _ => rfl) (by omega)) (a.eval y) m news hS hlt (app_fits hby hfit) (growslice_fits hlt hfit)
                    have hol : ((vs.toList.drop 0).take (n * i.size) ++ news).length = (n + m) * i.size := by rw [List.length_append, g2, hS.newsLen, Nat.add_mul]
                    obtain ⟨φ', F, H, hφ⟩ := R.toHeapAt.move (pr := pr) hb hpr (nm := nm) (.inl hU) (w' := w.drew.alloc (.cells (((vs.toList.drop 0).take (n * i.size) ++ news).toArray ++ Builtin.zeroCells z.cells (grownCap w (n + m) cc el - (n + m))) el)) (by simp) (fun c _ hc => Below.heap_alloc w.drew _ c hc) rfl rfl rfl
                      (fun cs' e' z' hc => ⟨cs', e', z', (Below.heap_alloc w.drew _ b (heap_lt hc)).trans hc, rfl⟩) (v := w.heap.size) (.inr (Nat.le_refl _)) (by simp) hp1 hp2 (fun φ' hr' hφ => grown_blk g1 hn hr' (drew_alloc_at _ _))
                    exact fin F H hφ (hrun (by rw [hxv]; exact hr)) (grownCap_ge _ _ _ _) ⟨_, _, _, drew_alloc_at _ _, grown_size hzs hol (grownCap_ge _ _ _ _)⟩
                  · -- there is room
                    have hmul : (n + m) * i.size = n * i.size + m * i.size := Nat.add_mul _ _ _
                    have hccm : (n + m) * i.size ≤ cc * i.size := Nat.mul_le_mul_right _ hge
                    have hnl' := hS.newsLen
                    have hin' : ¬ 0 + (n + m) * i.size ≤ cs.length := fun h => by rw [Nat.ble_eq_true_of_le h] at hin; cases hin
                    have h0' : 0 < cc := by
                      rcases Nat.eq_zero_or_pos cc with h | h
                      · subst h
                        have : n + m = 0 := by omega
                        rw [this] at hin'; omega
                      · exact h
                    have hr := run_append_room_src (P := P) w t t o.type el i ht hi b 0 n cc _ m news hS hge (fun j hj => by rw [cell_of_heap hh]; simp; omega) fun j hj => by
                      have hz1 := hzz (0 + n * i.size + j) (by omega)
                      simp only [World.frozen?, hh]
                      rw [Bool.eq_false_iff]
                      intro hc
                      simp only [Bool.and_eq_true, decide_eq_true_eq] at hc
                      exact hz1 hc
                    obtain ⟨k1, k2, k3, k4, k5, k6⟩ := setCells_spec news (0 + n * i.size) w vs hh
                    have hfit' : 0 + n * i.size + news.length ≤ vs.size := by omega
                    obtain ⟨φ', F, H, hφ⟩ := R.toHeapAt.move (pr := pr) hb hpr (nm := nm) (.inl hU) (w' := w.setCells b (0 + n * i.size) news) (Nat.le_of_eq k1.symm) (fun c hc _ => k2 c hc) k3 k4 k5
                      (fun cs' e' z' hc => ⟨_, _, _, k6, by rw [setL_size]; rw [hh] at hc; injection hc with hc; injection hc with hc; rw [hc]⟩) (v := b) (.inl rfl) (by rw [k1]; exact heap_lt hh) hp1 hp2 (fun φ' hr' hφ => by
                        refine ⟨_, t', zz, k6, by rw [setL_size]; exact hzz, by rw [setL_size, List.length_append, hn.1]; omega, fun j c u h1 h2 => ?_⟩
                        rw [setL_get _ _ _ _ hfit'] at h2
                        by_cases hj : j < cs.length
                        · rw [List.getElem?_append_left hj] at h1
                          rw [if_neg (by omega)] at h2
                          have := hv _ _ _ h1 h2
                          exact ⟨hr' _ _ this.1, this.2⟩
                        · rw [List.getElem?_append_right (by omega)] at h1
                          have hj2 : j - cs.length < new.length := (List.getElem?_eq_some_iff.1 h1).1
                          rw [hn.1] at hj2
                          rw [if_pos (by omega), show j - (0 + n * i.size) = j - cs.length from by omega] at h2
                          have := hn.2 _ _ _ h1 h2
                          exact ⟨hr' _ _ this.1, this.2⟩)
                    exact fin F H hφ (hrun (by rw [hxv, had0 h0']; exact hr)) hge ⟨_, _, _, k6, by rw [setL_size]; exact hcap⟩
                · cases hq
              · cases hq
          · -- so much room
            rename_i c
            dsimp only at hcap
            subst hcap
            split at hq
            · rename_i hle
              split at hq
              · rename_i hin
                exact place (q' := q) (Nat.le_of_ble_eq_true hle) (Nat.le_of_ble_eq_true hin) hq
              · cases hq
            · rename_i hle
              split at hq
              · rename_i hcut
                have hcut := Nat.le_of_ble_eq_true hcut
                have hlt : cc < n + m := by
                  rcases Nat.lt_or_ge cc (n + m) with h | h
                  · exact h
                  · rw [Nat.ble_eq_true_of_le h] at hle; cases hle
                have hfit := appNew_fits hq
                obtain ⟨g1, g2, g3⟩ := cut_lw hv hlen hcut
                have hr := run_append_grow_src (P := P) w t t o.type el i z ht hi hz (some ad) n cc _ (hold (W := w.drew) (fun _ => rfl) hcut) (a.eval y) m news hS hlt (app_fits hby hfit) (growslice_fits hlt hfit)
                exact app_new R hU hnx hd g1 hn hzs (by rw [List.length_append, g2, hS.newsLen, Nat.add_mul]) (grownCap_ge _ _ _ _) (hrun (by rw [hxv]; exact hr)) hq
              · cases hq
        · cases hq
      · cases hq
    · cases hq
  · cases hq

end
end Go.VM
