/- Texts of a proof, joined. -/
import Derived.Laws.IdiomStrings
import Derived.LoopN
import Derived.Lib.IndexMore
import Derived.WalkKit
import Derived.ProofKit
import Derived.OpenShut
import Derived.Carry
import Derived.ChangeSame
import Derived.HandedShaped
import Derived.Shelf.Vars
import Derived.Test.YtddfajkgaomnhaaGreatRows
import Derived.Test.YtddfajkgaomnhaaGreatQ1
set_option linter.unusedVariables false
set_option linter.unusedSectionVars false
set_option linter.unusedSimpArgs false
set_option linter.constructorNameAsVariable false
section
/- The machine VM, part 11: append, whole. -/
set_option linter.unusedVariables false
set_option linter.unusedSectionVars false
set_option linter.unusedSimpArgs false
set_option linter.constructorNameAsVariable false
namespace Go.VM
open Go.RowKit
variable [Val]

section
variable {P : Program} {ty : TypeId} {N : Nat} {B : Nat → Prop} {G : Nat → Nat → Value → Prop} {fr U : Nat → Prop} {φ : Loc} {a : Act} {w : World} {e : T V} {h : Heap} {nx : Nat} {pr : List Nat}
variable {o : Oper} {nm : Nat} {q : S → Bool}

/-- what a grown row holds -/
theorem grown_blk {X : Nat → Prop} {olds news : List Value} {old new : List V} (ho : LW w X φ old olds) (hn : LW w X φ new news) {rest : Array Value} {t : TypeId} {φ' : Loc} {X' : Nat → Prop} {w' : World} (hr : ∀ c v, Rep w X φ c v → Rep w' X' φ' c v) {b : Nat} (hb : w'.heap[b]? = some (.cells ((olds ++ news).toArray ++ rest) t)) :
    BlkAt w' X' φ' b (.cells (old ++ new)) := by
  have hA := (ho.append hn).mono hr
  refine ⟨_, t, (0, 0), hb, fun i _ => by omega, ?_, fun i c v h1 h2 => ?_⟩
  · rw [hA.1]; simp
  · have hi : i < (olds ++ news).length := by rw [← hA.1]; exact (List.getElem?_eq_some_iff.1 h1).1
    refine hA.2 i c v h1 ?_
    rw [Array.getElem?_append_left (by simpa using hi)] at h2
    simpa using h2

theorem grown_size {olds news : List Value} {z : Array Value} {sz n gc : Nat} (hz : z.size = sz) (hl : (olds ++ news).length = n * sz) (hge : n ≤ gc) : 0 + gc * sz = ((olds ++ news).toArray ++ Builtin.zeroCells z (gc - n)).size := by
  rw [Array.size_append, zeros_size, hz, List.size_toArray, hl, ← Nat.add_mul, Nat.zero_add]
  congr 1; omega

/-- into a new row -/
theorem app_new (R : RelAt N B G (FR U nx) φ ⟨e, h, nx, pr⟩ a w) (hU : U nm) (hnx : nm < nx) (hd : ∀ d, o.dst = some d → d < N) {olds news : List Value} {old new : List V} (ho : LW w (Excl B φ) φ old olds) (hn : LW w (Excl B φ) φ new news) {z : Array Value} {sz bytes n gc : Nat} (hz : z.size = sz) (hl : (olds ++ news).length = n * sz) (hge : n ≤ gc) {t : TypeId}
    (hx : (execOp a.eval o).run P w = .ok (.value (.slice (some ⟨w.heap.size, 0, none⟩) n gc)) (w.drew.alloc (.cells ((olds ++ news).toArray ++ Builtin.zeroCells z (gc - n)) t)))
    (hq : appNew ⟨e, h, nx, pr⟩ nm o.dst sz bytes old new n q = true) : Does P N B G (fun x => U x ∧ x ≠ nm) pr nx φ w a o q := by
  unfold appNew at hq
  split at hq
  · refine does_value hx (out_new R hU hnx (w' := w.drew.alloc (.cells ((olds ++ news).toArray ++ Builtin.zeroCells z (gc - n)) t)) (n := w.heap.size) (by simp) (fun b hb => ?_) rfl rfl rfl ⟨Nat.le_refl _, by simp⟩ (fun φ' hr hφ => grown_blk ho hn hr (drew_alloc_at _ _)) (fun φ' hr hφ => ?_) hd hq)
    · exact Below.heap_alloc w.drew _ b hb
    · refine .sl _ _ _ _ _ _ _ rfl (by rw [hφ]; simp) fun b hb => ?_
      rw [hφ] at hb; injection hb with hb; injection hb with hb; subst hb
      exact ⟨fun _ => rfl, hge, _, t, (0, 0), drew_alloc_at _ _, by rw [grown_size hz hl hge]; exact Nat.le_refl _, grown_size hz hl hge⟩
  · cases hq

theorem app_fits {n bytes : Nat} (hb : 0 < bytes) (h : n * bytes ≤ 140737488355328) : ((n : Nat) : Int) ≤ 9223372036854775807 := by
  have : n * 1 ≤ n * bytes := Nat.mul_le_mul_left n hb
  omega

theorem appNew_fits {s : S} {dst : Option Nat} {sz bytes n : Nat} {old new : List V} (hq : appNew s nm dst sz bytes old new n q = true) : n * bytes ≤ 140737488355328 := by
  unfold appNew at hq
  split at hq
  · rename_i h; exact Nat.le_of_ble_eq_true h
  · cases hq

theorem e_app {t el : TypeId} {x y : Operand} {c : Call} (hcl : c.callee = .builtin .append) (hca : c.args = #[x, y]) (hct : c.argTypes = #[t, t]) (ho : o.op = .call c) (ht : P.underlying t = some (.slice el)) {i : TypeInfo} (hi : P.info? el = some i) {z : Value} (hz : i.zero = some z) (hzs : z.cells.size = i.size) (h0 : 0 < i.size) (hby : 0 < i.bytes)
    (hU : U nm) (hnx : nm < nx) (hd : ∀ d, o.dst = some d → d < N) (hq : evApp1 ⟨e, h, nx, pr⟩ nm o.dst i.size i.bytes q (VM.opd e (tOpd x)) (elemsO h i.size (VM.opd e (tOpd y))) = true) (R : RelAt N B G (FR U nx) φ ⟨e, h, nx, pr⟩ a w) :
    Does P N B G (fun x => U x ∧ x ≠ nm) pr nx φ w a o q := by
  have hrun : ∀ {v : Value} {w' : World}, (Builtin.append_ #[t, t] o.type #[a.eval x, a.eval y]).run P w = .ok v w' → (execOp a.eval o).run P w = .ok (.value v) w' := fun hr => by
    simp [execOp, ho, resolve, invoke, builtin, hcl, hca, hct, hr]
  have same : ∀ {cv : V} {v : Value} {q' : S → Bool}, (execOp a.eval o).run P w = .ok (.value v) w → Rep w (Excl B φ) φ cv v → VM.out ⟨e, h, nx, pr⟩ o.dst nm cv none q = true → Does P N B G (fun x => U x ∧ x ≠ nm) pr nx φ w a o q := fun hx hr hq =>
    does_value hx ((out_same R hr hd hq).less fun x hx => hx.1)
  unfold evApp1 at hq
  split at hq
  · rename_i cv m new hx hy
    cases hyo : VM.opd e (tOpd y) with
    | none => rw [hyo] at hy; cases hy
    | some cy =>
    rw [hyo] at hy
    obtain ⟨news, hS, hn⟩ := elems_spec (P := P) R ht h0 hy (R.opd hyo)
    have hxr := R.opd hx
    unfold evApp at hq
    split at hq
    · -- nil
      have hxv := (rep_raw hxr).1
      split at hq
      · have hnil : news = [] := List.eq_nil_of_length_eq_zero (by rw [hS.newsLen]; simp)
        subst hnil
        exact same (q' := q) (hrun (by rw [hxv]; exact run_append_nothing w t t o.type el i ht hi none 0 0 (Nat.le_refl _) _ hS)) (.raw _ rfl) hq
      · rename_i m
        have hfit := appNew_fits hq
        have hr := run_append_grow_src (P := P) w t t o.type el i z ht hi hz none 0 0 [] (by simp [Builtin.firstCells]) (a.eval y) (m + 1) news hS (by omega) (by rw [Nat.zero_add]; exact app_fits hby hfit) (by rw [Nat.zero_add, nextslicecap_zero (by omega)]; simp only [Nat.succ_eq_add_one] at hfit; omega)
        simp only [Nat.zero_add] at hr
        exact app_new R hU hnx hd (LW.nil (w := w)) hn hzs (by rw [List.nil_append, hS.newsLen]) (grownCap_ge _ _ _ _) (hrun (by rw [hxv]; exact hr)) hq
    · -- no room at all
      obtain ⟨ad, hxv⟩ := rep_emp hxr
      split at hq
      · have hnil : news = [] := List.eq_nil_of_length_eq_zero (by rw [hS.newsLen]; simp)
        subst hnil
        exact same (q' := q) (hrun (by rw [hxv]; exact run_append_nothing w t t o.type el i ht hi (some ad) 0 0 (Nat.le_refl _) _ hS)) (.emp ad) hq
      · rename_i m
        have hfit := appNew_fits hq
        have hr := run_append_grow_src (P := P) w t t o.type el i z ht hi hz (some ad) 0 0 [] (run_firstCells_some w.drew i.size 0 ad 0 0 [] (by simp) fun j v h => by cases h) (a.eval y) (m + 1) news hS (by omega) (by rw [Nat.zero_add]; exact app_fits hby hfit) (by rw [Nat.zero_add, nextslicecap_zero (by omega)]; simp only [Nat.succ_eq_add_one] at hfit; omega)
        simp only [Nat.zero_add] at hr
        exact app_new R hU hnx hd (LW.nil (w := w)) hn hzs (by rw [List.nil_append, hS.newsLen]) (grownCap_ge _ _ _ _) (hrun (by rw [hxv]; exact hr)) hq
    · -- frozen
      rename_i sz' n g
      split at hq
      · split at hq
        · rename_i hsz
          have hsz := Nat.eq_of_beq_eq_true hsz
          have hnil : news = [] := List.eq_nil_of_length_eq_zero (by rw [hS.newsLen]; simp)
          subst hnil
          subst hsz
          obtain ⟨ad, cap, hxv, hle⟩ : ∃ ad cap, a.eval x = .slice ad n cap ∧ n ≤ cap := by
            cases hxe : a.eval x with
            | slice ad len cap =>
              rw [hxe] at hxr
              cases hxr with
              | fro _ _ _ ad cap val hs hx hlt hc => exact ⟨_, _, rfl, hc⟩
              | froNil => exact ⟨_, _, rfl, Nat.le_refl _⟩
              | froZero => exact ⟨_, _, rfl, Nat.zero_le _⟩
            | _ => rw [hxe] at hxr; cases hxr
          exact same (q' := q) (hrun (by rw [hxv]; exact run_append_nothing w t t o.type el i ht hi ad n cap hle _ hS)) (by rw [← hxv]; exact hxr) hq
        · cases hq
      · cases hq
    · -- a row of ours
      rename_i ys sz' off n cap
      split at hq
      · rename_i hsz
        have hsz := Nat.eq_of_beq_eq_true hsz
        subst hsz
        split at hq
        · rename_i cs hs
          obtain ⟨b, hb, vs, t', zz, hh, hzz, hlen, hv⟩ := R.st ys _ hs
          obtain ⟨ad, cc, hxv, hsp, hdd, had⟩ := rep_sl hxr
          obtain ⟨had0, hnc, vs', t'', z'', hh', hroom, hcap⟩ := had b hb
          rw [hh] at hh'; injection hh' with hh'; injection hh' with e1 e2 e3; subst e1; subst e2; subst e3
          -- in place
          have place : ∀ {q' : S → Bool}, n + m ≤ cc → off + (n + m) * i.size ≤ cs.length → appIn ⟨e, h, nx, pr⟩ nm o.dst ys i.size off n m cap cs new q = true → Does P N B G (fun x => U x ∧ x ≠ nm) pr nx φ w a o q := by
            intro q' hle hin hq
            unfold appIn at hq
            obtain ⟨hpr, h', hp, hq⟩ := setB_spec hq
            have hmul : (n + m) * i.size = n * i.size + m * i.size := Nat.add_mul _ _ _
            have hnl : new.length = m * i.size := by rw [hn.1, hS.newsLen]
            obtain ⟨F, H, _⟩ := R.toHeapAt.cells (P := P) (pr := pr) hb hpr hs (off := off + n * i.size) hn.1 (by rw [hnl]; omega) hn.one hn.2 hp
            have hr : (Builtin.append_ #[t, t] o.type #[.slice (some ad) n cc, a.eval y]).run P w = .ok (.slice (some ad) (n + m) cc) (w.setCells b (off + n * i.size) news) := by
              rcases Nat.eq_zero_or_pos cc with h0' | h0'
              · have hm0 : m = 0 := by omega
                subst hm0
                have hnil : news = [] := List.eq_nil_of_length_eq_zero (by rw [hS.newsLen]; simp)
                subst hnil
                exact run_append_nothing w t t o.type el i ht hi (some ad) n cc hnc _ hS
              · rw [had0 h0']
                refine run_append_room_src w t t o.type el i ht hi b off n cc _ m news hS hle (fun j hj => ?_) fun j hj => ?_
                · have hnl' := hS.newsLen
                  rw [cell_of_heap hh]; simp; omega
                · have hnl' := hS.newsLen
                  have hz1 := hzz (off + n * i.size + j) (by omega)
                  simp only [World.frozen?, hh]
                  rw [Bool.eq_false_iff]
                  intro hc
                  simp only [Bool.and_eq_true, decide_eq_true_eq] at hc
                  exact hz1 hc
            have hrep : Rep (w.setCells b (off + n * i.size) news) (Excl B φ) φ (.sl ys i.size off (n + m) cap) (.slice (some ad) (n + m) cc) := .sl _ _ _ _ _ _ _ hsp hdd fun b' hb' => by
              rw [hb] at hb'; injection hb' with hb'; injection hb' with hb'; subst hb'
              exact ⟨had0, Room.mono F.keep ⟨hle, vs, t', zz, hh, hroom, hcap⟩⟩
            exact does_value (hrun (by rw [hxv]; exact hr)) (((out_same (R.step (pr'' := pr) (nx' := nx) F H) hrep hd hq).from F).less fun x hx => hx.1)
          -- what is there
          have hold : ∀ {W : World}, (∀ j, W.cell? ⟨b, j, none⟩ = w.cell? ⟨b, j, none⟩) → ∀ (hcut : off + n * i.size ≤ cs.length), (Builtin.firstCells i.size n (.slice (some ad) n cc)).run P W = .ok ((vs.toList.drop off).take (n * i.size)).toArray W := fun {W} hW hcut => by
            obtain ⟨g1, g2, g3⟩ := cut_lw hv hlen hcut
            refine run_firstCells_some W i.size n ad n cc _ g2 fun j u hu => ?_
            have hj : j < n * i.size := by rw [← g2]; exact (List.getElem?_eq_some_iff.1 hu).1
            have hn0 : 0 < n := by
              rcases Nat.eq_zero_or_pos n with h | h
              · subst h; omega
              · exact h
            rw [had0 (by omega), addr_add _ rfl, hW, cell_of_heap hh]
            exact g3 j u hu
          unfold appSl at hq
          split at hq
          · -- room to the end
            dsimp only at hcap
            split at hq
            · rename_i hin
              have hin := Nat.le_of_ble_eq_true hin
              refine place (q' := q) ?_ hin hq
              rcases Nat.lt_or_ge cc (n + m) with hlt | hge
              · have : (cc + 1) * i.size ≤ (n + m) * i.size := Nat.mul_le_mul_right _ hlt
                rw [Nat.succ_mul] at this; omega
              · exact hge
            · rename_i hin
              split at hq
              · rename_i hc
                simp only [Bool.and_eq_true] at hc
                have hoff := Nat.eq_of_beq_eq_true hc.1
                have hns := Nat.eq_of_beq_eq_true hc.2
                subst hoff
                obtain ⟨hpr, h1, hp1, hq⟩ := setB_spec hq
                have hfit := appNew_fits hq
                unfold appNew at hq
                split at hq
                · simp only [VM.out, forceBlk_eq] at hq
                  obtain ⟨h2, hp2, hq⟩ := T.putK_spec hq
                  obtain ⟨e', he', hq⟩ := setO_spec hq
                  obtain ⟨g1, g2, g3⟩ := cut_lw hv hlen (off := 0) (k := n * i.size) (by omega)
                  have hcut : cut cs 0 (n * i.size) = cs := by unfold cut; rw [hns]; simp
                  rw [hcut] at g1
                  have fin : ∀ {φ' : Loc} {w' : World} {v : Nat} {c' : Nat}, Fwd pr φ w φ' w' → HeapAt B G (fun x => FR U nx x ∧ x ≠ nm) φ' h2 w' → φ' nm = some (some v) → (execOp a.eval o).run P w = .ok (.value (.slice (some ⟨v, 0, none⟩) (n + m) c')) w' → n + m ≤ c' → (∃ vs e z, w'.heap[v]? = some (.cells vs e z) ∧ 0 + c' * i.size = vs.size) →
                      Does P N B G (fun x => U x ∧ x ≠ nm) pr nx φ w a o q := fun {φ' w' v c'} F H hφ hx hle hsz =>
                    does_value hx ⟨_, φ', hq, ((R.step (pr'' := pr) (nx' := nx) F H).put hd (.sl _ _ _ _ _ _ _ rfl (by rw [hφ]; simp) fun b' hb' => by
                      rw [hφ] at hb'; injection hb' with hb'; injection hb' with hb'; subst hb'
                      obtain ⟨vs, e, z, k1, k2⟩ := hsz
                      exact ⟨fun _ => rfl, hle, vs, e, z, k1, by omega, k2⟩) he').less fun x hx => fr_less hnx hx, rfl, Nat.le_refl _, F⟩
                  rcases Nat.lt_or_ge cc (n + m) with hlt | hge
                  · -- a new one
                    have hr := run_append_grow_src (P := P) w t t o.type el i z ht hi hz (some ad) n cc _ (hold (W := w.drew) (fun _ => rfl) (by omega)) (a.eval y) m news hS hlt (app_fits hby hfit) (growslice_fits hlt hfit)
                    have hol : ((vs.toList.drop 0).take (n * i.size) ++ news).length = (n + m) * i.size := by rw [List.length_append, g2, hS.newsLen, Nat.add_mul]
                    obtain ⟨φ', F, H, hφ⟩ := R.toHeapAt.move (pr := pr) hb hpr (nm := nm) (.inl hU) (w' := w.drew.alloc (.cells (((vs.toList.drop 0).take (n * i.size) ++ news).toArray ++ Builtin.zeroCells z.cells (grownCap w (n + m) cc el - (n + m))) el)) (by simp) (fun c _ hc => Below.heap_alloc w.drew _ c hc) rfl rfl rfl
                      (fun cs' e' z' hc => ⟨cs', e', z', (Below.heap_alloc w.drew _ b (heap_lt hc)).trans hc, rfl⟩) (v := w.heap.size) (.inr (Nat.le_refl _)) (by simp) hp1 hp2 (fun φ' hr' hφ => grown_blk g1 hn hr' (drew_alloc_at _ _))
                    exact fin F H hφ (hrun (by rw [hxv]; exact hr)) (grownCap_ge _ _ _ _) ⟨_, _, _, drew_alloc_at _ _, grown_size hzs hol (grownCap_ge _ _ _ _)⟩
                  · -- there is room
                    have hmul : (n + m) * i.size = n * i.size + m * i.size := Nat.add_mul _ _ _
                    have hccm : (n + m) * i.size ≤ cc * i.size := Nat.mul_le_mul_right _ hge
                    have hnl' := hS.newsLen
                    have hin' : ¬ 0 + (n + m) * i.size ≤ cs.length := fun h => by rw [Nat.ble_eq_true_of_le h] at hin; cases hin
                    have h0' : 0 < cc := by
                      rcases Nat.eq_zero_or_pos cc with h | h
                      · subst h
                        have : n + m = 0 := by omega
                        rw [this] at hin'; omega
                      · exact h
                    have hr := run_append_room_src (P := P) w t t o.type el i ht hi b 0 n cc _ m news hS hge (fun j hj => by rw [cell_of_heap hh]; simp; omega) fun j hj => by
                      have hz1 := hzz (0 + n * i.size + j) (by omega)
                      simp only [World.frozen?, hh]
                      rw [Bool.eq_false_iff]
                      intro hc
                      simp only [Bool.and_eq_true, decide_eq_true_eq] at hc
                      exact hz1 hc
                    obtain ⟨k1, k2, k3, k4, k5, k6⟩ := setCells_spec news (0 + n * i.size) w vs hh
                    have hfit' : 0 + n * i.size + news.length ≤ vs.size := by omega
                    obtain ⟨φ', F, H, hφ⟩ := R.toHeapAt.move (pr := pr) hb hpr (nm := nm) (.inl hU) (w' := w.setCells b (0 + n * i.size) news) (Nat.le_of_eq k1.symm) (fun c hc _ => k2 c hc) k3 k4 k5
                      (fun cs' e' z' hc => ⟨_, _, _, k6, by rw [setL_size]; rw [hh] at hc; injection hc with hc; injection hc with hc; rw [hc]⟩) (v := b) (.inl rfl) (by rw [k1]; exact heap_lt hh) hp1 hp2 (fun φ' hr' hφ => by
                        refine ⟨_, t', zz, k6, by rw [setL_size]; exact hzz, by rw [setL_size, List.length_append, hn.1]; omega, fun j c u h1 h2 => ?_⟩
                        rw [setL_get _ _ _ _ hfit'] at h2
                        by_cases hj : j < cs.length
                        · rw [List.getElem?_append_left hj] at h1
                          rw [if_neg (by omega)] at h2
                          have := hv _ _ _ h1 h2
                          exact ⟨hr' _ _ this.1, this.2⟩
                        · rw [List.getElem?_append_right (by omega)] at h1
                          have hj2 : j - cs.length < new.length := (List.getElem?_eq_some_iff.1 h1).1
                          rw [hn.1] at hj2
                          rw [if_pos (by omega), show j - (0 + n * i.size) = j - cs.length from by omega] at h2
                          have := hn.2 _ _ _ h1 h2
                          exact ⟨hr' _ _ this.1, this.2⟩)
                    exact fin F H hφ (hrun (by rw [hxv, had0 h0']; exact hr)) hge ⟨_, _, _, k6, by rw [setL_size]; exact hcap⟩
                · cases hq
              · cases hq
          · -- so much room
            rename_i c
            dsimp only at hcap
            subst hcap
            split at hq
            · rename_i hle
              split at hq
              · rename_i hin
                exact place (q' := q) (Nat.le_of_ble_eq_true hle) (Nat.le_of_ble_eq_true hin) hq
              · cases hq
            · rename_i hle
              split at hq
              · rename_i hcut
                have hcut := Nat.le_of_ble_eq_true hcut
                have hlt : cc < n + m := by
                  rcases Nat.lt_or_ge cc (n + m) with h | h
                  · exact h
                  · rw [Nat.ble_eq_true_of_le h] at hle; cases hle
                have hfit := appNew_fits hq
                obtain ⟨g1, g2, g3⟩ := cut_lw hv hlen hcut
                have hr := run_append_grow_src (P := P) w t t o.type el i z ht hi hz (some ad) n cc _ (hold (W := w.drew) (fun _ => rfl) hcut) (a.eval y) m news hS hlt (app_fits hby hfit) (growslice_fits hlt hfit)
                exact app_new R hU hnx hd g1 hn hzs (by rw [List.length_append, g2, hS.newsLen, Nat.add_mul]) (grownCap_ge _ _ _ _) (hrun (by rw [hxv]; exact hr)) hq
              · cases hq
        · cases hq
      · cases hq
    · cases hq
  · cases hq

end
end Go.VM
end

section
/- The machine VM, part 12: bytes and texts; calls; all operations. -/
set_option linter.unusedVariables false
set_option linter.unusedSectionVars false
set_option linter.unusedSimpArgs false
set_option linter.constructorNameAsVariable false
namespace Go.VM
open Go.RowKit
variable [Val]

/-- What is asked of calls. -/
def CallOk (P : Program) (G : Nat → Nat → Value → Prop) (call : Calling) : Prop := ∀ (g : Nat) (args : List V) (h : Heap) (nx : Nat) (pr : List Nat) (q : V → Heap → Nat → Bool), call g args h nx pr q = true →
  (∃ fn, P.funcs[g]? = some fn ∧ (fn.name == "runtime.NumGoroutine") = false ∧ fn.body.isNone = false) ∧
  ∀ (B : Nat → Prop) (U : Nat → Prop) (φ : Loc) (w : World) (vals : List Value), HeapAt B G (FR U nx) φ h w → (∀ x, U x → x < nx) → args.length = vals.length →
    (∀ (i : Nat) (c : V) (v : Value), args[i]? = some c → vals[i]? = some v → Rep w (Excl B φ) φ c v) →
    Calls P g vals.toArray w fun e w' => ∃ v c φ' h' nx', e = .returned v ∧ q c h' nx' = true ∧ HeapAt B G (FR U nx') φ' h' w' ∧ nx ≤ nx' ∧ Fwd pr φ w φ' w' ∧ Rep w' (Excl B φ') φ' c v

section
variable {P : Program} {ty : TypeId} {N : Nat} {B : Nat → Prop} {G : Nat → Nat → Value → Prop} {fr U : Nat → Prop} {φ : Loc} {a : Act} {w : World} {e : T V} {h : Heap} {nx : Nat} {pr : List Nat}
variable {o : Oper} {nm : Nat} {q : S → Bool}

theorem cellsOf_get : ∀ {l : List Nat} {i : Nat} {c : V}, (cellsOf l)[i]? = some c → ∃ b, l[i]? = some b ∧ c = .raw (.int .u8 (b : Int))
  | [], i, c, h => by cases h
  | b :: l, i, c, h => by
    cases i with
    | zero => simp [cellsOf] at h; exact ⟨b, rfl, h.symm⟩
    | succ i => simp only [cellsOf, List.getElem?_cons_succ] at h ⊢; exact cellsOf_get h
theorem cellsOf_len : ∀ (l : List Nat), (cellsOf l).length = l.length
  | [] => rfl
  | b :: l => by simp [cellsOf, cellsOf_len l]

theorem e_bytes {t d el : TypeId} {x : Operand} (ho : o.op = .convert t d x) (ht : P.underlying t = some .string) (hdt : P.underlying d = some (.slice el)) (hel : P.underlying el = some (.int .u8)) (hU : U nm) (hnx : nm < nx) (hd : ∀ d, o.dst = some d → d < N)
    (hq : evBytes ⟨e, h, nx, pr⟩ nm o.dst q (VM.opd e (tOpd x)) = true) (R : RelAt N B G (FR U nx) φ ⟨e, h, nx, pr⟩ a w) : Does P N B G (fun x => U x ∧ x ≠ nm) pr nx φ w a o q := by
  unfold evBytes at hq
  split at hq
  · rename_i t' hx
    obtain ⟨s, hv, hs⟩ := rep_str (R.opd hx)
    have hlen : t'.length = s.size := by rw [← hs]; simp
    have hge := grownCap_ge w s.size 0 el
    have hsz : (bytesRow s (grownCap w s.size 0 el)).size = grownCap w s.size 0 el := by
      have : s.data.size = s.size := rfl
      simp only [bytesRow, Array.size_append, Array.size_map, Array.size_replicate]
      omega
    refine does_value (u := .slice (some ⟨w.heap.size, 0, none⟩) s.size (grownCap w s.size 0 el)) (w' := w.drew.alloc (.cells (bytesRow s (grownCap w s.size 0 el)) el ((bytesRow s (grownCap w s.size 0 el)).size, (bytesRow s (grownCap w s.size 0 el)).size + 1))) ?_
      (out_new R hU hnx (w' := w.drew.alloc (.cells (bytesRow s (grownCap w s.size 0 el)) el ((bytesRow s (grownCap w s.size 0 el)).size, (bytesRow s (grownCap w s.size 0 el)).size + 1))) (n := w.heap.size) (by simp) (fun b hb => Below.heap_alloc w.drew _ b hb) rfl rfl rfl ⟨Nat.le_refl _, by simp⟩ (fun φ' hr hφ => ?_) (fun φ' hr hφ => ?_) hd hq)
    · have := run_bytes_of_string (P := P) w t d el s ht hdt hel
      simp [execOp, ho, hv, this]
    · refine ⟨_, _, _, drew_alloc_at _ _, fun i hi => by omega, by rw [cellsOf_len, hsz]; omega, fun i c v h1 h2 => ?_⟩
      obtain ⟨b, hb, rfl⟩ := cellsOf_get h1
      rw [← hs] at hb
      simp only [List.getElem?_map] at hb
      obtain ⟨u, hu, rfl⟩ := Option.map_eq_some_iff.1 hb
      have hi : i < s.data.size := by have := (List.getElem?_eq_some_iff.1 hu).1; simpa using this
      unfold bytesRow at h2
      rw [Array.getElem?_append_left (by simpa using hi)] at h2
      simp only [Array.getElem?_map] at h2
      have hu' : s.data[i]? = some u := by simpa using hu
      rw [hu'] at h2
      injection h2 with h2
      subst h2
      exact ⟨mk_i, rfl⟩
    · rw [hlen]
      refine .sl _ _ _ _ _ _ _ rfl (by rw [hφ]; simp) fun b hb => ?_
      rw [hφ] at hb; injection hb with hb; injection hb with hb; subst hb
      exact ⟨fun _ => rfl, hge, _, _, _, drew_alloc_at _ _, by rw [hsz]; omega, by dsimp only; rw [hsz]; omega⟩
  · cases hq

theorem bytesOf_spec {X : Nat → Prop} : ∀ {cs : List V} {vs : List Value} {t : List Nat}, bytesOf cs = some t → LW w X φ cs vs → ∃ l : List UInt8, l.map UInt8.toNat = t ∧ vs = l.map fun b => Value.int .u8 (b.toNat : Int)
  | [], vs, t, h, hl => by
    simp only [bytesOf, Option.some.injEq] at h
    subst h
    exact ⟨[], rfl, List.eq_nil_of_length_eq_zero hl.1.symm⟩
  | c :: cs, [], t, h, hl => by cases hl.1
  | c :: cs, v :: vs, t, h, hl => by
    unfold bytesOf at h
    split at h
    · rename_i heq; cases heq
    · rename_i n r heq
      injection heq with h1 h2
      subst h1; subst h2
      split at h
      · rename_i l hn hl'
        injection h with h
        subst h
        have hn : n < 256 := Nat.le_of_ble_eq_true hn
        obtain ⟨l', h3, h4⟩ := bytesOf_spec (vs := vs) hl' ⟨by have := hl.1; simpa using this, fun i c v g1 g2 => hl.2 (i + 1) c v (by simpa using g1) (by simpa using g2)⟩
        have hv := rep_i (hl.2 0 _ v rfl rfl).1
        have hto : (UInt8.ofNat n).toNat = n := by simp [UInt8.toNat_ofNat]; omega
        exact ⟨UInt8.ofNat n :: l', by simp only [List.map_cons, h3, hto], by simp only [List.map_cons, hto, h4, hv]; rfl⟩
      · cases h
    · cases h

theorem e_text {t d el : TypeId} {x : Operand} (ho : o.op = .convert t d x) (ht : P.underlying t = some (.slice el)) (hdt : P.underlying d = some .string) (hel : P.underlying el = some (.int .u8)) (hd : ∀ d, o.dst = some d → d < N)
    (hq : evText ⟨e, h, nx, pr⟩ nm o.dst q (elemsO h 1 (VM.opd e (tOpd x))) = true) (R : RelAt N B G (FR U nx) φ ⟨e, h, nx, pr⟩ a w) : Does P N B G (fun x => U x ∧ x ≠ nm) pr nx φ w a o q := by
  unfold evText at hq
  split at hq
  · rename_i m cs hy
    cases hxo : VM.opd e (tOpd x) with
    | none => rw [hxo] at hy; cases hy
    | some cx =>
    rw [hxo] at hy
    obtain ⟨news, hS, hn⟩ := elems_spec (P := P) R ht (by omega) hy (R.opd hxo)
    unfold evText2 at hq
    split at hq
    · rename_i t' ht'
      obtain ⟨l, hl, hvs⟩ := bytesOf_spec ht' hn
      have hm : l.length = m := by have := hS.newsLen; rw [hvs] at this; simpa using this
      have hrep : Rep w (Excl B φ) φ (.str t') (.string ⟨l.toArray⟩) := .str _ _ (by simpa using hl)
      refine does_value (u := .string ⟨l.toArray⟩) (w' := w) ?_ ((out_same R hrep hd hq).less fun x hx => hx.1)
      have hconv : (convert t d (a.eval x)).run P w = .ok (.string ⟨l.toArray⟩) w := by
        have hlen := hS.len w
        have hcells := hS.cells
        cases hv : a.eval x with
        | slice ad n c =>
          rw [hv] at hlen hcells
          have hnm : n = m := by
            simp only [Builtin.lenOf, Sem.run_pure] at hlen
            injection hlen
          subst hnm
          rw [run_convert_bytes_string w t d el ad n c ht hel hdt]
          cases ad with
          | none =>
            have hr := R.opd hxo
            simp only [Builtin.firstCells, Sem.run_pure] at hcells
            injection hcells with hcells
            have : news = [] := by simpa using congrArg Array.toList hcells.symm
            rw [this] at hvs
            have : l = [] := by simpa using hvs.symm
            subst this
            simp [Conv.bytesToString]
            rfl
          | some ad =>
            have hlc : (loadCells ad n).run P w = .ok ((l.map fun b => (b.toNat : Int)).map (Value.int .u8)).toArray w := by
              simp only [Builtin.firstCells, Nat.mul_one] at hcells
              rw [hcells, hvs, List.map_map]
              rfl
            rw [run_bytesToString w ad n c _ hlc, foldl_push_byteCells]
            congr 2
            show (ByteArray.mk _) = _
            simp
        | string s =>
          exfalso
          have hr := R.opd hxo
          rw [hv] at hr
          cases hr <;> first | (cases hy; done) | (simp [elems] at hy; done)
        | _ => rw [hv] at hlen; simp [Builtin.lenOf] at hlen
      simp [execOp, ho, hconv]
    · cases hq
  · cases hq

theorem e_call (call : Calling) (hcall : CallOk P G call) {c : Call} {f : Operand} (hcl : c.callee = .value f) (ho : o.op = .call c) (hU : ∀ x, U x → x < nx) (hd : ∀ d, o.dst = some d → d < N)
    (hq : evCall call ⟨e, h, nx, pr⟩ nm o.dst q (VM.opd e (tOpd f)) (VM.opds e (tOpds c.args.toList)) = true) (R : RelAt N B G (FR U nx) φ ⟨e, h, nx, pr⟩ a w) : Does P N B G U pr nx φ w a o q := by
  unfold evCall at hq
  split at hq
  · rename_i g first cap cs hff hxs
    obtain ⟨⟨fn, hfn, hname, hbody⟩, hC⟩ := hcall _ _ _ _ _ _ hq
    obtain ⟨vs, us, hfv, hl1, hl2, hv1, hv2⟩ := rep_fn (R.opd hff)
    obtain ⟨hxl, hxr⟩ := R.opds hxs
    have hrun : (execOp a.eval o).run P w = .ok (.enter g (vs ++ c.args.toList.map a.eval ++ us).toArray) w := by
      have e1 : (vs ++ c.args.toList.map a.eval ++ us).toArray = vs.toArray ++ c.args.map a.eval ++ us.toArray := by
        apply Array.ext'; simp
      simp only [execOp, ho, resolve, hcl, hfv, Deferred.ofValue, Sem.run_bind, Sem.run_pure, Result.andThen_ok, invoke, callFunc, run_program, hfn, hname, hbody]
      rw [e1]
      simp
    have hall : ∀ (i : Nat) (c' : V) (v : Value), (first ++ cs ++ cap)[i]? = some c' → (vs ++ c.args.toList.map a.eval ++ us)[i]? = some v → Rep w (Excl B φ) φ c' v := by
      have app : ∀ {p q : List V} {x y : List Value}, p.length = x.length → (∀ (i : Nat) (c : V) (v : Value), p[i]? = some c → x[i]? = some v → Rep w (Excl B φ) φ c v) → (∀ (i : Nat) (c : V) (v : Value), q[i]? = some c → y[i]? = some v → Rep w (Excl B φ) φ c v) →
          ∀ (i : Nat) (c : V) (v : Value), (p ++ q)[i]? = some c → (x ++ y)[i]? = some v → Rep w (Excl B φ) φ c v := by
        intro p q x y hl h1 h2 i c v h3 h4
        by_cases hi : i < p.length
        · rw [List.getElem?_append_left hi] at h3
          rw [List.getElem?_append_left (by omega)] at h4
          exact h1 i c v h3 h4
        · rw [List.getElem?_append_right (by omega)] at h3
          rw [List.getElem?_append_right (by omega)] at h4
          rw [hl] at h3
          exact h2 _ c v h3 h4
      exact app (by simp [hl1, hxl]) (app hl1 hv1 hxr) hv2
    have hlen : (first ++ cs ++ cap).length = (vs ++ c.args.toList.map a.eval ++ us).length := by simp [hl1, hl2, hxl]
    intro Q
    unfold Oper.wp
    rw [hrun]
    refine (hC B U φ w _ R.toHeapAt hU hlen hall).mono ?_
    rintro e' w' ⟨v, c', φ', h', nx', rfl, hq', H, hle, F, hrep⟩
    have R' : RelAt N B G (FR U nx') φ' ⟨e, h', nx', pr⟩ a w' := R.step F H
    exact ((show After N B G U pr nx' φ' w' q (a.put o.dst v) w' from out_same R' hrep hd hq') |> fun ⟨s', φ'', k1, k2, k3, k4, k5⟩ => ⟨s', φ'', k1, k2, k3, Nat.le_trans hle k4, F.trans k5⟩)
  · cases hq

/-! all operations -/

theorem evOp_quiet {call : Calling} {s : S} {dst : Option Nat} {op : COp} (he : op.eff = false) : evOp call s nm dst q op = evQuiet s nm dst q (yv s.env s.h nm op) := by
  cases op <;> first | rfl | cases he

theorem does_quiet {op : COp} (hc : tOp P o.op = op) (hU : U nm) (hnx : nm < nx) (hd : ∀ d, o.dst = some d → d < N) (hq : evQuiet ⟨e, h, nx, pr⟩ nm o.dst q (yv e h nm op) = true) (R : RelAt N B G (FR U nx) φ ⟨e, h, nx, pr⟩ a w) : Does P N B G (fun x => U x ∧ x ≠ nm) pr nx φ w a o q := by
  unfold evQuiet at hq
  split at hq
  · rename_i v new hy
    have hC := sound_quiet hc hy R
    cases new with
    | none =>
      obtain ⟨u, D, hr, hx, _⟩ := hC
      exact does_value (hx w fun _ _ => rfl) ((out_same R hr hd hq).less fun x hx => hx.1)
    | some k =>
      obtain ⟨u, w', n, hx, h1, h2, h3, h4, h5, h6, h7, h8⟩ := hC
      exact does_value hx (out_new R hU hnx h1 h2 h3 h4 h5 h6 h7 h8 hd hq)
  · cases hq

theorem tOp_eff {op : Op} (h : (tOp P op).eff = true) : (∃ t a x, op = .store t a x) ∨ (∃ t m k v, op = .mapUpdate t m k v) ∨ (∃ x, op = .next x false) ∨ (∃ t d x, op = .convert t d x) ∨ ∃ c, op = .call c := by
  cases op with
  | store t a x => exact .inl ⟨_, _, _, rfl⟩
  | mapUpdate t m k v => exact .inr (.inl ⟨_, _, _, _, rfl⟩)
  | next x b => cases b; exact .inr (.inr (.inl ⟨_, rfl⟩)); cases h
  | convert t d x => exact .inr (.inr (.inr (.inl ⟨_, _, _, rfl⟩)))
  | call c => exact .inr (.inr (.inr (.inr ⟨_, rfl⟩)))
  | _ =>
    exfalso
    simp only [tOp, tBin] at h
    revert h
    repeat' split
    all_goals (intro h; cases h)

theorem sound_op (call : Calling) (hcall : CallOk P G call) {op : COp} (hc : tOp P o.op = op) (hU : U nm) (hUx : ∀ x, U x → x < nx) (hd : ∀ d, o.dst = some d → d < N) (hq : evOp call ⟨e, h, nx, pr⟩ nm o.dst q op = true) (R : RelAt N B G (FR U nx) φ ⟨e, h, nx, pr⟩ a w) :
    Does P N B G (fun x => U x ∧ x ≠ nm) pr nx φ w a o q := by
  have less : Does P N B G U pr nx φ w a o q → Does P N B G (fun x => U x ∧ x ≠ nm) pr nx φ w a o q := fun hD Q => Oper.wp_mono (fun _ _ hA => hA.less fun x hx => hx.1) (hD Q)
  cases he : op.eff with
  | false =>
    rw [evOp_quiet he] at hq
    exact does_quiet hc hU (hUx _ hU) hd hq R
  | true =>
    rcases tOp_eff (by rw [hc]; exact he) with ⟨t, x, y, ho⟩ | ⟨t, m, k, v, ho⟩ | ⟨x, ho⟩ | ⟨t, d, x, ho⟩ | ⟨c, ho⟩
    · rw [ho] at hc; simp only [tOp] at hc
      split at hc
      · rename_i k hk; subst hc; exact less (e_store ho hk hd hq R)
      · subst hc; cases he
    · rw [ho] at hc; simp only [tOp] at hc
      split at hc
      · rename_i kt el ht
        split at hc
        · rename_i kk hkk; subst hc; exact less (e_mup ho ht hkk hd hq R)
        · subst hc; cases he
      · subst hc; cases he
    · rw [ho] at hc; simp only [tOp] at hc
      subst hc
      exact less (e_nxt ho hd hq R)
    · rw [ho] at hc; simp only [tOp] at hc
      split at hc
      · subst hc; cases he
      · rename_i el ht hdt
        split at hc
        · rename_i hel; subst hc; exact e_bytes ho ht hdt hel hU (hUx _ hU) hd hq R
        · subst hc; cases he
      · rename_i el ht hdt
        split at hc
        · rename_i hel; subst hc; exact e_text ho ht hdt hel hd hq R
        · subst hc; cases he
      · subst hc; cases he
    · rw [ho] at hc; simp only [tOp, tCall] at hc
      split at hc
      · rename_i f hcl
        subst hc
        exact less (e_call call hcall hcl ho hUx hd hq R)
      · subst hc; cases he
      · rename_i b hcl
        split at hc
        · split at hc <;> (subst hc; cases he)
        · rename_i x y t t' hca hct
          have hca : c.args = #[x, y] := by apply Array.ext'; simpa using hca
          have hct : c.argTypes = #[t, t'] := by apply Array.ext'; simpa using hct
          split at hc
          · rename_i el hel
            split at hc
            · rename_i i hi htt
              have htt := Nat.eq_of_beq_eq_true htt
              subst htt
              split at hc
              · rename_i hb
                subst hc
                simp only [Bool.and_eq_true, beq_iff_eq] at hb
                obtain ⟨z, hz, hzs⟩ := Option.map_eq_some_iff.1 hb.2
                exact e_app hcl hca hct ho (tElem_eq hel) hi hz hzs (Nat.le_of_ble_eq_true hb.1.1) (Nat.le_of_ble_eq_true hb.1.2) hU (hUx _ hU) hd hq R
              · subst hc; cases he
            · subst hc; cases he
          · subst hc; cases he
        · rename_i m k t t' hca hct
          have hca : c.args = #[m, k] := by apply Array.ext'; simpa using hca
          have hct : c.argTypes = #[t, t'] := by apply Array.ext'; simpa using hct
          split at hc
          · rename_i kt el ht
            split at hc
            · rename_i kk hkk; subst hc; exact less (e_del hcl hca hct ho ht hkk hd hq R)
            · subst hc; cases he
          · subst hc; cases he
        · split at hc <;> (subst hc; cases he)
        · split at hc <;> (subst hc; cases he)
        · subst hc; cases he

end
end Go.VM
end

section
/- The machine VM, part 13: guards; regions in the text's order. -/
set_option linter.unusedVariables false
set_option linter.unusedSectionVars false
set_option linter.unusedSimpArgs false
set_option linter.constructorNameAsVariable false
namespace Go.VM
open Go.RowKit
variable [Val]

section
variable {P : Program} {ty : TypeId} {N : Nat} {B : Nat → Prop} {G : Nat → Nat → Value → Prop} {fr U : Nat → Prop} {φ : Loc} {a : Act} {w : World} {e : T V} {h : Heap} {nx : Nat} {pr : List Nat}
variable {o : Oper} {nm : Nat} {q : S → Bool} {ops : Array Oper}

theorem tOper_spec {dst : Option Nat} {op : COp} {g : Option (Nat × Bool)} (hc : tOper P N ops o = ⟨dst, op, g⟩) : (op = .bad ∧ g = none) ∨ (dst = o.dst ∧ (∀ d, o.dst = some d → d < N) ∧ tOp P o.op = op ∧ ((g = none ∧ o.guard = none) ∨ ∃ j b t, o.guard = some (j, b) ∧ g = some (t, b) ∧ (ops[j]?).bind (·.dst) = some t)) := by
  unfold tOper at hc
  split at hc
  · rename_i hd
    have hd' : ∀ d, o.dst = some d → d < N := fun d h => by rw [h] at hd; exact Nat.le_of_ble_eq_true hd
    split at hc
    · rename_i hg
      injection hc with h1 h2 h3
      exact .inr ⟨h1.symm, hd', h2, .inl ⟨h3.symm, hg⟩⟩
    · rename_i j b hg
      split at hc
      · rename_i t ht
        injection hc with h1 h2 h3
        exact .inr ⟨h1.symm, hd', h2, .inr ⟨j, b, t, hg, h3.symm, ht⟩⟩
      · injection hc with h1 h2 h3; exact .inl ⟨h2.symm, h3.symm⟩
  · injection hc with h1 h2 h3; exact .inl ⟨h2.symm, h3.symm⟩

theorem rep_nil_tup {X : Nat → Prop} : Rep w X φ (.tup []) undef := .tup [] [] rfl fun _ _ _ h => by cases h

theorem skipped_spec (R : RelAt N B G (FR U nx) φ ⟨e, h, nx, pr⟩ a w) {dst : Option Nat} (hd : ∀ d, dst = some d → d < N) (hq : skipped ⟨e, h, nx, pr⟩ dst q = true) : After N B G U pr nx φ w q (a.put dst undef) w := by
  simp only [skipped] at hq
  obtain ⟨e', he, hq⟩ := setO_spec hq
  exact ⟨_, _, hq, R.put hd rep_nil_tup he, rfl, Nat.le_refl _, Fwd.refl _ _ _⟩

/-- a guard, read off -/
theorem guard_spec (R : RelAt N B G (FR U nx) φ ⟨e, h, nx, pr⟩ a w) {j t : Nat} {want go skip : Bool} (hg : o.guard = some (j, want)) (hj : (ops[j]?).bind (·.dst) = some t) (hq : evGd want go skip (e.get t) = true) :
    (Region.wanted o (yielded ops a.tmps) = true ∧ go = true) ∨ (Region.wanted o (yielded ops a.tmps) = false ∧ skip = true) := by
  unfold evGd at hq
  split at hq
  · rename_i b hb
    obtain ⟨hlt, hr⟩ := R.env t _ hb
    have hv := rep_b hr
    have hlt' : t < a.tmps.size := by rw [R.size]; exact hlt
    have hy : yielded ops a.tmps j = some b := by
      unfold yielded
      rw [hj]
      simp only [Option.bind_some]
      have : a.tmps[t]? = some (.bool b) := by
        rw [← hv]
        simp [Array.getD, hlt']
      rw [this]
    have hw : Region.wanted o (yielded ops a.tmps) = (b == want) := by
      unfold Region.wanted
      rw [hg]
      simp only [hy]
      cases b <;> cases want <;> rfl
    rw [hw, ← eqB_eq]
    split at hq
    · rename_i h; exact .inl ⟨h, hq⟩
    · rename_i h; exact .inr ⟨h, hq⟩
  · rename_i hb
    obtain ⟨hlt, hr⟩ := R.env t _ hb
    obtain ⟨vs, hv, hlen, _⟩ := rep_tup hr
    have hnil : vs = [] := List.eq_nil_of_length_eq_zero hlen.symm
    subst hnil
    have hlt' : t < a.tmps.size := by rw [R.size]; exact hlt
    refine .inr ⟨?_, hq⟩
    have hy : yielded ops a.tmps j = none := by
      unfold yielded
      rw [hj]
      simp only [Option.bind_some]
      have : a.tmps[t]? = some (.tuple #[]) := by
        have hv' : a.tmps.getD t undef = .tuple #[] := hv
        rw [← hv']
        simp [Array.getD, hlt']
      rw [this]
    unfold Region.wanted
    rw [hg]
    simp only [hy]
    rfl
  · cases hq

theorem evOp_bad {call : Calling} {s : S} {dst : Option Nat} (hq : evOp call s nm dst q .bad = true) : False := by
  cases hq

/-- An operation of a region. -/
theorem sound_evG (call : Calling) (hcall : CallOk P G call) {i : Nat} (hi : ops[i]? = some o) (hU : U nm) (hUx : ∀ x, U x → x < nx) (hq : evG call ⟨e, h, nx, pr⟩ nm (tOper P N ops o) q = true) (R : RelAt N B G (FR U nx) φ ⟨e, h, nx, pr⟩ a w) (Q : Exit → Act → World → Prop) :
    wpOp P ops Q i (After N B G (fun x => U x ∧ x ≠ nm) pr nx φ w q) a w := by
  unfold wpOp
  rw [hi]
  dsimp only
  cases hco : tOper P N ops o with
  | mk dst op g =>
  rw [hco] at hq
  rcases tOper_spec hco with ⟨rfl, rfl⟩ | ⟨rfl, hd, hc, ⟨rfl, hg⟩ | ⟨j, b, t, hg, rfl, hj⟩⟩
  · exact (evOp_bad (call := call) (s := ⟨e, h, nx, pr⟩) (dst := dst) (nm := nm) (q := q) hq).elim
  · have hw : Region.wanted o (yielded ops a.tmps) = true := by unfold Region.wanted; rw [hg]
    rw [if_pos hw]
    exact .inl (sound_op call hcall hc hU hUx hd hq R Q)
  · simp only [evG] at hq
    rcases guard_spec R hg hj hq with ⟨hw, hgo⟩ | ⟨hw, hsk⟩
    · rw [if_pos hw]
      exact .inl (sound_op call hcall hc hU hUx hd hgo R Q)
    · rw [if_neg (by rw [hw]; simp)]
      exact (skipped_spec R hd hsk).less fun x hx => hx.1

theorem tOpers_get : ∀ (l : List Oper) (i : Nat), (tOpers P N ops l)[i]? = (l[i]?).map (tOper P N ops)
  | [], i => rfl
  | o :: r, i => by
    cases i with
    | zero => rfl
    | succ i => simpa [tOpers] using tOpers_get r i
theorem tOpers_len : ∀ (l : List Oper), (tOpers P N ops l).length = l.length
  | [] => rfl
  | o :: r => by simp [tOpers, tOpers_len r]

/-- names of a region in the text's order: those from k on are free -/
def UR (U : Nat → Prop) (base k n : Nat) : Nat → Prop := fun x => U x ∨ (base + k ≤ x ∧ x < base + n)

/-- A region in the text's order. -/
theorem sound_evR (call : Calling) (hcall : CallOk P G call) {Q : Exit → Act → World → Prop} {base n nx₀ : Nat} {K : S → Bool} {φ₀ : Loc} {w₀ : World} (hUx : ∀ x, U x → x < base) (hn : base + n ≤ nx₀) (hQ : ∀ a' w', After N B G U pr nx₀ φ₀ w₀ K a' w' → Q .normal a' w') :
    ∀ (l : List Oper) (k : Nat) (e : T V) (h : Heap) (nx : Nat) (φ : Loc) (a : Act) (w : World), (∀ i, l[i]? = ops[k + i]?) → k + l.length = n → evR call (base + k) (tOpers P N ops l) ⟨e, h, nx, pr⟩ K = true → nx₀ ≤ nx →
      RelAt N B G (FR (UR U base k n) nx) φ ⟨e, h, nx, pr⟩ a w → Fwd pr φ₀ w₀ φ w → wpOps P ops Q (List.range' k l.length) a w
  | [], k, e, h, nx, φ, a, w, _, hk, hq, hnx, R, F => by
    simp only [tOpers, evR] at hq
    simp only [List.length_nil, List.range'_zero, wpOps]
    exact hQ a w ⟨_, φ, hq, R.less fun x hx => hx.imp .inl id, rfl, hnx, F⟩
  | o :: l, k, e, h, nx, φ, a, w, hl, hk, hq, hnx, R, F => by
    simp only [tOpers, evR] at hq
    simp only [List.length_cons] at hk
    have hi : ops[k]? = some o := by simpa using (hl 0).symm
    simp only [List.length_cons, List.range'_succ, wpOps_cons]
    refine wpOp_mono ?_ (sound_evG call hcall hi (nm := base + k) (.inr ⟨Nat.le_refl _, by omega⟩) (fun x hx => ?_) hq R Q)
    · rintro a' w' ⟨⟨e', h', nx', pr'⟩, φ', hq', R', hp, hnx', F'⟩
      have hp' : pr = pr' := hp.symm
      subst hp'
      refine sound_evR call hcall hUx hn hQ l (k + 1) e' h' nx' φ' a' w' (fun i => by have := hl (i + 1); simpa [Nat.add_assoc, Nat.add_comm 1 i] using this) (by omega) hq' (by dsimp only at hnx'; omega) (R'.less fun x hx => ?_) (F.trans F')
      rcases hx with (hx | hx) | hx
      · exact .inl ⟨.inl hx, fun e => by have := hUx x hx; omega⟩
      · exact .inl ⟨.inr ⟨by omega, hx.2⟩, by omega⟩
      · exact .inr hx
    · rcases hx with hx | hx
      · have := hUx x hx; omega
      · omega

end
end Go.VM
end

section
/- The machine VM, part 14: a law for regions whose order is drawn: what was taken first holds until what waits for it comes up. -/
set_option linter.unusedVariables false
set_option linter.unusedSectionVars false
set_option linter.unusedSimpArgs false
set_option linter.constructorNameAsVariable false
namespace Go.VM
open Go.RowKit
variable [Val]

section law
variable {P : Program} {ops : Array Oper} {Q : Exit → Act → World → Prop} {md : Region.Mode}

/-- number j waits for number i -/
def Waits (md : Region.Mode) (ops : Array Oper) (j i : Nat) : Prop := ∃ o, ops[j]? = some o ∧ ∃ e ∈ o.after, Region.binds md e = true ∧ e.on = i

/-- ... by way of others, too -/
inductive WT (md : Region.Mode) (ops : Array Oper) : Nat → Nat → Prop
  | one {j i : Nat} (h : Waits md ops j i) : WT md ops j i
  | step {j k i : Nat} (h : Waits md ops j k) (t : WT md ops k i) : WT md ops j i

/-- what has come up waited for what has come up -/
def Shut (md : Region.Mode) (ops : Array Oper) (listed : Array Bool) : Prop := ∀ j i, listed.getD j false = true → Waits md ops j i → listed.getD i false = true

theorem Shut.trans {listed : Array Bool} (h : Shut md ops listed) {j i : Nat} (hw : WT md ops j i) : listed.getD j false = true → listed.getD i false = true := by
  induction hw with
  | one hw => exact fun hj => h _ _ hj hw
  | step hw _ ih => exact fun hj => ih (h _ _ hj hw)

theorem Shut.ready {listed : Array Bool} (h : Shut md ops listed) {j i : Nat} (hj : ∀ k, Waits md ops j k → listed.getD k false = true) (hw : WT md ops j i) : listed.getD i false = true := by
  cases hw with
  | one hw => exact hj _ hw
  | step hw ht => exact h.trans ht (hj _ hw)

theorem waits_ready {listed : Array Bool} {j : Nat} (hj : j ∈ Region.ready md ops listed) : ∀ k, Waits md ops j k → listed.getD k false = true := by
  rintro k ⟨o, ho, e, he, hb, rfl⟩
  obtain ⟨_, o', ho', hall⟩ := mem_ready.1 hj
  rw [ho] at ho'; injection ho' with ho'; subst ho'
  exact hall e he hb

theorem Shut.set {listed : Array Bool} (h : Shut md ops listed) {j : Nat} (hj : j ∈ Region.ready md ops listed) : Shut md ops (listed.setIfInBounds j true) := by
  have up : ∀ {k}, listed.getD k false = true → (listed.setIfInBounds j true).getD k false = true := fun {k} hk => by
    by_cases hkj : j = k
    · subst hkj
      have : j < listed.size := by
        rcases Nat.lt_or_ge j listed.size with h | h
        · exact h
        · simp [Array.getD, Nat.not_lt.2 h] at hk
      simp [Array.getD, this]
    · rw [getD_set_ne false hkj]; exact hk
  intro k i hk hw
  by_cases hkj : j = k
  · subst hkj; exact up (waits_ready hj i hw)
  · rw [getD_set_ne false hkj] at hk; exact up (h k i hk hw)

/-- what is held: each until what waits for it comes up -/
abbrev HL := List (Nat × (World → Prop))

open Classical in
noncomputable def HL.past (md : Region.Mode) (ops : Array Oper) (j : Nat) (D : HL) : HL := D.filter fun p => decide (¬ WT md ops j p.1)

theorem mem_past {D : HL} {j : Nat} {p : Nat × (World → Prop)} : p ∈ D.past md ops j ↔ p ∈ D ∧ ¬ WT md ops j p.1 := by
  classical
  unfold HL.past
  rw [List.mem_filter]
  simp

def wpAnyE (P : Program) (md : Region.Mode) (ops : Array Oper) (Q : Exit → Act → World → Prop) : HL → Nat → Array Bool → Act → World → Prop
  | _, 0, listed, a, w => Region.ready md ops listed = [] ∧ Q .normal a w
  | D, fuel + 1, listed, a, w =>
    (Region.ready md ops listed = [] → Q .normal a w) ∧
    ∀ j ∈ Region.ready md ops listed, wpOp P ops Q j (fun a' w' => (∀ p ∈ D, ¬ WT md ops j p.1 → p.2 w') ∧ wpAnyE P md ops Q (D.past md ops j) fuel (listed.setIfInBounds j true) a' w') a w

theorem wpAny_of_E : ∀ (fuel : Nat) (D : HL) (listed : Array Bool) (a : Act) (w : World), wpAnyE P md ops Q D fuel listed a w → wpAny P md ops Q fuel listed a w
  | 0, _, _, _, _, h => h
  | fuel + 1, D, _, _, _, h => ⟨h.1, fun i hi => wpOp_mono (fun a' w' h' => wpAny_of_E fuel _ _ a' w' h'.2) (h.2 i hi)⟩

theorem wpAnyE_mono : ∀ (fuel : Nat) {D D' : HL} (hD : ∀ p ∈ D', p ∈ D) {listed : Array Bool} {a : Act} {w : World}, wpAnyE P md ops Q D fuel listed a w → wpAnyE P md ops Q D' fuel listed a w
  | 0, _, _, _, _, _, _, h => h
  | fuel + 1, D, D', hD, _, _, _, h => ⟨h.1, fun i hi => wpOp_mono (fun a' w' h' => ⟨fun p hp => h'.1 p (hD p hp), wpAnyE_mono fuel (fun p hp => mem_past.2 ⟨hD p (mem_past.1 hp).1, (mem_past.1 hp).2⟩) h'.2⟩) (h.2 i hi)⟩

theorem wpAnyE_first {i : Nat} {oi : Oper} {v : Value} {S : World → Prop} (hi : ops[i]? = some oi) (hsel : ∀ (j : Nat) (o : Oper) cs b, ops[j]? = some o → o.op ≠ .select cs b)
    (hQ : ∀ c a w, Q (.panic c) (a.put oi.dst v) w → Q (.panic c) a w) :
    ∀ (fuel : Nat) (D : HL) (listed : Array Bool) (a : Act) (w : World), Shut md ops listed →
      (∀ j oj, ops[j]? = some oj → j ≠ i → listed.getD j true = false → (∀ e ∈ oj.after, Region.binds md e = true → e.on ≠ i) → oi.apart ops oj = true) →
      i ∈ Region.ready md ops listed → YieldsIf P ops S oi v a → S w → (∀ p ∈ D, p.2 w) →
      wpAnyE P md ops Q ((i, S) :: D) fuel (listed.setIfInBounds i true) (a.put oi.dst v) w → wpAnyE P md ops Q D (fuel + 1) listed a w := by
  have same : ∀ {fuel : Nat} {D : HL} {listed : Array Bool} {a : Act} {w : World}, YieldsIf P ops S oi v a → S w → (∀ p ∈ D, p.2 w) → wpAnyE P md ops Q ((i, S) :: D) fuel (listed.setIfInBounds i true) (a.put oi.dst v) w →
      wpOp P ops Q i (fun a' w' => (∀ p ∈ D, ¬ WT md ops i p.1 → p.2 w') ∧ wpAnyE P md ops Q (D.past md ops i) fuel (listed.setIfInBounds i true) a' w') a w := fun hy hS hD H =>
    hy.wpOp hi hS ⟨fun p hp _ => hD p hp, wpAnyE_mono _ (fun p hp => List.mem_cons_of_mem _ (mem_past.1 hp).1) H⟩
  intro fuel
  induction fuel with
  | zero =>
    intro D listed a w hsh _ hr hy hS hD H
    refine ⟨fun h => (by rw [h] at hr; cases hr), fun j hj => ?_⟩
    by_cases hji : j = i
    · subst hji; exact same hy hS hD H
    · have := ready_mono hj hji
      rw [H.1] at this
      cases this
  | succ fuel ih =>
    intro D listed a w hsh hfree hr hy hS hD H
    refine ⟨fun h => (by rw [h] at hr; cases hr), fun j hj => ?_⟩
    by_cases hji : j = i
    · subst hji; exact same hy hS hD H
    · have h1 := H.2 j (ready_mono hj hji)
      obtain ⟨hjun, oj, hoj, hall⟩ := mem_ready.1 hj
      have hnot : ∀ e ∈ oj.after, Region.binds md e = true → e.on ≠ i := fun e he hb heq => by
        have h1 := hall e he hb
        have h0 := (mem_ready.1 hr).1
        rw [heq] at h1
        rcases Nat.lt_or_ge i listed.size with h' | h'
        · simp [h'] at h0 h1; rw [h0] at h1; cases h1
        · simp [Array.getElem?_eq_none h'] at h1
      have hnw : ¬ WT md ops j i := fun hw => by
        have h1 := hsh.ready (waits_ready hj) hw
        have h0 := (mem_ready.1 hr).1
        rcases Nat.lt_or_ge i listed.size with h' | h'
        · simp [h'] at h0 h1; rw [h0] at h1; cases h1
        · simp [Array.getElem?_eq_none h'] at h1
      have h2 := wpOp_putIf hoj (hfree j oj hoj hji hjun hnot) (fun cs b => hsel i oi cs b hi) (fun cs b => hsel j oj cs b hoj) hQ hy h1
      have hfree' : ∀ k ok, ops[k]? = some ok → k ≠ i → (listed.setIfInBounds j true).getD k true = false →
          (∀ e ∈ ok.after, Region.binds md e = true → e.on ≠ i) → oi.apart ops ok = true := fun k ok hk hki hun hno => by
        refine hfree k ok hk hki ?_ hno
        by_cases hjk : j = k
        · subst hjk; exact hjun
        · rw [getD_set_ne true hjk] at hun; exact hun
      refine wpOp_mono (fun a' w' ⟨hy', hS', h4⟩ => ⟨fun p hp hw => hS' p (List.mem_cons_of_mem _ hp) hw, ih (D.past md ops j) (listed.setIfInBounds j true) a' w' (hsh.set hj) hfree' (ready_mono hr (Ne.symm hji)) hy' (hS' (i, S) (by simp) hnw) (fun p hp => hS' p (List.mem_cons_of_mem _ (mem_past.1 hp).1) (mem_past.1 hp).2) ?_⟩) h2
      rw [Array.setIfInBounds_comm _ _ hji]
      refine wpAnyE_mono _ (fun p hp => ?_) h4
      rcases List.mem_cons.1 hp with rfl | hp
      · exact mem_past.2 ⟨by simp, hnw⟩
      · exact mem_past.2 ⟨List.mem_cons_of_mem _ (mem_past.1 hp).1, (mem_past.1 hp).2⟩

theorem wpAnyE_done {D : HL} {listed : Array Bool} {a : Act} {w : World} (hr : Region.ready md ops listed = []) (h : Q .normal a w) : ∀ fuel, wpAnyE P md ops Q D fuel listed a w
  | 0 => ⟨hr, h⟩
  | _ + 1 => ⟨fun _ => h, by rw [hr]; simp⟩

end law

/-! bits -/

theorem bitsOf_test : ∀ (l : List Nat) (k : Nat), Nat.testBit (bitsOf l) k = decide (k ∈ l)
  | [], k => by simp [bitsOf]
  | i :: r, k => by
    show Nat.testBit (2 ^ i ||| bitsOf r) k = _
    rw [Nat.testBit_or, bitsOf_test r k, Nat.testBit_two_pow]
    by_cases h : i = k
    · subst h; simp
    · by_cases h2 : k ∈ r <;> simp [h, h2, Ne.symm h]

theorem set_bit (L i k : Nat) : Nat.testBit (Nat.lor L (Nat.pow 2 i)) k = (Nat.testBit L k || decide (i = k)) := by
  show Nat.testBit (L ||| 2 ^ i) k = _
  rw [Nat.testBit_or, Nat.testBit_two_pow]

theorem tPre_mem : ∀ (l : List Edge) (i : Nat), i ∈ tPre l ↔ ∃ e ∈ l, Region.binds .any e = true ∧ e.on = i
  | [], i => by simp [tPre]
  | e :: r, i => by
    simp only [tPre]
    split
    · rename_i hb
      rw [List.mem_cons, tPre_mem r i]
      constructor
      · rintro (rfl | ⟨e', he', h⟩)
        · exact ⟨e, by simp, hb, rfl⟩
        · exact ⟨e', by simp [he'], h⟩
      · rintro ⟨e', he', hb', rfl⟩
        rcases List.mem_cons.1 he' with rfl | he'
        · exact .inl rfl
        · exact .inr ⟨e', he', hb', rfl⟩
    · rename_i hb
      rw [tPre_mem r i]
      constructor
      · rintro ⟨e', he', h⟩; exact ⟨e', by simp [he'], h⟩
      · rintro ⟨e', he', hb', rfl⟩
        rcases List.mem_cons.1 he' with rfl | he'
        · rw [hb] at hb'; cases hb'
        · exact ⟨e', he', hb', rfl⟩

theorem pre_test {o : Oper} (i : Nat) : Nat.testBit (bitsOf (tPre o.after.toList)) i = true ↔ ∃ e ∈ o.after, Region.binds .any e = true ∧ e.on = i := by
  rw [bitsOf_test, decide_eq_true_iff, tPre_mem]
  simp

theorem land_sub {a b : Nat} (h : Nat.beq (Nat.land a b) a = true) {k : Nat} (hk : Nat.testBit a k = true) : Nat.testBit b k = true := by
  have h := Nat.eq_of_beq_eq_true h
  have h2 : Nat.testBit (a &&& b) k = true := by
    show Nat.testBit (Nat.land a b) k = true
    rw [h]; exact hk
  rw [Nat.testBit_and] at h2
  simp only [Bool.and_eq_true] at h2
  exact h2.2
theorem land_sup {a b : Nat} (h : Nat.beq (Nat.land a b) b = true) {k : Nat} (hk : Nat.testBit b k = true) : Nat.testBit a k = true := by
  have h := Nat.eq_of_beq_eq_true h
  have h2 : Nat.testBit (a &&& b) k = true := by
    show Nat.testBit (Nat.land a b) k = true
    rw [h]; exact hk
  rw [Nat.testBit_and] at h2
  simp only [Bool.and_eq_true] at h2
  exact h2.1

theorem full_test (n k : Nat) : Nat.testBit (Nat.sub (Nat.pow 2 n) 1) k = decide (k < n) := Nat.testBit_two_pow_sub_one n k

theorem memN_iff : ∀ {l : List Nat} {x : Nat}, memN x l = true ↔ x ∈ l
  | [], x => by simp [memN]
  | y :: r, x => by
    simp only [memN, List.mem_cons]
    split
    · rename_i h; have := Nat.eq_of_beq_eq_true h; simp [this]
    · rename_i h; have := Nat.ne_of_beq_eq_false h; rw [memN_iff]; simp [this]

theorem apartB_spec {ops : Array Oper} {x y : Oper} (h : apartB x.dst (x.looksAt ops) y.dst (y.looksAt ops) = true) : x.apart ops y = true := by
  unfold apartB at h
  unfold Oper.apart
  have hc : ∀ (l : List Nat) (d : Nat), memN d l = l.contains d := fun l d => by
    rw [Bool.eq_iff_iff, memN_iff]; simp
  simp only [hc] at h
  simp only [Bool.and_eq_true] at h ⊢
  refine ⟨?_, h.2⟩
  cases hx : x.dst with
  | none => rfl
  | some d =>
    have h1 := h.1
    rw [hx] at h1
    simp only [Bool.and_eq_true] at h1
    simp only [Bool.and_eq_true]
    refine ⟨h1.1, ?_⟩
    cases hy : y.dst with
    | none => simp
    | some d' =>
      rw [hy] at h1
      have := h1.2
      simp only [Bool.not_eq_true'] at this
      have := Nat.ne_of_beq_eq_false this
      simpa using this

theorem tLooks_get {ops : Array Oper} : ∀ (l : List Oper) (j : Nat), (tLooks ops l)[j]? = (l[j]?).map fun o => (o.dst, o.looksAt ops, bitsOf (tPre o.after.toList))
  | [], j => rfl
  | o :: r, j => by
    cases j with
    | zero => rfl
    | succ j => simpa [tLooks] using tLooks_get r j

theorem farOf_spec (i : Nat) (dx : Option Nat) (lx : List Nat) : ∀ (l : List (Option Nat × List Nat × Nat)) (k j : Nat), j ∈ farOf i dx lx k l → k ≤ j ∧ ∃ dy ly p, l[j - k]? = some (dy, ly, p) ∧ (i = j ∨ Nat.testBit p i = true ∨ apartB dx lx dy ly = true)
  | [], k, j, h => by cases h
  | (dy, ly, p) :: r, k, j, h => by
    have tail : j ∈ farOf i dx lx (Nat.succ k) r → k ≤ j ∧ ∃ dy' ly' p', ((dy, ly, p) :: r)[j - k]? = some (dy', ly', p') ∧ (i = j ∨ Nat.testBit p' i = true ∨ apartB dx lx dy' ly' = true) := fun h => by
      obtain ⟨h1, dy', ly', p', h2, h3⟩ := farOf_spec i dx lx r _ j h
      simp only [Nat.succ_eq_add_one] at h1 h2
      exact ⟨by omega, dy', ly', p', by rw [show j - k = (j - (k + 1)) + 1 from by omega]; simpa using h2, h3⟩
    simp only [farOf] at h
    split at h
    · rename_i hc
      rcases List.mem_cons.1 h with rfl | h
      · simp only [Bool.or_eq_true] at hc
        refine ⟨Nat.le_refl _, dy, ly, p, by simp, ?_⟩
        rcases hc with (hc | hc) | hc
        · exact .inl (Nat.eq_of_beq_eq_true hc)
        · exact .inr (.inl hc)
        · exact .inr (.inr hc)
      · exact tail h
    · exact tail h

theorem tROps_get {P : Program} {N : Nat} {ops : Array Oper} (ks : List (Option Nat × List Nat × Nat)) (ts : List Nat) : ∀ (l : List Oper) (k j : Nat), (tROps P N ops ks ts k l)[j]? = (l[j]?).map fun o => ⟨tOper P N ops o, bitsOf (tPre o.after.toList), bitsOf (farOf (k + j) o.dst (o.looksAt ops) 0 ks), mayTake o.op, nthD 0 ts (Nat.sub (Nat.pred ks.length) (k + j))⟩
  | [], k, j => rfl
  | o :: r, k, j => by
    cases j with
    | zero => rfl
    | succ j => simp only [tROps, List.getElem?_cons_succ]; rw [tROps_get ks ts r (Nat.succ k) j, show Nat.succ k + j = k + (j + 1) from by omega]

/-- bits of what is waited for -/
def BitsOk (ops : Array Oper) (acc : List Nat) : Prop := ∀ j, j < acc.length → ∀ k, Nat.testBit (nthD 0 acc (acc.length - 1 - j)) k = true → WT .any ops j k

theorem orRev_spec {ops : Array Oper} {j : Nat} {bits : Nat} (hb : ∀ k, Nat.testBit bits k = true → Waits .any ops j k) : ∀ (l : List Nat) (a : Nat), BitsOk ops l → (∀ k, Nat.testBit a k = true → WT .any ops j k) → ∀ k, Nat.testBit (orRev bits l.length l a) k = true → WT .any ops j k
  | [], a, _, ha, k, hk => ha k hk
  | t :: r, a, hl, ha, k, hk => by
    have hr : BitsOk ops r := fun i hi k hk => by
      refine hl i (by simp; omega) k ?_
      rw [show (t :: r).length - 1 - i = (r.length - 1 - i) + 1 from by simp; omega]
      exact hk
    simp only [orRev, List.length_cons, Nat.pred_succ] at hk
    split at hk
    · rename_i hbit
      refine orRev_spec hb r _ hr (fun k hk => ?_) k hk
      have hk : Nat.testBit (a ||| t) k = true := hk
      rw [Nat.testBit_or, Bool.or_eq_true] at hk
      rcases hk with hk | hk
      · exact ha k hk
      · refine .step (hb _ hbit) (hl r.length (by simp) k ?_)
        rw [show (t :: r).length - 1 - r.length = 0 from by simp]
        exact hk
    · exact orRev_spec hb r _ hr ha k hk

theorem closeR_spec {ops : Array Oper} : ∀ (l : List Oper) (acc : List Nat), (∀ i, l[i]? = ops[acc.length + i]?) → BitsOk ops acc → BitsOk ops (closeR acc.length (tLooks ops l) acc) ∧ (closeR acc.length (tLooks ops l) acc).length = acc.length + l.length
  | [], acc, _, h => ⟨h, rfl⟩
  | o :: r, acc, hl, h => by
    simp only [tLooks, closeR]
    have ho : ops[acc.length]? = some o := by simpa using (hl 0).symm
    have hw : ∀ k, Nat.testBit (bitsOf (tPre o.after.toList)) k = true → Waits .any ops acc.length k := fun k hk => ⟨o, ho, (pre_test k).1 hk⟩
    have h' : BitsOk ops (orRev (bitsOf (tPre o.after.toList)) acc.length acc (bitsOf (tPre o.after.toList)) :: acc) := fun j hj k hk => by
      rcases Nat.lt_or_ge j acc.length with hlt | hge
      · refine h j hlt k ?_
        rw [show (orRev (bitsOf (tPre o.after.toList)) acc.length acc (bitsOf (tPre o.after.toList)) :: acc).length - 1 - j = (acc.length - 1 - j) + 1 from by simp; omega] at hk
        exact hk
      · have : j = acc.length := by simp at hj; omega
        subst this
        rw [show (orRev (bitsOf (tPre o.after.toList)) acc.length acc (bitsOf (tPre o.after.toList)) :: acc).length - 1 - acc.length = 0 from by simp] at hk
        exact orRev_spec hw acc _ h (fun k hk => .one (hw k hk)) k hk
    have := closeR_spec r _ (fun i => by have := hl (i + 1); simp only [List.getElem?_cons_succ] at this; rw [this]; congr 1; simp; omega) h'
    simp only [List.length_cons] at this
    exact ⟨this.1, by rw [show Nat.succ acc.length = acc.length + 1 from rfl, this.2]; simp; omega⟩

theorem tLooks_len {ops : Array Oper} : ∀ (l : List Oper), (tLooks ops l).length = l.length
  | [] => rfl
  | o :: r => by simp [tLooks, tLooks_len r]

/-- what is waited for, by way of others, too -/
theorem pt_spec {ops : Array Oper} {i k : Nat} (hi : i < ops.size) (h : Nat.testBit (nthD 0 (closeR 0 (tLooks ops ops.toList) []) (Nat.sub (Nat.pred (tLooks ops ops.toList).length) i)) k = true) : WT .any ops i k := by
  obtain ⟨h1, h2⟩ := closeR_spec (ops := ops) ops.toList [] (fun i => by simp) (fun j hj => by simp at hj)
  have h2 : (closeR 0 (tLooks ops ops.toList) []).length = ops.size := by simpa using h2
  have h1 : BitsOk ops (closeR 0 (tLooks ops ops.toList) []) := h1
  refine h1 i (by omega) k ?_
  rw [h2]
  rw [tLooks_len] at h
  have e : Nat.sub (Nat.pred ops.toList.length) i = ops.size - 1 - i := by simp
  rw [e] at h
  exact h

theorem firstTake_spec {full L : Nat} : ∀ {rs : List ROp} {k i : Nat} {c : COper}, firstTake full L k rs = some (i, c) → k ≤ i ∧ ∃ r, rs[i - k]? = some r ∧ isReady r i L = true ∧ Nat.beq (Nat.land (Nat.lor r.far L) full) full = true ∧ c = r.c
  | [], k, i, c, h => by cases h
  | r :: rs, k, i, c, h => by
    simp only [firstTake] at h
    split at h
    · rename_i hc
      injection h with h
      injection h with h1 h2
      subst h1; subst h2
      simp only [Bool.and_eq_true] at hc
      exact ⟨Nat.le_refl _, r, by simp, hc.1.1, hc.2, rfl⟩
    · obtain ⟨h1, r', h2, h3⟩ := firstTake_spec h
      simp only [Nat.succ_eq_add_one] at h1 h2
      exact ⟨by omega, r', by rw [show i - k = (i - (k + 1)) + 1 from by omega]; simpa using h2, h3⟩

theorem readyOf_spec {L : Nat} : ∀ {rs : List ROp} {k i : Nat} {r : ROp}, k ≤ i → rs[i - k]? = some r → isReady r i L = true → (i, r) ∈ readyOf L k rs
  | [], k, i, r, _, h, _ => by cases h
  | r' :: rs, k, i, r, hk, h, hr => by
    simp only [readyOf]
    by_cases hik : i = k
    · subst hik
      simp at h
      subst h
      rw [hr]
      simp
    · have ih := readyOf_spec (L := L) (rs := rs) (k := Nat.succ k) (i := i) (r := r) (by simp only [Nat.succ_eq_add_one]; omega) (by rw [show i - k = (i - (k + 1)) + 1 from by omega] at h; simpa using h) hr
      split
      · exact List.mem_cons_of_mem _ ih
      · exact ih

theorem allB_spec {α : Type} {p : α → Bool} : ∀ {l : List α}, allB p l = true → ∀ x ∈ l, p x = true
  | [], _, x, hx => by cases hx
  | a :: r, h, x, hx => by
    simp only [allB] at h
    split at h
    · rename_i ha
      rcases List.mem_cons.1 hx with rfl | hx
      · exact ha
      · exact allB_spec h x hx
    · cases h

theorem still_mem {pre : Nat} : ∀ {D : Held} {i y : Nat}, (i, y) ∈ D → Nat.testBit pre i = false → (i, y) ∈ still pre D
  | [], i, y, h, _ => by cases h
  | (j, z) :: r, i, y, h, hp => by
    simp only [still]
    split
    · rename_i hj
      rcases List.mem_cons.1 h with h | h
      · injection h with h1 h2; subst h1; rw [hj] at hp; cases hp
      · exact still_mem h hp
    · rcases List.mem_cons.1 h with h | h
      · rw [h]; simp
      · exact List.mem_cons_of_mem _ (still_mem h hp)
theorem addPr_mem {pr : List Nat} : ∀ {D : Held} {x : Nat}, x ∈ addPr pr D ↔ x ∈ pr ∨ ∃ i, (i, x) ∈ D
  | [], x => by simp [addPr]
  | (j, z) :: r, x => by
    simp only [addPr, List.mem_cons, addPr_mem (D := r)]
    constructor
    · rintro (rfl | h | ⟨i, h⟩)
      · exact .inr ⟨j, .inl rfl⟩
      · exact .inl h
      · exact .inr ⟨i, .inr h⟩
    · rintro (h | ⟨i, h | h⟩)
      · exact .inr (.inl h)
      · injection h with h1 h2; exact .inl h2
      · exact .inr (.inr ⟨i, h⟩)

end Go.VM
end

section
/- The machine VM, part 15: regions whose order is drawn. -/
set_option linter.unusedVariables false
set_option linter.unusedSectionVars false
set_option linter.unusedSimpArgs false
set_option linter.constructorNameAsVariable false
namespace Go.VM
open Go.RowKit
variable [Val]

section
variable {P : Program} {ty : TypeId} {N : Nat} {B : Nat → Prop} {G : Nat → Nat → Value → Prop} {fr U : Nat → Prop} {φ : Loc} {a : Act} {w : World} {e : T V} {h : Heap} {nx : Nat} {pr : List Nat}
variable {o : Oper} {nm : Nat} {q : S → Bool} {ops : Array Oper}

/-- blocks are as they were -/
def AsWas (E : Nat → Prop) (w₀ : World) : World → Prop := fun w => ∀ b, E b → w.heap[b]? = w₀.heap[b]?

/-- What is held, by the machine's list. -/
def HeldOk (B : Nat → Prop) (φ : Loc) (w : World) (D : Held) (DL : HL) : Prop :=
  ∀ p ∈ DL, ∃ (E : Nat → Prop) (w₀ : World), p.2 = AsWas E w₀ ∧ AsWas E w₀ w ∧ ∀ b, E b → (b < w.heap.size ∧ ¬ Excl B φ b) ∨ ∃ y, (p.1, y) ∈ D ∧ φ y = some (some b)

/-- An operation is taken first. -/
theorem take_step {i : Nat} {D : Held} {q : Held → S → Bool} (hq : evTake ⟨e, h, nx, pr⟩ i nm D q (tOper P N ops o) = true) (R : RelAt N B G (FR U nx) φ ⟨e, h, nx, pr⟩ a w) :
    ∃ v D' E e', YieldsIf P ops (AsWas E w) o v a ∧ q D' ⟨e', h, nx, pr⟩ = true ∧ RelAt N B G (FR U nx) φ ⟨e', h, nx, pr⟩ (a.put o.dst v) w ∧ (∀ p ∈ D, p ∈ D') ∧ ∀ b, E b → (b < w.heap.size ∧ ¬ Excl B φ b) ∨ ∃ y, (i, y) ∈ D' ∧ φ y = some (some b) := by
  cases hco : tOper P N ops o with
  | mk dst op g =>
  rw [hco] at hq
  have bad : ∀ {r : Option (Option Nat)}, evTake2 ⟨e, h, nx, pr⟩ dst i D q r (yv e h nm .bad) = true → False := fun h => by cases h
  have taken : dst = o.dst → (∀ d, o.dst = some d → d < N) → tOp P o.op = op → Region.wanted o (yielded ops a.tmps) = true → evTake2 ⟨e, h, nx, pr⟩ dst i D q (reads op (VM.opd e op.addr)) (yv e h nm op) = true →
      ∃ v D' E e', YieldsIf P ops (AsWas E w) o v a ∧ q D' ⟨e', h, nx, pr⟩ = true ∧ RelAt N B G (FR U nx) φ ⟨e', h, nx, pr⟩ (a.put o.dst v) w ∧ (∀ p ∈ D, p ∈ D') ∧ ∀ b, E b → (b < w.heap.size ∧ ¬ Excl B φ b) ∨ ∃ y, (i, y) ∈ D' ∧ φ y = some (some b) := by
    rintro rfl hd hc hw hq
    unfold evTake2 at hq
    split at hq
    · rename_i v hy
      obtain ⟨u, E, hr, hx, hE⟩ := sound_quiet hc hy R
      have hY : YieldsIf P ops (AsWas E w) o u a := .inl ⟨hw, fun w' hw' => hx w' hw'⟩
      unfold evTake3 at hq
      split at hq
      · rename_i y hrd
        obtain ⟨e', he, hq⟩ := setO_spec hq
        refine ⟨u, _, E, e', hY, hq, R.put hd hr he, fun p hp => List.mem_cons_of_mem _ hp, fun b hb => ?_⟩
        rcases hE _ hrd b hb with h1 | ⟨y', h1, h2⟩
        · exact .inl h1
        · injection h1 with h1; subst h1; exact .inr ⟨y, by simp, h2⟩
      · rename_i hrd
        obtain ⟨e', he, hq⟩ := setO_spec hq
        refine ⟨u, _, E, e', hY, hq, R.put hd hr he, fun p hp => hp, fun b hb => ?_⟩
        rcases hE _ hrd b hb with h1 | ⟨y', h1, h2⟩
        · exact .inl h1
        · cases h1
      · cases hq
    · cases hq
  rcases tOper_spec hco with ⟨rfl, rfl⟩ | ⟨hdst, hd, hc, ⟨rfl, hg⟩ | ⟨j, b, t, hg, rfl, hj⟩⟩
  · exact (bad (show evTake2 ⟨e, h, nx, pr⟩ dst i D q (reads .bad (VM.opd e COp.bad.addr)) (yv e h nm .bad) = true from hq)).elim
  · exact taken hdst hd hc (by unfold Region.wanted; rw [hg]) hq
  · simp only [evTake] at hq
    rcases guard_spec R hg hj hq with ⟨hw, hgo⟩ | ⟨hw, hsk⟩
    · exact taken hdst hd hc hw hgo
    · subst hdst
      simp only [skipped] at hsk
      obtain ⟨e', he, hsk⟩ := setO_spec hsk
      exact ⟨undef, D, fun _ => False, e', .inr ⟨hw, rfl⟩, hsk, R.put hd rep_nil_tup he, fun p hp => hp, fun b hb => hb.elim⟩

/-- names of a region whose order is drawn -/
def UD (U : Nat → Prop) (base n L : Nat) : Nat → Prop := fun x => U x ∨ (base ≤ x ∧ x < base + n ∧ Nat.testBit L (x - base) = false)

/-- a step from which held blocks are kept clear -/
theorem HeldOk.step {D D' : Held} {DL : HL} (H : HeldOk B φ w D DL) {pr' : List Nat} {φ' : Loc} {w' : World} (F : Fwd pr' φ w φ' w') {i : Nat} (hinj : ∀ x y b, φ x = some (some b) → φ y = some (some b) → x = y) (hlt : ∀ x b, φ x = some (some b) → b < w.heap.size) (hD : ∀ p ∈ DL, ¬ WT .any ops i p.1 → ∀ y, (p.1, y) ∈ D → (p.1, y) ∈ D' ∧ y ∈ pr') :
    (∀ p ∈ DL, ¬ WT .any ops i p.1 → p.2 w') ∧ HeldOk B φ' w' D' (DL.past .any ops i) := by
  have key : ∀ p ∈ DL, ¬ WT .any ops i p.1 → ∃ (E : Nat → Prop) (w₀ : World), p.2 = AsWas E w₀ ∧ AsWas E w₀ w' ∧ ∀ b, E b → (b < w'.heap.size ∧ ¬ Excl B φ' b) ∨ ∃ y, (p.1, y) ∈ D' ∧ φ' y = some (some b) := by
    intro p hp hw
    obtain ⟨E, w₀, h1, h2, h3⟩ := H p hp
    refine ⟨E, w₀, h1, fun b hb => ?_, fun b hb => ?_⟩
    · rw [← h2 b hb]
      rcases h3 b hb with ⟨h4, h5⟩ | ⟨y, h4, h5⟩
      · exact F.block b h4 fun x hx => absurd (.inr ⟨x, hx⟩) h5
      · refine F.block b (hlt y b h5) fun x hx => ?_
        rw [hinj x y b hx h5]
        exact (hD p hp hw y h4).2
    · rcases h3 b hb with ⟨h4, h5⟩ | ⟨y, h4, h5⟩
      · refine .inl ⟨Nat.lt_of_lt_of_le h4 F.size, fun hx => ?_⟩
        rcases hx with hx | ⟨x, hx⟩
        · exact h5 (.inl hx)
        · rcases F.new x b hx with ⟨y, hy, _⟩ | hge
          · exact h5 (.inr ⟨y, hy⟩)
          · omega
      · obtain ⟨h6, h7⟩ := hD p hp hw y h4
        refine .inr ⟨y, h6, ?_⟩
        rcases F.old y _ h5 with h8 | ⟨_, h8⟩
        · exact h8
        · exact absurd h7 h8
  refine ⟨fun p hp hw => ?_, fun p hp => key p (mem_past.1 hp).1 (mem_past.1 hp).2⟩
  obtain ⟨E, w₀, h1, h2, _⟩ := key p hp hw
  rw [h1]; exact h2

theorem readyOf_mem {L : Nat} : ∀ {rs : List ROp} {k i : Nat} {r : ROp}, (i, r) ∈ readyOf L k rs → k ≤ i ∧ rs[i - k]? = some r ∧ isReady r i L = true
  | [], k, i, r, h => by cases h
  | r' :: rs, k, i, r, h => by
    have tail : (i, r) ∈ readyOf L (Nat.succ k) rs → k ≤ i ∧ (r' :: rs)[i - k]? = some r ∧ isReady r i L = true := fun h => by
      obtain ⟨h1, h2, h3⟩ := readyOf_mem h
      simp only [Nat.succ_eq_add_one] at h1 h2
      exact ⟨by omega, by rw [show i - k = (i - (k + 1)) + 1 from by omega]; simpa using h2, h3⟩
    simp only [readyOf] at h
    split at h
    · rename_i hr
      rcases List.mem_cons.1 h with h | h
      · injection h with h1 h2
        subst h1; subst h2
        exact ⟨Nat.le_refl _, by simp, hr⟩
      · exact tail h
    · exact tail h

/-- A region whose order is drawn. -/
theorem sound_evD (call : Calling) (hcall : CallOk P G call) (hsel : Region.noSelect ops = true) {Q : Exit → Act → World → Prop} (hQp : ∀ c a w, ¬ Q (.panic c) a w) {base nx₀ : Nat} {K : S → Bool} {φ₀ : Loc} {w₀ : World} (hUx : ∀ x, U x → x < base) (hn : base + ops.size ≤ nx₀)
    (hQ : ∀ a' w', After N B G U pr nx₀ φ₀ w₀ K a' w' → Q .normal a' w') :
    ∀ (f L : Nat) (D : Held) (DL : HL) (listed : Array Bool) (e : T V) (h : Heap) (nx : Nat) (φ : Loc) (a : Act) (w : World),
      evD call base (tROps P N ops (tLooks ops ops.toList) (closeR 0 (tLooks ops ops.toList) []) 0 ops.toList) (Nat.sub (Nat.pow 2 ops.size) 1) f L D ⟨e, h, nx, pr⟩ K = true → listed.size = ops.size → (∀ i, i < ops.size → listed.getD i true = Nat.testBit L i) → (∀ i, Nat.testBit L i = true → i < ops.size) → Shut .any ops listed → nx₀ ≤ nx →
      RelAt N B G (FR (UD U base ops.size L) nx) φ ⟨e, h, nx, pr⟩ a w → Fwd pr φ₀ w₀ φ w → HeldOk B φ w D DL → wpAnyE P .any ops Q DL f listed a w := by
  -- what may come up
  have rget : ∀ i, (tROps P N ops (tLooks ops ops.toList) (closeR 0 (tLooks ops ops.toList) []) 0 ops.toList)[i]? = (ops[i]?).map fun o => (⟨tOper P N ops o, bitsOf (tPre o.after.toList), bitsOf (farOf i o.dst (o.looksAt ops) 0 (tLooks ops ops.toList)), mayTake o.op, nthD 0 (closeR 0 (tLooks ops ops.toList) []) (Nat.sub (Nat.pred (tLooks ops ops.toList).length) i)⟩ : ROp) := fun i => by
    rw [tROps_get]; simp
  have gd : ∀ {listed : Array Bool} {i : Nat}, i < listed.size → listed.getD i false = listed.getD i true := fun {listed i} hi => by simp [Array.getD, hi]
  have isRdy : ∀ {L : Nat} {listed : Array Bool} {i : Nat} {o : Oper}, listed.size = ops.size → (∀ i, i < ops.size → listed.getD i true = Nat.testBit L i) → (∀ i, Nat.testBit L i = true → i < ops.size) → ops[i]? = some o → ∀ {r : ROp}, r.pre = bitsOf (tPre o.after.toList) → (isReady r i L = true ↔ i ∈ Region.ready .any ops listed) := by
    intro L listed i o hs hl hL ho r hr
    have hi : i < ops.size := (Array.getElem?_eq_some_iff.1 ho).1
    rw [mem_ready]
    unfold isReady
    rw [hr, Bool.and_eq_true]
    constructor
    · rintro ⟨h1, h2⟩
      refine ⟨by rw [hl i hi]; simpa using h1, o, ho, fun e he hb => ?_⟩
      have h3 := land_sub h2 ((pre_test e.on).2 ⟨e, he, hb, rfl⟩)
      have h4 := hL _ h3
      rw [gd (by omega), hl _ h4]; exact h3
    · rintro ⟨h1, o', ho', h2⟩
      rw [ho] at ho'; injection ho' with ho'; subst ho'
      refine ⟨by rw [← hl i hi, h1]; rfl, ?_⟩
      have : Nat.land (bitsOf (tPre o.after.toList)) L = bitsOf (tPre o.after.toList) := by
        apply Nat.eq_of_testBit_eq
        intro k
        show Nat.testBit (bitsOf (tPre o.after.toList) &&& L) k = _
        rw [Nat.testBit_and]
        cases hk : Nat.testBit (bitsOf (tPre o.after.toList)) k with
        | false => rfl
        | true =>
          obtain ⟨e, he, hb, hek⟩ := (pre_test k).1 hk
          have h3 := h2 e he hb
          rw [hek] at h3
          have h4 : k < listed.size := by
            rcases Nat.lt_or_ge k listed.size with h | h
            · exact h
            · simp [Array.getD, Nat.not_lt.2 h] at h3
          rw [gd h4, hl k (by omega)] at h3
          rw [h3]; rfl
      rw [this]; exact Nat.beq_refl _
  have setL' : ∀ {L : Nat} {listed : Array Bool} {i : Nat}, i < ops.size → listed.size = ops.size → (∀ i, i < ops.size → listed.getD i true = Nat.testBit L i) → (∀ i, Nat.testBit L i = true → i < ops.size) →
      (listed.setIfInBounds i true).size = ops.size ∧ (∀ k, k < ops.size → (listed.setIfInBounds i true).getD k true = Nat.testBit (Nat.lor L (Nat.pow 2 i)) k) ∧ ∀ k, Nat.testBit (Nat.lor L (Nat.pow 2 i)) k = true → k < ops.size := by
    intro L listed i hi hs hl hL
    refine ⟨by simp [hs], fun k hk => ?_, fun k hk => ?_⟩
    · rw [set_bit]
      by_cases h : i = k
      · subst h; simp [Array.getD, hs, hk]
      · rw [getD_set_ne true h, hl k hk]; simp [h]
    · rw [set_bit, Bool.or_eq_true] at hk
      rcases hk with hk | hk
      · exact hL k hk
      · have := of_decide_eq_true hk; omega
  have done : ∀ {L : Nat} {listed : Array Bool}, listed.size = ops.size → (∀ i, i < ops.size → listed.getD i true = Nat.testBit L i) → (∀ i, Nat.testBit L i = true → i < ops.size) → readyOf L 0 (tROps P N ops (tLooks ops ops.toList) (closeR 0 (tLooks ops ops.toList) []) 0 ops.toList) = [] → Region.ready .any ops listed = [] := by
    intro L listed hs hl hL hr
    rw [List.eq_nil_iff_forall_not_mem]
    intro i hi
    obtain ⟨_, o, ho, _⟩ := mem_ready.1 hi
    have hg := rget i
    rw [ho] at hg
    have := readyOf_spec (L := L) (Nat.zero_le i) (by simpa using hg) ((isRdy hs hl hL ho rfl).2 hi)
    rw [hr] at this
    cases this
  have fin : ∀ {L : Nat} {e : T V} {h : Heap} {nx : Nat} {φ : Loc} {a : Act} {w : World}, K ⟨e, h, nx, pr⟩ = true → nx₀ ≤ nx → RelAt N B G (FR (UD U base ops.size L) nx) φ ⟨e, h, nx, pr⟩ a w → Fwd pr φ₀ w₀ φ w → Q .normal a w := fun hK hnx R F =>
    hQ _ _ ⟨_, _, hK, R.less fun x hx => hx.imp .inl id, rfl, hnx, F⟩
  intro f
  induction f with
  | zero =>
    intro L D DL listed e h nx φ a w hq hs hl hL hsh hnx R F HH
    simp only [evD, plan] at hq
    split at hq
    · rename_i hp
      split at hp
      · cases hp
      · split at hp
        · rename_i hr
          exact ⟨done hs hl hL hr, fin hq hnx R F⟩
        · cases hp
    · cases hq
  | succ f ih =>
    intro L D DL listed e h nx φ a w hq hs hl hL hsh hnx R F HH
    simp only [evD, plan] at hq
    split at hq
    · rename_i hp
      split at hp
      · cases hp
      · split at hp
        · rename_i hr
          exact wpAnyE_done (done hs hl hL hr) (fin hq hnx R F) _
        · cases hp
    · rename_i i c hp
      split at hp
      · rename_i i' c' hft
        injection hp with h1 h2
        subst h1; subst h2
        rw [forceN_eq] at hq
        obtain ⟨_, r, hr, hrdy, hfar, rfl⟩ := firstTake_spec hft
        rw [Nat.sub_zero, rget] at hr
        obtain ⟨o, ho, rfl⟩ := Option.map_eq_some_iff.1 hr
        have hi : i' < ops.size := (Array.getElem?_eq_some_iff.1 ho).1
        obtain ⟨v, D', E, e', hy, hq', R', hD', hE⟩ := take_step hq R
        obtain ⟨k1, k2, k3⟩ := setL' hi hs hl hL
        refine wpAnyE_first ho (Region.noSelect_spec hsel) (fun c a w h => absurd h (hQp _ _ _)) f DL listed a w hsh (fun j oj hj hji hun hno => ?_) ((isRdy hs hl hL ho rfl).1 hrdy) hy (fun b _ => rfl) (fun p hp => ?_) ?_
        · have hjn : j < ops.size := (Array.getElem?_eq_some_iff.1 hj).1
          have hbit := land_sup hfar (k := j) (by rw [full_test]; simpa using hjn)
          have hbit : Nat.testBit (bitsOf (farOf i' o.dst (o.looksAt ops) 0 (tLooks ops ops.toList)) ||| L) j = true := hbit
          rw [Nat.testBit_or, ← hl j hjn, hun, Bool.or_false, bitsOf_test, decide_eq_true_iff] at hbit
          obtain ⟨_, dy, ly, p, hg, hc⟩ := farOf_spec _ _ _ _ _ _ hbit
          rw [Nat.sub_zero, tLooks_get] at hg
          have hj' : ops.toList[j]? = some oj := by simpa using hj
          rw [hj'] at hg
          injection hg with hg
          injection hg with hg1 hg2
          injection hg2 with hg2 hg3
          subst hg1; subst hg2; subst hg3
          rcases hc with hc | hc | hc
          · exact absurd hc.symm hji
          · obtain ⟨e, he, hb, hon⟩ := (pre_test i').1 hc
            exact absurd hon (hno e he hb)
          · exact apartB_spec hc
        · obtain ⟨E', w', h1, h2, _⟩ := HH p hp
          rw [h1]; exact h2
        · refine ih _ D' _ _ e' h nx φ _ w hq' k1 k2 k3 (hsh.set ((isRdy hs hl hL ho rfl).1 hrdy)) hnx (R'.less fun x hx => ?_) F (fun p hp => ?_)
          · rcases hx with (hx | ⟨h1, h2, h3⟩) | hx
            · exact .inl (.inl hx)
            · refine .inl (.inr ⟨h1, h2, ?_⟩)
              rw [set_bit, Bool.or_eq_false_iff] at h3
              exact h3.1
            · exact .inr hx
          · rcases List.mem_cons.1 hp with rfl | hp
            · exact ⟨E, w, rfl, fun b _ => rfl, hE⟩
            · obtain ⟨E', w', h1, h2, h3⟩ := HH p hp
              exact ⟨E', w', h1, h2, fun b hb => (h3 b hb).imp id fun ⟨y, h4, h5⟩ => ⟨y, hD' _ h4, h5⟩⟩
      · split at hp <;> cases hp
    · rename_i l hp
      split at hp
      · cases hp
      · split at hp
        · cases hp
        · rename_i hnil
          injection hp with hp
          subst hp
          refine ⟨fun h0 => ?_, fun i hi => ?_⟩
          · exfalso
            -- something may come up
            cases hrl : readyOf L 0 (tROps P N ops (tLooks ops ops.toList) (closeR 0 (tLooks ops ops.toList) []) 0 ops.toList) with
            | nil => exact hnil hrl
            | cons p r =>
              have hm : p ∈ readyOf L 0 (tROps P N ops (tLooks ops ops.toList) (closeR 0 (tLooks ops ops.toList) []) 0 ops.toList) := by rw [hrl]; simp
              obtain ⟨_, h1, h2⟩ := readyOf_mem (i := p.1) (r := p.2) hm
              rw [Nat.sub_zero, rget] at h1
              obtain ⟨o, ho, he⟩ := Option.map_eq_some_iff.1 h1
              have := (isRdy hs hl hL ho (r := p.2) (by rw [← he])).1 h2
              rw [h0] at this
              cases this
          · obtain ⟨_, o, ho, _⟩ := mem_ready.1 hi
            have hin : i < ops.size := (Array.getElem?_eq_some_iff.1 ho).1
            have hg := rget i
            rw [ho] at hg
            have hmem := readyOf_spec (L := L) (Nat.zero_le i) (by simpa using hg) ((isRdy hs hl hL ho rfl).2 hi)
            have hq := allB_spec hq _ hmem
            dsimp only at hq
            rw [forceN_eq] at hq
            simp only [evAlt, stillK_eq, addPrK_eq] at hq
            obtain ⟨k1, k2, k3⟩ := setL' hin hs hl hL
            have hbi : Nat.testBit L i = false := by rw [← hl i hin]; exact (mem_ready.1 hi).1
            refine wpOp_mono ?_ (sound_evG call hcall ho (nm := base + i) (.inr ⟨by omega, by omega, by rw [Nat.add_sub_cancel_left]; exact hbi⟩) (fun x hx => ?_) hq (R.less fun x hx => hx) Q)
            · rintro a' w' ⟨⟨e', h', nx', pr'⟩, φ', hq', R', hp, hnx', F'⟩
              simp only [setPr] at hq'
              have hpp : ∀ x ∈ pr, x ∈ addPr pr (still (nthD 0 (closeR 0 (tLooks ops ops.toList) []) (Nat.sub (Nat.pred (tLooks ops ops.toList).length) i)) D) := fun x hx => addPr_mem.2 (.inl hx)
              have F'' := F'.mono hpp
              obtain ⟨s1, s2⟩ := HH.step (ops := ops) (D' := still (nthD 0 (closeR 0 (tLooks ops ops.toList) []) (Nat.sub (Nat.pred (tLooks ops ops.toList).length) i)) D) (i := i) F' R.inj (fun x b hx => (R.lt x b hx).1) (fun p hp hw y hy => by
                have hb : Nat.testBit (nthD 0 (closeR 0 (tLooks ops ops.toList) []) (Nat.sub (Nat.pred (tLooks ops ops.toList).length) i)) p.1 = false := by
                  rw [Bool.eq_false_iff]
                  intro hc
                  exact hw (pt_spec hin hc)
                have := still_mem hy hb
                exact ⟨this, addPr_mem.2 (.inr ⟨_, this⟩)⟩)
              refine ⟨s1, ?_⟩
              split at hq'
              · rename_i heq
                refine ih _ _ _ _ e' h' nx' φ' a' w' heq k1 k2 k3 (hsh.set hi) (Nat.le_trans hnx hnx') (R'.less fun x hx => ?_) (F.trans F'') s2
                rcases hx with (hx | ⟨h1, h2, h3⟩) | hx
                · exact .inl ⟨.inl hx, fun e => by have := hUx x hx; omega⟩
                · rw [set_bit, Bool.or_eq_false_iff] at h3
                  refine .inl ⟨.inr ⟨h1, h2, h3.1⟩, fun e => ?_⟩
                  subst e
                  have := h3.2
                  rw [Nat.add_sub_cancel_left] at this
                  simp at this
                · exact .inr hx
              · cases hq'
            · rcases hx with hx | hx
              · have := hUx x hx; omega
              · omega

end
end Go.VM
end

section
/- The machine VM, part 16: code, functions, calls from nothing. -/
set_option linter.unusedVariables false
set_option linter.unusedSectionVars false
set_option linter.unusedSimpArgs false
set_option linter.constructorNameAsVariable false
namespace Go.VM
open Go.RowKit
variable [Val]

section
variable {P : Program} {N : Nat} {B : Nat → Prop} {G : Nat → Nat → Value → Prop} {fr U : Nat → Prop} {φ : Loc} {a : Act} {w : World} {e : T V} {h : Heap} {nx : Nat} {pr : List Nat}

/-- what is said behind a piece of code -/
def Lift (N : Nat) (B : Nat → Prop) (G : Nat → Nat → Value → Prop) (U : Nat → Prop) (pr : List Nat) (nx : Nat) (φ : Loc) (w : World) (q : Out → Bool) : Exit → Act → World → Prop
  | .normal, a', w' => After N B G U pr nx φ w (fun s => q (.normal s)) a' w'
  | .exit id, a', w' => After N B G U pr nx φ w (fun s => q (.exit id s)) a' w'
  | .ret, a', w' => After N B G U pr nx φ w (fun s => q (.ret s)) a' w'
  | _, _, _ => False

theorem Lift.from {q : Out → Bool} {φ₁ : Loc} {w₁ : World} {nx₁ : Nat} (F : Fwd pr φ w φ₁ w₁) (hn : nx ≤ nx₁) {x : Exit} {a' : Act} {w' : World} (hh : Lift N B G U pr nx₁ φ₁ w₁ q x a' w') : Lift N B G U pr nx φ w q x a' w' := by
  cases x <;> simp only [Lift] at hh ⊢
  all_goals
    obtain ⟨s', φ', h1, h2, h3, h4, h5⟩ := hh
    exact ⟨s', φ', h1, h2, h3, Nat.le_trans hn h4, F.trans h5⟩

/-- What is to be known of functions that are told. -/
def PrimOk (P : Program) (G : Nat → Nat → Value → Prop) (prim : Prims) : Prop := ∀ (g : Nat) (h : Heap) (args : List V) (v : V), prim g h args = some v →
  (∃ fn, P.funcs[g]? = some fn ∧ (fn.name == "runtime.NumGoroutine") = false ∧ fn.body.isNone = false) ∧
  ∀ (B : Nat → Prop) (fr : Nat → Prop) (φ : Loc) (w : World) (vals : List Value), HeapAt B G fr φ h w → args.length = vals.length →
    (∀ (i : Nat) (c : V) (u : Value), args[i]? = some c → vals[i]? = some u → Rep w (Excl B φ) φ c u) →
    Calls P g vals.toArray w fun e w' => ∃ u, e = .returned u ∧ Below w.heap.size w w' ∧ Rep w' (Excl B φ) φ v u

/-- what code comes to -/
def CodeOk (P : Program) (G : Nat → Nat → Value → Prop) (go : CCode → S → (Out → Bool) → Bool) : Prop := ∀ (N : Nat) (c : Code) (e : T V) (h : Heap) (nx : Nat) (pr : List Nat) (q : Out → Bool), go (tCode P N c) ⟨e, h, nx, pr⟩ q = true →
  ∀ (B : Nat → Prop) (U : Nat → Prop) (φ : Loc) (a : Act) (w : World), (∀ x, U x → x < nx) → RelAt N B G (FR U nx) φ ⟨e, h, nx, pr⟩ a w → c.wp P (Lift N B G U pr nx φ w q) a w

/-! results -/

theorem params_spec : ∀ {args : List V} {k : Nat} {e : T V} {q : T V → Bool}, params k args e q = true → ∃ e', (∀ t, e'.get t = if k ≤ t ∧ t < k + args.length then args[t - k]? else e.get t) ∧ q e' = true
  | [], k, e, q, h => ⟨e, fun t => by simp; omega, h⟩
  | c :: r, k, e, q, h => by
    simp only [params, force_eq] at h
    obtain ⟨e₁, hp, h⟩ := T.putK_spec h
    obtain ⟨e', h1, h2⟩ := params_spec h
    refine ⟨e', fun t => ?_, h2⟩
    rw [h1 t]
    simp only [List.length_cons, Nat.succ_eq_add_one]
    by_cases ht : t = k
    · subst ht
      rw [if_neg (by omega), if_pos (by omega), hp, if_pos rfl]
      simp
    · by_cases h3 : k + 1 ≤ t ∧ t < k + 1 + r.length
      · rw [if_pos h3, if_pos (by omega), show t - k = (t - (k + 1)) + 1 from by omega]
        simp
      · rw [if_neg h3, if_neg (by omega), hp, if_neg ht]

def resOne (tmps : Array Value) : ResultVar → Sem Value
  | .tmp t => pure (tmps.getD t undef)
  | .cell a t => do loadVar t (← asAddr (tmps.getD a undef))

theorem res_one (R : RelAt N B G fr φ ⟨e, h, nx, pr⟩ a w) {r : ResultVar} {v : V} (hr : resv e h (tRes P r) = some v) : ∃ u, (resOne a.tmps r).run P w = .ok u w ∧ Rep w (Excl B φ) φ v u := by
  cases r with
  | tmp t => exact ⟨_, rfl, (R.env t v hr).2⟩
  | cell p t =>
    simp only [tRes] at hr
    split at hr
    · rename_i agg k hg hk
      simp only [resv] at hr
      split at hr
      · rename_i x off hx
        split at hr
        · rename_i cs hs
          split at hr
          · rename_i hle
            have hle := Nat.le_of_ble_eq_true hle
            obtain ⟨b, hb, vs, t', z, hh, hz, hlen, hp⟩ := R.st x _ hs
            obtain ⟨ad, hv, _, _, had⟩ := rep_ptr (R.env p _ hx).2
            obtain rfl := had b hb
            obtain ⟨u, h4, h5⟩ := load_of_cells (P := P) (w := w) (X := Excl B φ) (φ := φ) (b := b) (of := off) hg hk (cut_len hle) (fun i d hd => by
              obtain ⟨h1, h2⟩ := cut_get hd
              have hlt : off + i < vs.size := by omega
              exact ⟨vs[off + i], by rw [cell_of_heap hh]; simp [hlt], (hp (off + i) d _ h2 (by simp [hlt])).1⟩) hr
            refine ⟨u, ?_, h5⟩
            simp only [resOne, Sem.run_bind, hv]
            simpa [asAddr] using h4 w rfl
          · cases hr
        · cases hr
      · cases hr
    · cases hr

theorem ress_run (R : RelAt N B G fr φ ⟨e, h, nx, pr⟩ a w) : ∀ {l : List ResultVar} {vs : List V}, ress e h (tRess P l) = some vs → ∃ us : List Value, (l.mapM (m := Sem) (resOne a.tmps)).run P w = .ok us w ∧ vs.length = us.length ∧ ∀ (i : Nat) (c : V) (u : Value), vs[i]? = some c → us[i]? = some u → Rep w (Excl B φ) φ c u
  | [], vs, hr => by
    simp only [tRess, ress, Option.some.injEq] at hr
    subst hr
    exact ⟨[], rfl, rfl, fun i c u h => by cases h⟩
  | r :: l, vs, hr => by
    simp only [tRess, ress] at hr
    split at hr
    · rename_i v l' hv hl
      injection hr with hr
      subst hr
      obtain ⟨u, h1, h2⟩ := res_one R hv
      obtain ⟨us, h3, h4, h5⟩ := ress_run R hl
      refine ⟨u :: us, by rw [List.mapM_cons]; simp only [Sem.run_bind, h1, Result.andThen_ok, h3, Sem.run_pure], by simp [h4], fun i c x g1 g2 => ?_⟩
      cases i with
      | zero => simp at g1 g2; subst g1; subst g2; exact h2
      | succ i => exact h5 i c x (by simpa using g1) (by simpa using g2)
    · cases hr

theorem result_run (R : RelAt N B G fr φ ⟨e, h, nx, pr⟩ a w) {fn : Func} {v : V} (hr : result e h (tRess P fn.results.toList) = some v) : ∃ u, (results fn a.tmps).run P w = .ok u w ∧ Rep w (Excl B φ) φ v u := by
  have hres : ∀ us : List Value, (fn.results.toList.mapM (m := Sem) (resOne a.tmps)).run P w = .ok us w → (results fn a.tmps).run P w = .ok (if h : us.toArray.size = 1 then us.toArray[0] else .tuple us.toArray) w := fun us hus => by
    have e1 : (fn.results.mapM (m := Sem) (resOne a.tmps)).run P w = .ok us.toArray w := by
      rw [Array.mapM_eq_mapM_toList]
      simp [hus]
    show ((fn.results.mapM (m := Sem) (resOne a.tmps)) >>= fun vs => pure (if h : vs.size = 1 then vs[0] else .tuple vs)).run P w = _
    simp only [Sem.run_bind, e1, Result.andThen_ok, Sem.run_pure]
  unfold result at hr
  split at hr
  · rename_i v' hv
    injection hr with hr
    subst hr
    obtain ⟨us, h1, h2, h3⟩ := ress_run R hv
    match us, h2 with
    | [u], _ => exact ⟨u, by rw [hres _ h1]; simp, h3 0 v' u rfl rfl⟩
  · rename_i vs hne hv
    injection hr with hr
    subst hr
    obtain ⟨us, h1, h2, h3⟩ := ress_run R hv
    refine ⟨.tuple us.toArray, ?_, .tup vs us h2 h3⟩
    rw [hres _ h1, dif_neg]
    intro h
    have : vs.length = 1 := by rw [h2]; simpa using h
    match vs, this with
    | [v'], _ => exact hne v' rfl
  · cases hr

/-- A call, of what code comes to. -/
theorem enter_ok {go : CCode → S → (Out → Bool) → Bool} (hgo : CodeOk P G go) {g : Nat} {args : List V} {h : Heap} {nx : Nat} {pr : List Nat} {q : V → Heap → Nat → Bool} (hq : enter go args h nx pr q (fnOf P P.funcs[g]?) = true) :
    (∃ fn, P.funcs[g]? = some fn ∧ (fn.name == "runtime.NumGoroutine") = false ∧ fn.body.isNone = false) ∧
    ∀ (B : Nat → Prop) (U : Nat → Prop) (φ : Loc) (w : World) (vals : List Value), HeapAt B G (FR U nx) φ h w → (∀ x, U x → x < nx) → args.length = vals.length →
      (∀ (i : Nat) (c : V) (v : Value), args[i]? = some c → vals[i]? = some v → Rep w (Excl B φ) φ c v) →
      Calls P g vals.toArray w fun e w' => ∃ v c φ' h' nx', e = .returned v ∧ q c h' nx' = true ∧ HeapAt B G (FR U nx') φ' h' w' ∧ nx ≤ nx' ∧ Fwd pr φ w φ' w' ∧ Rep w' (Excl B φ') φ' c v := by
  cases hf : P.funcs[g]? with
  | none => rw [hf] at hq; cases hq
  | some fn =>
  rw [hf] at hq
  simp only [fnOf, tFn] at hq
  split at hq
  · · rename_i c hb hname
      refine ⟨⟨fn, rfl, hname, by rw [hb]; rfl⟩, fun B U φ w vals H hU hlen hargs => ?_⟩
      simp only [enter] at hq
      split at hq
      · rename_i hle
        have hle := Nat.le_of_ble_eq_true hle
        obtain ⟨e, he, hq⟩ := params_spec hq
        refine calls_of_wp hf hb ?_
        have R : RelAt fn.ntmps B G (FR U nx) φ ⟨e, h, nx, pr⟩ { tmps := vals.toArray ++ Array.replicate (fn.ntmps - vals.toArray.size) undef, defers := [] } w :=
          { H with
            size := by simp; omega
            defers := rfl
            env := fun t c' ht => by
              have ht : e.get t = some c' := ht
              rw [he t] at ht
              split at ht
              · rename_i hlt
                rw [Nat.sub_zero] at ht
                have hlv : t < vals.length := by omega
                refine ⟨by omega, hargs t c' _ ht ?_⟩
                simp only [Array.getD]
                split
                · rw [List.getElem?_eq_getElem hlv]
                  simp [Array.getElem_append, hlv]
                · rename_i hn; simp at hn; omega
              · rw [T.get_e] at ht; cases ht }
        refine wp_mono (hgo fn.ntmps c e h nx pr _ hq B U φ _ w hU R) fun x a' w' hh => ?_
        have fin : ∀ {s' : S} {φ' : Loc}, RelAt fn.ntmps B G (FR U s'.nx) φ' s' a' w' → nx ≤ s'.nx → Fwd pr φ w φ' w' → (match result s'.env s'.h (tRess P fn.results.toList) with | some v => force v fun v => q v s'.h s'.nx | none => false) = true →
            a'.defers = [] ∧ ∃ v, (results fn a'.tmps).run P w' = .ok v w' ∧ ∃ v' c φ' h' nx', Ending.returned v = .returned v' ∧ q c h' nx' = true ∧ HeapAt B G (FR U nx') φ' h' w' ∧ nx ≤ nx' ∧ Fwd pr φ w φ' w' ∧ Rep w' (Excl B φ') φ' c v' := by
          rintro ⟨e', h', nx', pr'⟩ φ' R' hn F hk
          dsimp only at hk
          split at hk
          · rename_i v hv
            rw [force_eq] at hk
            obtain ⟨u, hu, hrep⟩ := result_run R' hv
            exact ⟨R'.defers, u, hu, u, v, φ', h', nx', rfl, hk, R'.toHeapAt, hn, F, hrep⟩
          · cases hk
        cases x <;> simp only [Lift, bodyPost] at hh ⊢
        · obtain ⟨s', φ', h1, h2, h3, h4, h5⟩ := hh
          exact fin h2 h4 h5 h1
        · obtain ⟨s', φ', h1, h2, h3, h4, h5⟩ := hh
          cases h1
        · obtain ⟨s', φ', h1, h2, h3, h4, h5⟩ := hh
          exact fin h2 h4 h5 h1
      · cases hq
  · cases hq

theorem callF_ok {prim : Prims} (hp : PrimOk P G prim) {go : CCode → S → (Out → Bool) → Bool} (hgo : CodeOk P G go) : CallOk P G (callF P prim go) := by
  intro g args h nx pr q hq
  simp only [callF] at hq
  split at hq
  · rename_i v hv
    rw [force_eq] at hq
    obtain ⟨h1, h2⟩ := hp g h args v hv
    refine ⟨h1, fun B U φ w vals H hU hlen hargs => (h2 B _ φ w vals H hlen hargs).mono ?_⟩
    rintro e w' ⟨u, rfl, hB, hrep⟩
    have F : Fwd pr φ w φ w' := ⟨hB.os, hB.tape, hB.output, hB.size, fun b hb _ => hB.block b hb, fun x b hx => .inl ⟨x, hx, .inl rfl⟩, fun x v hx => .inl hx, keep_of hB.block⟩
    refine ⟨u, v, φ, h, nx, rfl, hq, H.step F (fun x k hk => .inl ⟨hk, rfl, fun b hb => hB.block b (H.lt x b hb).1⟩) H.inj (fun x b hx => ?_) H.free, Nat.le_refl _, F, hrep⟩
    have := H.lt x b hx
    exact ⟨Nat.lt_of_lt_of_le this.1 hB.size, this.2⟩
  · exact enter_ok hgo hq

theorem RelAt.drew (R : RelAt N B G fr φ ⟨e, h, nx, pr⟩ a w) : RelAt N B G fr φ ⟨e, h, nx, pr⟩ a w.drew ∧ Fwd pr φ w φ w.drew := by
  have F : Fwd pr φ w φ w.drew := ⟨rfl, rfl, rfl, Nat.le_refl _, fun _ _ _ => rfl, fun x b hx => .inl ⟨x, hx, .inl rfl⟩, fun x v hx => .inl hx, keep_of fun _ _ => rfl⟩
  exact ⟨R.step (pr'' := pr) (nx' := nx) F (R.toHeapAt.step F (fun x k hk => .inl ⟨hk, rfl, fun b hb => rfl⟩) R.inj (fun x b hx => R.lt x b hx) R.free), F⟩

theorem region_ok (call : Calling) (hcall : CallOk P G call) {id : Nat} {ops : Array Oper} {q : Out → Bool} (hq : runRegion call (tOpers P N ops ops.toList) q ⟨e, h, nx, pr⟩ = true) (hU : ∀ x, U x → x < nx) (R : RelAt N B G (FR U nx) φ ⟨e, h, nx, pr⟩ a w) :
    (Code.region id ops false).wp P (Lift N B G U pr nx φ w q) a w := by
  simp only [runRegion, forceN_eq, tOpers_len] at hq
  refine wp_region ?_
  have hlen : ops.toList.length = ops.size := by simp
  rw [hlen] at hq
  have hq : evR call (nx + 0) (tOpers P N ops ops.toList) ⟨e, h, nx + ops.size, pr⟩ (fun s => q (.normal s)) = true := hq
  have := sound_evR (U := U) (Q := Lift N B G U pr nx φ w q) call hcall (base := nx) (n := ops.size) (nx₀ := nx + ops.size) (φ₀ := φ) (w₀ := w) hU (Nat.le_refl _) (fun a' w' ⟨s', φ', h1, h2, h3, h4, h5⟩ => ⟨s', φ', h1, h2, h3, by omega, h5⟩) ops.toList 0 e h (nx + ops.size) φ a w (fun i => by simp) (by simp) hq (Nat.le_refl _) (R.less fun x hx => by
    rcases hx with (hx | hx) | hx
    · exact .inl hx
    · exact .inr (by omega)
    · exact .inr (by omega)) (Fwd.refl _ _ _)
  rw [hlen] at this
  rw [List.range_eq_range']
  exact this

theorem drawn_ok (call : Calling) (hcall : CallOk P G call) {id : Nat} {ops : Array Oper} (hm : P.follows .mixedOrders = true) (hsel : Region.noSelect ops = true) {q : Out → Bool} (hq : runDrawn call (tROps P N ops (tLooks ops ops.toList) (closeR 0 (tLooks ops ops.toList) []) 0 ops.toList) q ⟨e, h, nx, pr⟩ = true) (hU : ∀ x, U x → x < nx) (R : RelAt N B G (FR U nx) φ ⟨e, h, nx, pr⟩ a w) :
    (Code.region id ops true).wp P (Lift N B G U pr nx φ w q) a w := by
  have hlen : (tROps P N ops (tLooks ops ops.toList) (closeR 0 (tLooks ops ops.toList) []) 0 ops.toList).length = ops.size := by
    have : ∀ (ks : List (Option Nat × List Nat × Nat)) (ts : List Nat) (l : List Oper) (k : Nat), (tROps P N ops ks ts k l).length = l.length := fun ks ts l => by
      induction l with
      | nil => intro k; rfl
      | cons o r ih => intro k; simp [tROps, ih]
    rw [this]; simp
  simp only [runDrawn, forceN_eq, hlen] at hq
  obtain ⟨R', F⟩ := R.drew
  refine wp_region_any hm (wpAny_of_E _ [] _ _ _ ?_)
  exact sound_evD (U := U) (Q := Lift N B G U pr nx φ w q) call hcall hsel (fun c a w h => h) (base := nx) (nx₀ := nx + ops.size) (K := fun s => q (.normal s)) (φ₀ := φ) (w₀ := w.drew) hU (Nat.le_refl _) (fun a' w' ⟨s', φ', h1, h2, h3, h4, h5⟩ => ⟨s', φ', h1, h2, h3, by omega, F.trans h5⟩)
    ops.size 0 [] [] _ e h (nx + ops.size) φ a w.drew hq (by simp) (fun i hi => by simp [Array.getD, hi]) (fun i hi => by simp at hi) (fun j i hj => by simp [Array.getD] at hj) (Nat.le_refl _) (R'.less fun x hx => by
      rcases hx with (hx | hx) | hx
      · exact .inl hx
      · exact .inr (by omega)
      · exact .inr (by omega)) (Fwd.refl _ _ _) (fun p hp => by cases hp)

end
end Go.VM
end

section
/- The machine VM, part 17: code to any depth; a call from nothing. -/
set_option linter.unusedVariables false
set_option linter.unusedSectionVars false
set_option linter.unusedSimpArgs false
set_option linter.constructorNameAsVariable false
namespace Go.VM
open Go.RowKit
variable [Val]

section
variable {P : Program} {N : Nat} {B : Nat → Prop} {G : Nat → Nat → Value → Prop} {fr U : Nat → Prop} {φ : Loc} {a : Act} {w : World} {e : T V} {h : Heap} {nx : Nat} {pr : List Nat}

theorem lift_then {c : Code} {q : Out → Bool} {k : S → (Out → Bool) → Bool} {next : Act → World → Prop}
    (h : c.wp P (Lift N B G U pr nx φ w (thenK k q)) a w)
    (hk : ∀ (e' : T V) (h' : Heap) (nx' : Nat) (φ' : Loc) (a' : Act) (w' : World), k ⟨e', h', nx', pr⟩ q = true → RelAt N B G (FR U nx') φ' ⟨e', h', nx', pr⟩ a' w' → nx ≤ nx' → Fwd pr φ w φ' w' → next a' w') :
    c.wp P (Exit.then next (Lift N B G U pr nx φ w q)) a w := by
  refine wp_mono h fun x a' w' hh => ?_
  cases x with
  | normal =>
    obtain ⟨⟨e', h', nx', pr'⟩, φ', h1, h2, h3, h4, h5⟩ := hh
    have h3 : pr = pr' := h3.symm
    subst h3
    exact hk e' h' nx' φ' a' w' h1 h2 h4 h5
  | exit id => exact hh
  | ret => exact hh
  | goto l => exact hh
  | panic ch => exact hh
  | outgrown => exact hh

theorem code_ok {prim : Prims} (hp : PrimOk P G prim) : ∀ n, CodeOk P G (run P prim n) ∧ ∀ (N : Nat) (c : Code) (e : T V) (h : Heap) (nx : Nat) (pr : List Nat) (q : Out → Bool), run P prim n (.loop (tCode P N c)) ⟨e, h, nx, pr⟩ q = true →
    ∀ (B : Nat → Prop) (U : Nat → Prop) (φ : Loc) (a : Act) (w : World), (∀ x, U x → x < nx) → RelAt N B G (FR U nx) φ ⟨e, h, nx, pr⟩ a w → Code.rounds P c (Lift N B G U pr nx φ w q) n a w
  | 0 => ⟨fun N c e h nx pr q hq => absurd hq (by simp [run]), fun N c e h nx pr q hq => absurd hq (by simp [run])⟩
  | n + 1 => by
    obtain ⟨ih, il⟩ := code_ok hp n
    have hL : ∀ (N : Nat) (c : Code) (e : T V) (h : Heap) (nx : Nat) (pr : List Nat) (q : Out → Bool), run P prim (n + 1) (.loop (tCode P N c)) ⟨e, h, nx, pr⟩ q = true →
        ∀ (B : Nat → Prop) (U : Nat → Prop) (φ : Loc) (a : Act) (w : World), (∀ x, U x → x < nx) → RelAt N B G (FR U nx) φ ⟨e, h, nx, pr⟩ a w → Code.rounds P c (Lift N B G U pr nx φ w q) (n + 1) a w := by
      intro N c e h nx pr q hq B U φ a w hU R
      rw [rounds_succ]
      refine lift_then (k := run P prim n (.loop (tCode P N c))) (ih N c e h nx pr _ hq B U φ a w hU R) fun e' h' nx' φ' a' w' hq' R' hn F => ?_
      have := il N c e' h' nx' pr q hq' B U φ' a' w' (fun x hx => Nat.lt_of_lt_of_le (hU x hx) hn) R'
      have mono : ∀ m a₁ w₁, Code.rounds P c (Lift N B G U pr nx' φ' w' q) m a₁ w₁ → Code.rounds P c (Lift N B G U pr nx φ w q) m a₁ w₁ := by
        intro m
        induction m with
        | zero => intro a₁ w₁ h; exact h
        | succ m ihm =>
          intro a₁ w₁ h
          rw [rounds_succ] at h ⊢
          refine wp_mono h fun x a₂ w₂ hh => ?_
          cases x with
          | normal => exact ihm _ _ hh
          | exit id => exact Lift.from F hn (x := .exit id) hh
          | ret => exact Lift.from F hn (x := .ret) hh
          | goto l => exact hh
          | panic ch => exact hh
          | outgrown => exact hh
      exact mono n a' w' this
    refine ⟨fun N c e h nx pr q hq B U φ a w hU R => ?_, hL⟩
    cases c with
    | skip => exact wp_skip ⟨_, φ, hq, R, rfl, Nat.le_refl _, Fwd.refl _ _ _⟩
    | exit id => exact wp_exit ⟨_, φ, hq, R, rfl, Nat.le_refl _, Fwd.refl _ _ _⟩
    | ret => exact wp_ret ⟨_, φ, hq, R, rfl, Nat.le_refl _, Fwd.refl _ _ _⟩
    | seq x y =>
      refine wp_seq (lift_then (k := run P prim n (tCode P N y)) (ih N x e h nx pr _ hq B U φ a w hU R) fun e' h' nx' φ' a' w' hq' R' hn F => ?_)
      exact wp_mono (ih N y e' h' nx' pr q hq' B U φ' a' w' (fun x hx => Nat.lt_of_lt_of_le (hU x hx) hn) R') fun x a w hh => Lift.from F hn hh
    | cond x y z =>
      have hq : condK (run P prim n (tCode P N y) ⟨e, h, nx, pr⟩ q) (run P prim n (tCode P N z) ⟨e, h, nx, pr⟩ q) (VM.opd e (tOpd x)) = true := hq
      unfold condK at hq
      split at hq
      · rename_i hx; exact wp_cond_true (rep_b (R.opd hx)) (ih N y e h nx pr q hq B U φ a w hU R)
      · rename_i hx; exact wp_cond_false (rep_b (R.opd hx)) (ih N z e h nx pr q hq B U φ a w hU R)
      · cases hq
    | block id c =>
      refine wp_block (wp_mono (ih N c e h nx pr _ hq B U φ a w hU R) fun x a' w' hh => ?_)
      cases x with
      | normal => exact hh
      | exit id' =>
        obtain ⟨s', φ', h1, h2, h3, h4, h5⟩ := hh
        simp only [blockK] at h1
        split at h1
        · rename_i hb
          have hb := Nat.eq_of_beq_eq_true hb
          subst hb
          show ite _ _ _
          rw [if_pos rfl]
          exact ⟨s', φ', h1, h2, h3, h4, h5⟩
        · rename_i hb
          have hb := Nat.ne_of_beq_eq_false hb
          show ite _ _ _
          rw [if_neg hb]
          exact ⟨s', φ', h1, h2, h3, h4, h5⟩
      | ret => exact hh
      | goto l => exact hh
      | panic ch => exact hh
      | outgrown => exact hh
    | loop c => exact wp_loop_rounds (n + 1) (hL N c e h nx pr q hq B U φ a w hU R)
    | region id ops d =>
      cases d with
      | false => exact region_ok _ (callF_ok hp ih) hq hU R
      | true =>
        simp only [tCode] at hq
        split at hq
        · rename_i hm
          rw [Bool.and_eq_true] at hm
          exact drawn_ok _ (callF_ok hp ih) hm.1 hm.2 hq hU R
        · cases hq
    | _ => cases hq

/-- A call from nothing: what its arguments stand for, it may only read. Names below nx stand for nothing that is told. -/
def startH (P : Program) (prim : Prims) (n f : Nat) (args : List V) (nx : Nat) (q : V → Heap → Bool) : Bool :=
  enter (run P prim n) args .e nx [] (fun v h _ => q v h) (fnOf P P.funcs[f]?)
def startN (P : Program) (prim : Prims) (n f : Nat) (args : List V) (nx : Nat) (q : V → Bool) : Bool := startH P prim n f args nx fun v _ => q v

/-- names below nx are given away -/
def Gone (nx : Nat) : Loc := fun x => if x < nx then some none else none

theorem gone_some {nx x b : Nat} (h : Gone nx x = some (some b)) : False := by
  unfold Gone at h
  split at h <;> cases h

theorem excl_gone (nx : Nat) : Excl (fun _ => False) (Gone nx) = fun _ => False := by
  funext b
  apply propext
  constructor
  · rintro (h | ⟨x, h⟩)
    · exact h
    · exact gone_some h
  · exact False.elim

/-- what is said of cells that belong to nobody -/
def GAt (G : Nat → Nat → Value → Prop) (w : World) : Prop := ∀ b o v, G b o v → b < w.heap.size ∧ w.cell? ⟨b, o, none⟩ = some v

theorem start_okH {prim : Prims} (hp : PrimOk P G prim) {n f nx : Nat} {args : List V} {q : V → Heap → Bool} (hq : startH P prim n f args nx q = true) (w : World) (hG : GAt G w) (vals : List Value) (hlen : args.length = vals.length)
    (hargs : ∀ (i : Nat) (c : V) (v : Value), args[i]? = some c → vals[i]? = some v → Rep w (fun _ => False) (Gone nx) c v) :
    Calls P f vals.toArray w fun e w' => ∃ v c φ h fr, e = .returned v ∧ q c h = true ∧ Below w.heap.size w w' ∧ HeapAt (fun _ => False) G fr φ h w' ∧ (∀ x b, φ x = some (some b) → w.heap.size ≤ b) ∧ Rep w' (Excl (fun _ => False) φ) φ c v := by
  have H : HeapAt (fun _ => False) G (FR (fun _ => False) nx) (Gone nx) .e w :=
    { st := fun x k h => by rw [T.get_e] at h; cases h
      inj := fun x y b h => (gone_some h).elim
      lt := fun x b h => (gone_some h).elim
      ltB := fun b h => h.elim
      free := fun x h => by
        rcases h with h | h
        · exact h.elim
        · unfold Gone; rw [if_neg (by omega)]
      gl := fun b o v h => ⟨⟨(hG b o v h).1, fun x hx => gone_some hx⟩, (hG b o v h).2⟩ }
  refine ((enter_ok (code_ok hp n).1 hq).2 (fun _ => False) (fun _ => False) (Gone nx) w vals H (fun x h => h.elim) hlen (fun i c v h1 h2 => by rw [excl_gone]; exact hargs i c v h1 h2)).mono ?_
  rintro e w' ⟨v, c, φ', h', nx', rfl, hc, H', hn, F, hr⟩
  refine ⟨v, c, φ', h', _, rfl, hc, ⟨F.os, F.tape, F.output, F.size, fun k hk => F.block k hk fun x hx => (gone_some hx).elim⟩, H', fun x b hx => ?_, hr⟩
  rcases F.new x b hx with ⟨y, hy, _⟩ | h
  · exact (gone_some hy).elim
  · exact h

theorem start_ok {prim : Prims} (hp : PrimOk P G prim) {n f nx : Nat} {args : List V} {q : V → Bool} (hq : startN P prim n f args nx q = true) (w : World) (hG : GAt G w) (vals : List Value) (hlen : args.length = vals.length)
    (hargs : ∀ (i : Nat) (c : V) (v : Value), args[i]? = some c → vals[i]? = some v → Rep w (fun _ => False) (Gone nx) c v) :
    Calls P f vals.toArray w fun e w' => ∃ v c X φ, e = .returned v ∧ q c = true ∧ Below w.heap.size w w' ∧ Rep w' X φ c v :=
  (start_okH hp hq w hG vals hlen hargs).mono fun e w' ⟨v, c, φ, h, fr, h1, h2, h3, h4, h5, h6⟩ => ⟨v, c, _, φ, h1, h2, h3, h6⟩

theorem isTrue_rep {X : Nat → Prop} {c : V} {v : Value} (h : isTrue c = true) (hr : Rep w X φ c v) : v = .bool true := by
  unfold isTrue at h
  split at h
  · rename_i b; subst h; exact rep_b hr
  · cases h

/-- A law's call. -/
theorem start_true {prim : Prims} (hp : PrimOk P G prim) {n f nx : Nat} {args : List V} (hq : startN P prim n f args nx isTrue = true) (w : World) (hG : GAt G w) (vals : List Value) (hlen : args.length = vals.length)
    (hargs : ∀ (i : Nat) (c : V) (v : Value), args[i]? = some c → vals[i]? = some v → Rep w (fun _ => False) (Gone nx) c v) :
    Calls P f vals.toArray w fun e w' => e = .returned (.bool true) ∧ Below w.heap.size w w' :=
  (start_ok hp hq w hG vals hlen hargs).mono fun e w' ⟨v, c, X, φ, he, hc, hB, hr⟩ => ⟨by rw [he, isTrue_rep hc hr], hB⟩

end
end Go.VM
end

section
/- The machine VM, part 18: what is known of functions: texts that are searched, and calls whose answer was told once (arguments that are read alone). -/
set_option linter.unusedVariables false
set_option linter.unusedSectionVars false
set_option linter.unusedSimpArgs false
set_option linter.constructorNameAsVariable false
namespace Go.VM
open Go.RowKit
variable [Val]

section
variable {P : Program} {N : Nat} {B : Nat → Prop} {G : Nat → Nat → Value → Prop} {fr U : Nat → Prop} {φ : Loc} {w : World} {h : Heap}

/-! ### texts -/

def findB : List Nat → Nat → Nat → Int
  | [], _, _ => .negSucc 0
  | a :: r, b, i => match Nat.beq a b with | true => .ofNat i | false => findB r b (Nat.succ i)

def offI (i : Nat) (x : Int) : Int := if x = -1 then -1 else x + i

theorem findB_eq (c : UInt8) : ∀ (l : List UInt8) (i : Nat), findB (l.map UInt8.toNat) c.toNat i = offI i (Lib.indexByte l c)
  | [], i => rfl
  | b :: l, i => by
    simp only [List.map_cons, findB, Lib.indexByte]
    have hb : (b == c) = Nat.beq b.toNat c.toNat := by
      cases h : Nat.beq b.toNat c.toNat with
      | true => rw [UInt8.toNat_inj.1 (Nat.eq_of_beq_eq_true h)]; simp
      | false =>
        have := Nat.ne_of_beq_eq_false h
        rw [beq_eq_false_iff_ne]
        exact fun e => this (by rw [e])
    rw [hb]
    cases Nat.beq b.toNat c.toNat with
    | true => simp [offI]
    | false =>
      simp only [Bool.false_eq_true, if_false, beq_iff_eq]
      rw [findB_eq c l]
      have := Lib.indexByte_ge l c
      unfold offI
      by_cases h1 : Lib.indexByte l c = -1
      · simp [h1]
      · rw [if_neg h1, if_neg h1, if_neg (by omega)]
        simp only [Nat.succ_eq_add_one]
        omega

def isAt : List Nat → List Nat → Bool
  | _, [] => true
  | [], _ => false
  | a :: r, b :: s => match Nat.beq a b with | true => isAt r s | false => false
def hasSub (t : List Nat) : List Nat → Bool
  | [] => match t with | [] => true | _ => false
  | a :: r => match isAt (a :: r) t with | true => true | false => hasSub t r

theorem isAt_eq : ∀ (l t : List UInt8), isAt (l.map UInt8.toNat) (t.map UInt8.toNat) = t.isPrefixOf l
  | l, [] => by cases l <;> simp [isAt]
  | [], b :: t => by simp [isAt]
  | a :: l, b :: t => by
    simp only [List.map_cons, isAt, List.isPrefixOf]
    rw [isAt_eq l t]
    cases h : Nat.beq a.toNat b.toNat with
    | true => rw [UInt8.toNat_inj.1 (Nat.eq_of_beq_eq_true h)]; simp
    | false =>
      have h := Nat.ne_of_beq_eq_false h
      have : (b == a) = false := by rw [beq_eq_false_iff_ne]; exact fun e => h (by rw [e])
      simp [this]

theorem hasSub_eq (t : List UInt8) : ∀ l : List UInt8, hasSub (t.map UInt8.toNat) (l.map UInt8.toNat) = Lib.contains l t
  | [] => by cases t <;> simp [hasSub, Lib.contains, Lib.index]
  | a :: l => by
    have h1 := isAt_eq (a :: l) t
    simp only [List.map_cons] at h1
    simp only [List.map_cons, hasSub]
    rw [h1, hasSub_eq t l]
    simp only [Lib.contains, Lib.index, beq_iff_eq]
    cases t.isPrefixOf (a :: l) with
    | true => simp
    | false =>
      have := Lib.index_ge l t
      simp only [Bool.false_eq_true, if_false]
      by_cases h : Lib.index l t = -1
      · simp [h]
      · rw [if_neg h]
        congr 1
        apply propext
        constructor <;> intro _ <;> omega

/-- functions of Go's library that search texts, by their numbers -/
structure StrFns (P : Program) (k1 k2 g0 : Nat) : Prop where
  ib : ∀ (s : ByteArray) (c : Int) (w : World), Calls P k1 #[.string s, .int .u8 c] w fun e w' => e = .returned (.int .i64 (Lib.indexByte s.data.toList c.toNat.toUInt8)) ∧ w' = w
  ct : ∀ (s sub : ByteArray) (m : Int) (w : World), s.size < 4294967281 → w.cell? ⟨g0, 0, none⟩ = some (.int .i64 m) → Calls P k2 #[.string s, .string sub] w fun e w' => e = .returned (.bool (Lib.contains s.data.toList sub.data.toList)) ∧ w' = w
  e1 : ∃ fn, P.funcs[k1]? = some fn ∧ (fn.name == "runtime.NumGoroutine") = false ∧ fn.body.isNone = false
  e2 : ∃ fn, P.funcs[k2]? = some fn ∧ (fn.name == "runtime.NumGoroutine") = false ∧ fn.body.isNone = false

def strI : List V → Option V
  | [.str s, .raw (.int .u8 (.ofNat b))] => match Nat.blt b 256 with | true => some (.raw (.int .i64 (findB s b 0))) | false => none
  | _ => none
def strC : List V → Option V
  | [.str s, .str t] => match Nat.blt s.length 4294967281 with | true => some (.raw (.bool (hasSub t s))) | false => none
  | _ => none

/-! ### data, and what stands for it -/

inductive D where
  | num (k : IntKind) (n : Int)
  | bool (b : Bool)
  | str (l : List Nat)
  | nils
  | sl (sz n : Nat) (cs : List D)
  | agg (cs : List D)
  deriving Inhabited

def D.cell : Nat → D → V
  | 0, _ => .any
  | d + 1, c => match c with
    | .num k n => .raw (.int k n)
    | .bool b => .raw (.bool b)
    | .str l => .str l
    | .nils => .raw (.slice none 0 0)
    | .sl sz n cs => .fro sz n fun j i => match cs[j * sz + i]? with | some c => D.cell d c | none => .any
    | .agg _ => .any

def D.val (d : Nat) : D → V
  | .agg cs => .agg (cs.map (D.cell d))
  | c => D.cell d c

theorem cell_nl (d : Nat) (c : D) : (D.cell d c).nl 4 = true := by
  cases d with
  | zero => rfl
  | succ d => cases c <;> rfl

mutual
def eqD : Nat → Heap → D → V → Bool
  | 0, _, _, _ => false
  | d + 1, h, c, v => match c with
    | .num k n => match v with | .raw (.int k' n') => decide (k = k') && eqI n n' | _ => false
    | .bool b => match v with | .raw (.bool b') => eqB b b' | _ => false
    | .str l => match v with | .str l' => eqL l l' | _ => false
    | .nils => match v with | .raw (.slice none 0 0) => true | _ => false
    | .agg _ => false
    | .sl sz n cs => match v with
      | .sl x sz' off n' cap => match Nat.beq sz sz' && Nat.beq n n' && Nat.beq cs.length (n * sz), h.get x with
        | true, some (.cells us) => match Nat.ble (off + n * sz) us.length with
          | true => eqDs d h cs (cut us off (n * sz))
          | false => false
        | _, _ => false
      | .fro sz' n' g => match Nat.beq sz sz' && Nat.beq n n' && Nat.beq cs.length (n * sz) with
        | true => eqDs d h cs ((List.range n).map fun j => cellsAt (g j) 0 sz).flatten
        | false => false
      | _ => false
def eqDs : Nat → Heap → List D → List V → Bool
  | _, _, [], [] => true
  | d, h, c :: r, v :: s => match eqD d h c v with | true => eqDs d h r s | false => false
  | _, _, _, _ => false
end

theorem eqDs_get {d : Nat} {h : Heap} : ∀ {cs : List D} {vs : List V}, eqDs d h cs vs = true → cs.length = vs.length ∧ ∀ (i : Nat) (c : D) (v : V), cs[i]? = some c → vs[i]? = some v → eqD d h c v = true
  | [], [], _ => ⟨rfl, fun i c v h => by cases h⟩
  | c :: r, v :: s, hq => by
    unfold eqDs at hq
    split at hq
    · rename_i h1
      obtain ⟨h2, h3⟩ := eqDs_get hq
      refine ⟨by simp [h2], fun i c' v' g1 g2 => ?_⟩
      cases i with
      | zero => simp at g1 g2; subst g1; subst g2; exact h1
      | succ i => exact h3 i c' v' (by simpa using g1) (by simpa using g2)
    · cases hq
  | [], _ :: _, hq => by unfold eqDs at hq; cases hq
  | _ :: _, [], hq => by unfold eqDs at hq; cases hq

theorem gone0 : Gone 0 = fun _ => none := by funext x; simp [Gone]

/-- what stands for data in a store may be read as memory that nobody writes -/
theorem eqD_rep (R : HeapAt B G fr φ h w) : ∀ {d : Nat} {c : D} {v : V} {u : Value}, eqD d h c v = true → Rep w (Excl B φ) φ v u → Rep w (fun _ => False) (Gone 0) (D.cell d c) u := by
  intro d
  induction d with
  | zero => intro c v u hq _; unfold eqD at hq; cases hq
  | succ d ih =>
    intro c v u hq hr
    have froz : ∀ {sz n : Nat} {cs : List D} {us : List V} {b off cap : Nat} {ad : Addr} {val : Nat → Value}, ad.spot = none → ad.block < w.heap.size → n ≤ cap → cs.length = n * sz → eqDs d h cs us = true →
        (∀ k, k < n * sz → w.cell? ⟨ad.block, ad.off + k, none⟩ = some (val k) ∧ (val k).oneCell' = true ∧ ∀ v, us[k]? = some v → Rep w (Excl B φ) φ v (val k)) →
        Rep w (fun _ => False) (Gone 0) (D.cell (d + 1) (.sl sz n cs)) (.slice (some ad) n cap) := by
      intro sz n cs us b off cap ad val hs hlt hc hl hq hv
      obtain ⟨hl2, hg⟩ := eqDs_get hq
      have hk : ∀ {j c : Nat}, j < n → c < sz → j * sz + c < n * sz := fun {j c} h1 h2 => by
        have : (j + 1) * sz ≤ n * sz := Nat.mul_le_mul_right _ h1
        rw [Nat.add_mul] at this; omega
      refine .fro sz n _ ad cap (fun j c => val (j * sz + c)) hs (fun h => h) hlt hc (fun j c h1 h2 => (hv _ (hk h1 h2)).1) (fun j c h1 h2 => (hv _ (hk h1 h2)).2.1) (fun j c h1 h2 => ?_) fun j c h1 h2 => ?_
      · have hlt := hk h1 h2
        have e1 : cs[j * sz + c]? = some cs[j * sz + c] := List.getElem?_eq_getElem (by omega)
        have e2 : us[j * sz + c]? = some us[j * sz + c] := List.getElem?_eq_getElem (by omega)
        simp only [e1]
        exact ih (hg _ _ _ e1 e2) ((hv _ hlt).2.2 _ e2)
      · split
        · exact cell_nl _ _
        · rfl
    unfold eqD at hq
    cases c with
    | num k n =>
      dsimp only at hq
      split at hq
      · rename_i k' n'
        rw [Bool.and_eq_true, decide_eq_true_iff] at hq
        obtain ⟨rfl, h2⟩ := hq
        obtain rfl := eqI_iff.1 h2
        rw [rep_i hr]; exact mk_i
      · cases hq
    | bool b =>
      dsimp only at hq
      split at hq
      · rename_i b'
        rw [eqB_eq, beq_iff_eq] at hq
        subst hq
        rw [rep_b hr]; exact mk_b
      · cases hq
    | str l =>
      dsimp only at hq
      split at hq
      · rename_i l'
        obtain rfl := eqL_iff.1 hq
        obtain ⟨t, rfl, ht⟩ := rep_str hr
        exact .str _ t ht
      · cases hq
    | nils =>
      dsimp only at hq
      split at hq
      · obtain ⟨rfl, h2⟩ := rep_raw hr
        exact .raw _ h2
      · cases hq
    | agg cs => dsimp only at hq; cases hq
    | sl sz n cs =>
      dsimp only at hq
      split at hq
      · rename_i x sz' off n' cap
        split at hq
        · rename_i us h1 h2
          split at hq
          · rename_i hle
            have hle := Nat.le_of_ble_eq_true hle
            simp only [Bool.and_eq_true] at h1
            obtain ⟨⟨e1, e2⟩, e3⟩ := h1
            have e1 := Nat.eq_of_beq_eq_true e1
            have e2 := Nat.eq_of_beq_eq_true e2
            have e3 := Nat.eq_of_beq_eq_true e3
            subst e1; subst e2
            obtain ⟨b, hb, vs, t', z, hh, hz, hlen, hv⟩ := R.st x _ h2
            obtain ⟨ad, c', rfl, hs, _, had⟩ := rep_sl hr
            obtain ⟨had, hnc, _⟩ := had b hb
            rcases Nat.eq_zero_or_pos n with hn | hn
            · subst hn
              exact .froZero _ _ _ _
            · obtain rfl := had (by omega)
              refine froz (b := b) (off := off) (val := fun k => vs.getD (off + k) undef) rfl (heap_lt hh) hnc e3 hq fun k hk => ?_
              have hlt : off + k < vs.size := by omega
              have e5 : vs[off + k]? = some vs[off + k] := by simp [hlt]
              have e4 : vs.getD (off + k) undef = vs[off + k] := by simp [Array.getD, hlt]
              have hu : off + k < us.length := by omega
              have e6 : us[off + k]? = some us[off + k] := List.getElem?_eq_getElem hu
              rw [e4]
              refine ⟨by rw [cell_of_heap hh]; exact e5, (hv _ _ _ e6 e5).2, fun v hv' => ?_⟩
              obtain ⟨_, h8⟩ := cut_get hv'
              exact (hv _ _ _ h8 e5).1
          · cases hq
        · cases hq
      · rename_i sz' n' g
        split at hq
        · rename_i h1
          simp only [Bool.and_eq_true] at h1
          obtain ⟨⟨e1, e2⟩, e3⟩ := h1
          have e1 := Nat.eq_of_beq_eq_true e1
          have e2 := Nat.eq_of_beq_eq_true e2
          have e3 := Nat.eq_of_beq_eq_true e3
          subst e1; subst e2
          cases hr with
          | froNil _ _ => exact .froNil _ _
          | froZero _ _ ad cap => exact .froZero _ _ ad cap
          | fro _ _ _ ad cap val hs hx hlt hcap hr' h1 hf hn =>
            rcases Nat.eq_zero_or_pos sz with h0 | h0
            · subst h0
              exact .fro 0 n _ ad cap (fun _ _ => undef) hs (fun h => h) hlt hcap (fun j c _ h => absurd h (by omega)) (fun j c _ h => absurd h (by omega)) (fun j c _ h => absurd h (by omega)) (fun j c _ h => absurd h (by omega))
            refine froz (b := 0) (off := 0) (val := fun k => val (k / sz) (k % sz)) hs hlt hcap e3 hq fun k hk => ?_
            have hj : k / sz < n := by rw [Nat.div_lt_iff_lt_mul h0]; exact hk
            have hm : k % sz < sz := Nat.mod_lt _ h0
            have hkk : k / sz * sz + k % sz = k := Nat.div_add_mod' k sz
            refine ⟨?_, h1 _ _ hj hm, fun v hv => ?_⟩
            · have := hr' _ _ hj hm; rw [hkk] at this; exact this
            · have hA : ∀ l ∈ (List.range n).map fun j => cellsAt (g j) 0 sz, l.length = sz := fun l hl => by
                obtain ⟨j, _, rfl⟩ := List.mem_map.1 hl
                exact cellsAt_len _ _ _
              rw [flat_get h0 k hA] at hv
              obtain ⟨l, hl, hv⟩ := Option.bind_eq_some_iff.1 hv
              simp only [List.getElem?_map, List.getElem?_range hj, Option.map_some, Option.some.injEq] at hl
              subst hl
              obtain ⟨_, rfl⟩ := cellsAt_get _ _ _ _ _ hv
              have := hf _ _ hj hm
              simpa using this
        · cases hq
      · cases hq

def eqT (d : Nat) (h : Heap) : D → V → Bool
  | .agg cs, .agg vs => eqDs d h cs vs
  | .agg _, _ => false
  | c, v => eqD d h c v

theorem eqT_rep (R : HeapAt B G fr φ h w) {d : Nat} {c : D} {v : V} {u : Value} (hq : eqT d h c v = true) (hr : Rep w (Excl B φ) φ v u) : Rep w (fun _ => False) (Gone 0) (D.val d c) u := by
  cases c with
  | agg cs =>
    unfold eqT at hq
    cases v with
    | agg vs =>
      dsimp only at hq
      obtain ⟨us, rfl, hl, hg⟩ := rep_agg hr
      obtain ⟨h1, h2⟩ := eqDs_get hq
      refine .agg _ us (by simp [h1, hl]) fun i c u g1 g2 => ?_
      rw [List.getElem?_map] at g1
      obtain ⟨c', hc, rfl⟩ := Option.map_eq_some_iff.1 g1
      have hlt : i < vs.length := by rw [← h1]; exact (List.getElem?_eq_some_iff.1 hc).1
      have e2 : vs[i]? = some vs[i] := List.getElem?_eq_getElem hlt
      exact eqD_rep R (h2 i _ _ hc e2) (hg i _ _ e2 g2)
    | _ => cases hq
  | num _ _ => exact eqD_rep R hq hr
  | bool _ => exact eqD_rep R hq hr
  | str _ => exact eqD_rep R hq hr
  | nils => exact eqD_rep R hq hr
  | sl _ _ _ => exact eqD_rep R hq hr

def eqTs (d : Nat) (h : Heap) : List D → List V → Bool
  | [], [] => true
  | c :: r, v :: s => match eqT d h c v with | true => eqTs d h r s | false => false
  | _, _ => false

theorem eqTs_get {d : Nat} {h : Heap} : ∀ {cs : List D} {vs : List V}, eqTs d h cs vs = true → cs.length = vs.length ∧ ∀ (i : Nat) (c : D) (v : V), cs[i]? = some c → vs[i]? = some v → eqT d h c v = true
  | [], [], _ => ⟨rfl, fun i c v h => by cases h⟩
  | c :: r, v :: s, hq => by
    unfold eqTs at hq
    split at hq
    · rename_i h1
      obtain ⟨h2, h3⟩ := eqTs_get hq
      refine ⟨by simp [h2], fun i c' v' g1 g2 => ?_⟩
      cases i with
      | zero => simp at g1 g2; subst g1; subst g2; exact h1
      | succ i => exact h3 i c' v' (by simpa using g1) (by simpa using g2)
    · cases hq
  | [], _ :: _, hq => by unfold eqTs at hq; cases hq
  | _ :: _, [], hq => by unfold eqTs at hq; cases hq

/-! results: what stands for data, all of it in memory that is new -/

mutual
def eqN : Nat → Heap → D → V → Bool
  | 0, _, _, _ => false
  | d + 1, h, c, v => match c with
    | .num k n => match v with | .raw (.int k' n') => decide (k = k') && eqI n n' | _ => false
    | .bool b => match v with | .raw (.bool b') => eqB b b' | _ => false
    | .str l => match v with | .str l' => eqL l l' | _ => false
    | .nils => match v with | .raw (.slice none 0 0) => true | _ => false
    | .agg _ => false
    | .sl sz n cs => match v with
      | .emp => Nat.beq n 0
      | .sl x sz' off n' cap => match Nat.beq sz sz' && Nat.beq n n' && Nat.beq cs.length (n * sz), h.get x with
        | true, some (.cells us) => match Nat.ble (off + n * sz) us.length with
          | true => eqNs d h cs (cut us off (n * sz))
          | false => false
        | _, _ => false
      | _ => false
def eqNs : Nat → Heap → List D → List V → Bool
  | _, _, [], [] => true
  | d, h, c :: r, v :: s => match eqN d h c v with | true => eqNs d h r s | false => false
  | _, _, _, _ => false
end

theorem eqNs_get {d : Nat} {h : Heap} : ∀ {cs : List D} {vs : List V}, eqNs d h cs vs = true → cs.length = vs.length ∧ ∀ (i : Nat) (c : D) (v : V), cs[i]? = some c → vs[i]? = some v → eqN d h c v = true
  | [], [], _ => ⟨rfl, fun i c v h => by cases h⟩
  | c :: r, v :: s, hq => by
    unfold eqNs at hq
    split at hq
    · rename_i h1
      obtain ⟨h2, h3⟩ := eqNs_get hq
      refine ⟨by simp [h2], fun i c' v' g1 g2 => ?_⟩
      cases i with
      | zero => simp at g1 g2; subst g1; subst g2; exact h1
      | succ i => exact h3 i c' v' (by simpa using g1) (by simpa using g2)
    · cases hq
  | [], _ :: _, hq => by unfold eqNs at hq; cases hq
  | _ :: _, [], hq => by unfold eqNs at hq; cases hq

theorem eqN_rep (R : HeapAt B G fr φ h w) {m : Nat} (hnew : ∀ x b, φ x = some (some b) → m ≤ b) {X' : Nat → Prop} {φ' : Loc} (hX : ∀ b, X' b → b < m) : ∀ {d : Nat} {c : D} {v : V} {u : Value}, eqN d h c v = true → Rep w (Excl B φ) φ v u → Rep w X' φ' (D.cell d c) u := by
  intro d
  induction d with
  | zero => intro c v u hq _; unfold eqN at hq; cases hq
  | succ d ih =>
    intro c v u hq hr
    unfold eqN at hq
    cases c with
    | num k n =>
      dsimp only at hq
      split at hq
      · rename_i k' n'
        rw [Bool.and_eq_true, decide_eq_true_iff] at hq
        obtain ⟨rfl, h2⟩ := hq
        obtain rfl := eqI_iff.1 h2
        rw [rep_i hr]; exact mk_i
      · cases hq
    | bool b =>
      dsimp only at hq
      split at hq
      · rename_i b'
        rw [eqB_eq, beq_iff_eq] at hq
        subst hq
        rw [rep_b hr]; exact mk_b
      · cases hq
    | str l =>
      dsimp only at hq
      split at hq
      · rename_i l'
        obtain rfl := eqL_iff.1 hq
        obtain ⟨t, rfl, ht⟩ := rep_str hr
        exact .str _ t ht
      · cases hq
    | nils =>
      dsimp only at hq
      split at hq
      · obtain ⟨rfl, h2⟩ := rep_raw hr
        exact .raw _ h2
      · cases hq
    | agg cs => dsimp only at hq; cases hq
    | sl sz n cs =>
      dsimp only at hq
      split at hq
      · obtain rfl := Nat.eq_of_beq_eq_true hq
        obtain ⟨ad, rfl⟩ := rep_emp hr
        exact .froZero _ _ _ _
      · rename_i x sz' off n' cap
        split at hq
        · rename_i us h1 h2
          split at hq
          · rename_i hle
            have hle := Nat.le_of_ble_eq_true hle
            simp only [Bool.and_eq_true] at h1
            obtain ⟨⟨e1, e2⟩, e3⟩ := h1
            have e1 := Nat.eq_of_beq_eq_true e1
            have e2 := Nat.eq_of_beq_eq_true e2
            have e3 := Nat.eq_of_beq_eq_true e3
            subst e1; subst e2
            obtain ⟨b, hb, vs, t', z, hh, hz, hlen, hv⟩ := R.st x _ h2
            obtain ⟨ad, c', rfl, hs, _, had⟩ := rep_sl hr
            obtain ⟨had, hnc, _⟩ := had b hb
            rcases Nat.eq_zero_or_pos n with hn | hn
            · subst hn
              exact .froZero _ _ _ _
            · obtain rfl := had (by omega)
              obtain ⟨hl2, hg⟩ := eqNs_get hq
              have hk : ∀ {j c : Nat}, j < n → c < sz → j * sz + c < n * sz := fun {j c} h1 h2 => by
                have : (j + 1) * sz ≤ n * sz := Nat.mul_le_mul_right _ h1
                rw [Nat.add_mul] at this; omega
              have key : ∀ k, k < n * sz → w.cell? ⟨b, off + k, none⟩ = some (vs.getD (off + k) undef) ∧ (vs.getD (off + k) undef).oneCell' = true ∧ ∀ v, (cut us off (n * sz))[k]? = some v → Rep w (Excl B φ) φ v (vs.getD (off + k) undef) := fun k hk => by
                have hlt : off + k < vs.size := by omega
                have e5 : vs[off + k]? = some vs[off + k] := by simp [hlt]
                have e4 : vs.getD (off + k) undef = vs[off + k] := by simp [Array.getD, hlt]
                have hu : off + k < us.length := by omega
                have e6 : us[off + k]? = some us[off + k] := List.getElem?_eq_getElem hu
                rw [e4]
                refine ⟨by rw [cell_of_heap hh]; exact e5, (hv _ _ _ e6 e5).2, fun v hv' => ?_⟩
                obtain ⟨_, h8⟩ := cut_get hv'
                exact (hv _ _ _ h8 e5).1
              refine .fro sz n _ ⟨b, off, none⟩ c' (fun j c => vs.getD (off + (j * sz + c)) undef) rfl (fun h => by have := hX _ h; have := hnew x b hb; dsimp only at *; omega) (heap_lt hh) hnc (fun j c h1 h2 => (key _ (hk h1 h2)).1) (fun j c h1 h2 => (key _ (hk h1 h2)).2.1) (fun j c h1 h2 => ?_) fun j c h1 h2 => ?_
              · have hlt := hk h1 h2
                have e1 : cs[j * sz + c]? = some cs[j * sz + c] := List.getElem?_eq_getElem (by omega)
                have e2 : (cut us off (n * sz))[j * sz + c]? = some (cut us off (n * sz))[j * sz + c] := List.getElem?_eq_getElem (by omega)
                simp only [e1]
                exact ih (hg _ _ _ e1 e2) ((key _ hlt).2.2 _ e2)
              · split
                · exact cell_nl _ _
                · rfl
          · cases hq
        · cases hq
      · cases hq

def eqO (d : Nat) (h : Heap) : D → V → Bool
  | .agg cs, .agg vs => eqNs d h cs vs
  | .agg _, _ => false
  | c, v => eqN d h c v

theorem eqO_rep (R : HeapAt B G fr φ h w) {m : Nat} (hnew : ∀ x b, φ x = some (some b) → m ≤ b) {X' : Nat → Prop} {φ' : Loc} (hX : ∀ b, X' b → b < m) {d : Nat} {c : D} {v : V} {u : Value} (hq : eqO d h c v = true) (hr : Rep w (Excl B φ) φ v u) : Rep w X' φ' (D.val d c) u := by
  cases c with
  | agg cs =>
    unfold eqO at hq
    cases v with
    | agg vs =>
      dsimp only at hq
      obtain ⟨us, rfl, hl, hg⟩ := rep_agg hr
      obtain ⟨h1, h2⟩ := eqNs_get hq
      refine .agg _ us (by simp [h1, hl]) fun i c u g1 g2 => ?_
      rw [List.getElem?_map] at g1
      obtain ⟨c', hc, rfl⟩ := Option.map_eq_some_iff.1 g1
      have hlt : i < vs.length := by rw [← h1]; exact (List.getElem?_eq_some_iff.1 hc).1
      have e2 : vs[i]? = some vs[i] := List.getElem?_eq_getElem hlt
      exact eqN_rep R hnew hX (h2 i _ _ hc e2) (hg i _ _ e2 g2)
    | _ => cases hq
  | num _ _ => exact eqN_rep R hnew hX hq hr
  | bool _ => exact eqN_rep R hnew hX hq hr
  | str _ => exact eqN_rep R hnew hX hq hr
  | nils => exact eqN_rep R hnew hX hq hr
  | sl _ _ _ => exact eqN_rep R hnew hX hq hr

def eqOs (d : Nat) (h : Heap) : List D → List V → Bool
  | [], [] => true
  | c :: r, v :: s => match eqO d h c v with | true => eqOs d h r s | false => false
  | _, _ => false

theorem eqOs_get {d : Nat} {h : Heap} : ∀ {cs : List D} {vs : List V}, eqOs d h cs vs = true → cs.length = vs.length ∧ ∀ (i : Nat) (c : D) (v : V), cs[i]? = some c → vs[i]? = some v → eqO d h c v = true
  | [], [], _ => ⟨rfl, fun i c v h => by cases h⟩
  | c :: r, v :: s, hq => by
    unfold eqOs at hq
    split at hq
    · rename_i h1
      obtain ⟨h2, h3⟩ := eqOs_get hq
      refine ⟨by simp [h2], fun i c' v' g1 g2 => ?_⟩
      cases i with
      | zero => simp at g1 g2; subst g1; subst g2; exact h1
      | succ i => exact h3 i c' v' (by simpa using g1) (by simpa using g2)
    · cases hq
  | [], _ :: _, hq => by unfold eqOs at hq; cases hq
  | _ :: _, [], hq => by unfold eqOs at hq; cases hq

/-- a function's answer: one, or more -/
inductive Ans where
  | one (c : D)
  | many (cs : List D)

def deepD : Nat := 6

def Ans.toV : Ans → V
  | .one c => D.val deepD c
  | .many cs => .tup (cs.map (D.val deepD))
def eqAns (h : Heap) : Ans → V → Bool
  | .one c, v => eqO deepD h c v
  | .many cs, .tup vs => eqOs deepD h cs vs
  | .many _, _ => false

theorem eqAns_rep (R : HeapAt B G fr φ h w) {m : Nat} (hnew : ∀ x b, φ x = some (some b) → m ≤ b) {X' : Nat → Prop} {φ' : Loc} (hX : ∀ b, X' b → b < m) {c : Ans} {v : V} {u : Value} (hq : eqAns h c v = true) (hr : Rep w (Excl B φ) φ v u) : Rep w X' φ' c.toV u := by
  cases c with
  | one c => exact eqO_rep R hnew hX hq hr
  | many cs =>
    cases v with
    | tup vs =>
      obtain ⟨us, rfl, hl, hg⟩ := rep_tup hr
      obtain ⟨h1, h2⟩ := eqOs_get hq
      refine .tup _ us (by simp [h1, hl]) fun i c u g1 g2 => ?_
      rw [List.getElem?_map] at g1
      obtain ⟨c', hc, rfl⟩ := Option.map_eq_some_iff.1 g1
      have hlt : i < vs.length := by rw [← h1]; exact (List.getElem?_eq_some_iff.1 hc).1
      have e2 : vs[i]? = some vs[i] := List.getElem?_eq_getElem hlt
      exact eqO_rep R hnew hX (h2 i _ _ hc e2) (hg i _ _ e2 g2)
    | _ => cases hq

/-- a call that was told: the function, its arguments, its answer -/
structure Memo where
  f : Nat
  args : List D
  ans : Ans

def MemoOk (P : Program) (G : Nat → Nat → Value → Prop) (m : Memo) : Prop :=
  (∃ fn, P.funcs[m.f]? = some fn ∧ (fn.name == "runtime.NumGoroutine") = false ∧ fn.body.isNone = false) ∧
  ∀ (w : World) (vals : List Value), GAt G w → m.args.length = vals.length → (∀ (i : Nat) (c : D) (v : Value), m.args[i]? = some c → vals[i]? = some v → Rep w (fun _ => False) (Gone 0) (D.val deepD c) v) →
    Calls P m.f vals.toArray w fun e w' => ∃ u, e = .returned u ∧ Below w.heap.size w w' ∧ ∀ (X : Nat → Prop) (φ : Loc), (∀ b, X b → b < w.heap.size) → Rep w' X φ m.ans.toV u

def lookMemo (ms : List Memo) (g : Nat) (h : Heap) (args : List V) : Option V := match ms with
  | [] => none
  | m :: r => match Nat.beq m.f g with
    | true => match eqTs deepD h m.args args with
      | true => some m.ans.toV
      | false => lookMemo r g h args
    | false => lookMemo r g h args

theorem lookMemo_spec : ∀ {ms : List Memo} {g : Nat} {h : Heap} {args : List V} {v : V}, lookMemo ms g h args = some v → ∃ m ∈ ms, m.f = g ∧ eqTs deepD h m.args args = true ∧ m.ans.toV = v
  | [], g, h, args, v, hq => by cases hq
  | m :: r, g, h, args, v, hq => by
    unfold lookMemo at hq
    split at hq
    · rename_i h1
      split at hq
      · rename_i h2
        injection hq with hq
        exact ⟨m, by simp, Nat.eq_of_beq_eq_true h1, h2, hq⟩
      · obtain ⟨m', h3, h4⟩ := lookMemo_spec hq; exact ⟨m', by simp [h3], h4⟩
    · obtain ⟨m', h3, h4⟩ := lookMemo_spec hq; exact ⟨m', by simp [h3], h4⟩

/-- What is known of functions: texts are searched (k1, k2), and calls that were told. -/
def prims (k1 k2 : Nat) (ms : List Memo) : Prims := fun g h args => match Nat.beq k1 g with
  | true => strI args
  | false => match Nat.beq k2 g with
    | true => strC args
    | false => lookMemo ms g h args

theorem prims_ok {k1 k2 g0 : Nat} {n : Int} {ms : List Memo} (S : StrFns P k1 k2 g0) (hg : G g0 0 (.int .i64 n)) (hm : ∀ m ∈ ms, MemoOk P G m) : PrimOk P G (prims k1 k2 ms) := by
  intro g h args v hv
  unfold prims at hv
  split at hv
  · rename_i h1
    have h1 := Nat.eq_of_beq_eq_true h1
    subst h1
    refine ⟨S.e1, fun B fr φ w vals H hlen hargs => ?_⟩
    unfold strI at hv
    split at hv
    · rename_i s b
      split at hv
      · rename_i hb
        have hb : b < 256 := Nat.le_of_ble_eq_true hb
        injection hv with hv
        subst hv
        match vals, hlen with
        | [x, y], _ =>
          obtain ⟨t, rfl, ht⟩ := rep_str (hargs 0 _ _ rfl rfl)
          obtain rfl := rep_i (hargs 1 _ _ rfl rfl)
          refine (S.ib t _ w).mono ?_
          rintro e w' ⟨rfl, rfl⟩
          refine ⟨_, rfl, Below.refl _ _, ?_⟩
          have e2 : (Int.ofNat b).toNat.toUInt8.toNat = b := by
            show (UInt8.ofNat b).toNat = b
            rw [UInt8.toNat_ofNat']
            omega
          have := findB_eq (Int.ofNat b).toNat.toUInt8 t.data.toList 0
          rw [e2, ht] at this
          rw [this]
          have e3 : offI 0 (Lib.indexByte t.data.toList (Int.ofNat b).toNat.toUInt8) = Lib.indexByte t.data.toList (Int.ofNat b).toNat.toUInt8 := by
            unfold offI
            split
            · rename_i h; exact h.symm
            · simp
          rw [e3]
          exact mk_i
      · cases hv
    · cases hv
  · split at hv
    · rename_i h1
      have h1 := Nat.eq_of_beq_eq_true h1
      subst h1
      refine ⟨S.e2, fun B fr φ w vals H hlen hargs => ?_⟩
      unfold strC at hv
      split at hv
      · rename_i s t
        split at hv
        · rename_i hb
          have hb : s.length < 4294967281 := Nat.le_of_ble_eq_true hb
          injection hv with hv
          subst hv
          match vals, hlen with
          | [x, y], _ =>
            obtain ⟨s', rfl, hs⟩ := rep_str (hargs 0 _ _ rfl rfl)
            obtain ⟨t', rfl, ht⟩ := rep_str (hargs 1 _ _ rfl rfl)
            refine (S.ct s' t' n w ?_ (H.gl g0 0 _ hg).2).mono ?_
            · rw [← hs] at hb
              simpa using hb
            rintro e w' ⟨rfl, rfl⟩
            refine ⟨_, rfl, Below.refl _ _, ?_⟩
            rw [← hs, ← ht, hasSub_eq]
            exact mk_b
        · cases hv
      · cases hv
    · obtain ⟨m, hmem, rfl, hq, rfl⟩ := lookMemo_spec hv
      obtain ⟨h1, h2⟩ := hm m hmem
      obtain ⟨h3, h4⟩ := eqTs_get hq
      refine ⟨h1, fun B fr φ w vals H hlen hargs => (h2 w vals (fun b o v hb => ⟨(H.gl b o v hb).1.1, (H.gl b o v hb).2⟩) (h3.trans hlen) fun i c v g1 g2 => ?_).mono fun e w' ⟨u, a, b, c⟩ => ⟨u, a, b, c _ _ fun b hb => ?_⟩⟩
      have hlt : i < args.length := by rw [← h3]; exact (List.getElem?_eq_some_iff.1 g1).1
      have e2 : args[i]? = some args[i] := List.getElem?_eq_getElem hlt
      exact eqT_rep H (h4 i _ _ g1 e2) (hargs i _ _ e2 g2)
      rcases hb with hb | ⟨x, hb⟩
      · exact H.ltB b hb
      · exact (H.lt x b hb).1

theorem memos_nil : ∀ m ∈ ([] : List Memo), MemoOk P G m := fun m h => by cases h
theorem memos_cons {m : Memo} {ms : List Memo} (h : MemoOk P G m) (hs : ∀ m ∈ ms, MemoOk P G m) : ∀ x ∈ m :: ms, MemoOk P G x := fun x hx => by
  rcases List.mem_cons.1 hx with rfl | hx
  · exact h
  · exact hs x hx

/-- A call is told, by what it comes to. -/
theorem memo_of {prim : Prims} (hp : PrimOk P G prim) {m : Memo} (n : Nat) (hq : startH P prim n m.f (m.args.map (D.val deepD)) 0 (fun v h => eqAns h m.ans v) = true) : MemoOk P G m := by
  refine ⟨(enter_ok (code_ok hp n).1 hq).1, fun w vals hG hlen hargs => (start_okH hp hq w hG vals (by simpa using hlen) fun i c v g1 g2 => ?_).mono ?_⟩
  · rw [List.getElem?_map] at g1
    obtain ⟨c', hc, rfl⟩ := Option.map_eq_some_iff.1 g1
    exact hargs i c' v hc g2
  · rintro e w' ⟨v, c, φ, h, fr, rfl, hc, hB, H, hnew, hr⟩
    exact ⟨v, rfl, hB, fun X φ hX => eqAns_rep H hnew hX hc hr⟩

end
end Go.VM
end

section
/- The machine VM, part 19: what a law's row asks. -/
set_option linter.unusedVariables false
set_option linter.unusedSectionVars false
set_option linter.unusedSimpArgs false
namespace Go.VM
open Go.ChangeShapes Go.WideShapes Go.ChangeAt Go.RowKit

theorem cell_lt {w : World} {b o : Nat} {v : Value} (h : w.cell? ⟨b, o, none⟩ = some v) : b < w.heap.size := by
  unfold World.cell? at h
  split at h
  · rename_i c t z hb
    exact (haveI : Val := ⟨fun _ => .bool false⟩; heap_lt hb)
  · cases h

section
variable {H : Type} {enc : TypeId × Value → H} {P : Program} {W : World}

theorem trodAll_stays (hl : laidOutB P = true) {W' : World} : ∀ {ts : List TypeId} {vs : List Value} {ds : List (DataW H)} {ps : List MemPlace}, (∀ t ∈ ts, P.readableRec t = true ∧ t < P.types.size) → DataW.TrodAll enc P W 0 (fun _ => true) true ts vs ds ps → Below W.heap.size W W' → (∀ x ∈ ps, x.block < W.heap.size) →
    DataW.TrodAll enc P W' 0 (fun b => decide (b < W.heap.size)) true ts vs ds ps
  | [], [], [], ps, _, h, _, _ => h
  | t :: ts, v :: vs, d :: ds, ps, ht, ⟨p, q, h1, h2, h3⟩, hb, hlt => by
    subst h3
    exact ⟨p, q, Below.trod hl (ht t (by simp)).1 (ht t (by simp)).2 h1 hb fun x hx => hlt x (by simp [hx]), trodAll_stays hl (fun t' h => ht t' (by simp [h])) h2 hb fun x hx => hlt x (by simp [hx]), rfl⟩
  | [], [], _ :: _, _, _, h, _, _ => by cases h
  | [], _ :: _, _, _, _, h, _, _ => by cases h
  | _ :: _, [], _, _, _, h, _, _ => by cases h
  | _ :: _, _ :: _, [], _, _, h, _, _ => by cases h

/-- what a law's row asks: true, and the arguments as they were -/
theorem law_post {f : Func} {s : ChangeSpec} {args : Array Value} {ds gs : List (DataW H)} {before : List MemPlace} {W' : World} (hl : laidOutB P = true) (hts : ∀ t ∈ f.params.toList, P.readableRec t = true ∧ t < P.types.size) (hvars : s.vars = []) {tb : TypeId} (hrt : f.resultTypes = #[tb]) (htb : P.underlying tb = some .bool)
    (hW : DataW.Whole enc P f.params.toList s.vars false W args.toList ds gs before) (hs : s.fn H ds = { results := [.lit (.bool true)], args := ds }) (hB : Below W.heap.size W W') : s.post enc P f false true false false W args (.bool true) W' := by
  have hlt : ∀ x ∈ before, x.block < W.heap.size := fun x hx => by simpa using hW.lt x hx
  have hW0 := hW
  obtain ⟨p, q, hA, hV, hbe, _, _⟩ := hW
  rw [hvars] at hV
  obtain ⟨rfl, rfl⟩ := trodVars_none hV
  subst hbe
  rw [List.append_nil] at hlt
  refine ⟨ds, [], p ++ [], [], p, [], hW0, ?_, ?_, ?_, hB.frame _, fun h => by cases h⟩
  · rw [List.append_nil, hs, hrt]
    exact trodAll_mk1 (shut_bool htb true)
  · rw [List.append_nil, hs]
    exact trodAll_stays hl hts hA hB hlt
  · rw [List.append_nil, hs, hvars]
    rfl

/-- all cells of a world -/
def GAll (w : World) : Nat → Nat → Value → Prop := fun b o v => w.cell? ⟨b, o, none⟩ = some v
theorem gall [Val] (w : World) : GAt (GAll w) w := fun b o v h => ⟨cell_lt h, h⟩

end
end Go.VM
end

section
/- The machine VM, part 20: arguments of a law, cell by cell. -/
set_option linter.unusedVariables false
set_option linter.unusedSectionVars false
set_option linter.unusedSimpArgs false
namespace Go.VM
open Go.ChangeShapes Go.WideShapes Go.ChangeAt Go.RowKit

section
variable {H : Type} {enc : TypeId × Value → H} {P : Program} {W : World}

/-- A type whose cells are numbers, texts, bools and slices. -/
def plainB (P : Program) : Nat → TypeId → Bool
  | 0, _ => false
  | d + 1, t => match P.underlying t with
    | some (.int _) => true
    | some .bool => true
    | some .string => true
    | some (.slice _) => true
    | some (.struct fs) => fs.toList.all (fun f => plainB P d f.type) && (List.range (P.cellsOf t)).all fun i => fs.toList.any fun f => Nat.ble f.offset i && Nat.blt i (f.offset + P.cellsOf f.type)
    | _ => false

/-- reads as data -/
abbrev Trods (enc : TypeId × Value → H) (P : Program) (W : World) (t : TypeId) (cs : List Value) : Prop := ∃ fuel x, DataW.trod enc P W 0 (fun _ => true) true fuel t cs = some x

theorem part_get {cs : List Value} {off k i : Nat} {v : Value} (h : cs[i]? = some v) (h1 : off ≤ i) (h2 : i < off + k) : ((cs.drop off).take k)[i - off]? = some v := by
  rw [List.getElem?_take]
  rw [if_pos (by omega), List.getElem?_drop, show off + (i - off) = i from by omega]
  exact h

theorem Trods.part {t : TypeId} {fs : Array Field} (ht : P.underlying t = some (.struct fs)) {cs : List Value} (h : Trods enc P W t cs) {i : Nat} {f : Field} (hf : fs[i]? = some f) : Trods enc P W f.type ((cs.drop f.offset).take (P.cellsOf f.type)) := by
  obtain ⟨fuel, x, h⟩ := h
  obtain ⟨xs, n, rfl, _, hlen, hxs, hr⟩ := DataW.trod_struct ht h
  have h1 := hr i f hf
  have hi : i < xs.length := by rw [hxs]; exact (Array.getElem?_eq_some_iff.1 hf).1
  rw [List.getElem?_eq_getElem hi] at h1
  exact ⟨_, _, h1⟩

theorem Trods.len {t : TypeId} {fs : Array Field} (ht : P.underlying t = some (.struct fs)) {cs : List Value} (h : Trods enc P W t cs) : cs.length = P.cellsOf t := by
  obtain ⟨fuel, x, h⟩ := h
  obtain ⟨_, _, _, _, hlen, _⟩ := DataW.trod_struct ht h
  exact hlen

theorem Trods.int {t : TypeId} {k : IntKind} (ht : P.underlying t = some (.int k)) {cs : List Value} (h : Trods enc P W t cs) : ∃ n, cs = [.int k n] := by
  obtain ⟨fuel, x, h⟩ := h
  obtain ⟨n, h1, _⟩ := DataW.trod_int ht h
  exact ⟨n, h1⟩
theorem Trods.bool {t : TypeId} (ht : P.underlying t = some .bool) {cs : List Value} (h : Trods enc P W t cs) : ∃ n, cs = [.bool n] := by
  obtain ⟨fuel, x, h⟩ := h
  obtain ⟨n, h1, _⟩ := DataW.trod_bool ht h
  exact ⟨n, h1⟩
theorem Trods.string {t : TypeId} (ht : P.underlying t = some .string) {cs : List Value} (h : Trods enc P W t cs) : ∃ n, cs = [.string n] := by
  obtain ⟨fuel, x, h⟩ := h
  obtain ⟨n, h1, _⟩ := DataW.trod_string ht h
  exact ⟨n, h1⟩

theorem cell_spot {w : World} {a : Addr} {v : Value} (h : w.cell? a = some v) : a.spot = none ∧ a.block < w.heap.size := by
  unfold World.cell? at h
  split at h
  · rename_i c t z hb
    split at h
    · cases h
    · rename_i hs
      exact ⟨by simpa using hs, (haveI : Val := ⟨fun _ => .bool false⟩; heap_lt hb)⟩
  · cases h

/-- a slice: nil, without elements, or with some, in memory -/
theorem Trods.slice {t e : TypeId} (ht : P.underlying t = some (.slice e)) (hc : 0 < P.cellsOf e) {cs : List Value} (h : Trods enc P W t cs) :
    cs = [.slice none 0 0] ∨ (∃ a cap, cs = [.slice (some a) 0 cap]) ∨ ∃ a len cap, cs = [.slice (some a) (len + 1) cap] ∧ a.spot = none ∧ a.block < W.heap.size ∧ len + 1 ≤ cap ∧
      ∀ j, j < len + 1 → ∃ es, es.length = P.cellsOf e ∧ Trods enc P W e es ∧ ∀ c, c < P.cellsOf e → W.cell? ⟨a.block, a.off + (j * P.cellsOf e + c), none⟩ = es[c]? := by
  obtain ⟨fuel, x, h⟩ := h
  rcases DataW.trod_slice ht h with ⟨rfl, _⟩ | ⟨a, len, cap, elems, rest, n, rfl, rfl, _, _, hlc, _, hel, hread, _, _⟩
  · exact .inl rfl
  · cases len with
    | zero => exact .inr (.inl ⟨a, cap, rfl⟩)
    | succ len =>
      have hdat : ∀ j, j < len + 1 → ∃ es, es.length = P.cellsOf e ∧ Trods enc P W e es ∧ ∀ c, c < P.cellsOf e → W.cell? ((a.add (j * P.cellsOf e)).add c) = es[c]? := fun j hj => by
        have hr := hread j hj
        have hlt : j < elems.length := by omega
        rw [List.getElem?_eq_getElem hlt] at hr
        obtain ⟨es, h1, h2⟩ := Option.bind_eq_some_iff.1 hr
        obtain ⟨_, h5, h4⟩ := World.cells?_some h1
        exact ⟨es, h5, ⟨_, _, h2⟩, h4⟩
      have hs : a.spot = none ∧ a.block < W.heap.size := by
        obtain ⟨es, h1, _, h3⟩ := hdat 0 (by omega)
        have h4 := h3 0 hc
        rw [List.getElem?_eq_getElem (by omega)] at h4
        have h5 := cell_spot h4
        unfold Addr.add at h5
        by_cases hk : 0 * P.cellsOf e = 0
        · simpa [hk] using h5
        · exact absurd (Nat.zero_mul _) hk
      refine .inr (.inr ⟨a, len, cap, rfl, hs.1, hs.2, hlc, fun j hj => ?_⟩)
      obtain ⟨es, h1, h2, h3⟩ := hdat j hj
      refine ⟨es, h1, h2, fun c hcs => ?_⟩
      haveI : Val := ⟨fun _ => .bool false⟩
      rw [← h3 c hcs, addr_add _ hs.1, addr_add _ rfl]
      show W.cell? ⟨a.block, a.off + (j * P.cellsOf e + c), none⟩ = W.cell? ⟨a.block, a.off + j * P.cellsOf e + c, none⟩
      rw [Nat.add_assoc]

theorem plain_cells : ∀ {d : Nat} {t : TypeId} {cs : List Value}, plainB P d t = true → Trods enc P W t cs → ∀ (i : Nat) (v : Value), cs[i]? = some v → v.oneCell' = true := by
  intro d
  induction d with
  | zero => intro t cs h; cases h
  | succ d ih =>
    intro t cs hp h i v hv
    unfold plainB at hp
    split at hp
    · rename_i k ht
      obtain ⟨n, rfl⟩ := h.int ht
      cases i with
      | zero => simp at hv; subst hv; rfl
      | succ i => simp at hv
    · rename_i ht
      obtain ⟨n, rfl⟩ := h.bool ht
      cases i with
      | zero => simp at hv; subst hv; rfl
      | succ i => simp at hv
    · rename_i ht
      obtain ⟨n, rfl⟩ := h.string ht
      cases i with
      | zero => simp at hv; subst hv; rfl
      | succ i => simp at hv
    · rename_i e ht
      obtain ⟨fuel, x, h⟩ := h
      rcases DataW.trod_slice ht h with ⟨rfl, _⟩ | ⟨a, len, cap, elems, rest, n, rfl, rfl, _⟩ <;>
      · cases i with
        | zero => simp at hv; subst hv; rfl
        | succ i => simp at hv
    · rename_i fs ht
      rw [Bool.and_eq_true, List.all_eq_true, List.all_eq_true] at hp
      have hlen := h.len ht
      have hi : i < P.cellsOf t := by rw [← hlen]; exact (List.getElem?_eq_some_iff.1 hv).1
      have := hp.2 i (List.mem_range.2 hi)
      rw [List.any_eq_true] at this
      obtain ⟨f, hf, hr⟩ := this
      rw [Bool.and_eq_true] at hr
      obtain ⟨k, hk⟩ := List.getElem?_of_mem hf
      have hk' : fs[k]? = some f := by simpa using hk
      exact ih (hp.1 f hf) (h.part ht hk') (i - f.offset) v (part_get hv (Nat.le_of_ble_eq_true hr.1) (Nat.le_of_ble_eq_true hr.2))
    · cases hp

theorem trods_of {t : TypeId} {v : Value} {d : DataW H} {ps : List MemPlace} (h : DataW.Trod enc P W 0 (fun _ => true) true t v d ps) : Trods enc P W t v.cells.toList := by
  obtain ⟨fuel, h⟩ := h
  exact ⟨fuel, _, h⟩

/-- an argument of which nothing is told: a struct -/
theorem rep_opqs [Val] {X : Nat → Prop} {φ : Loc} {t : TypeId} {cs : Array Value} {d k : Nat} (hp : plainB P d t = true) (h : Trods enc P W t cs.toList) (hk : cs.toList.length = k) : Rep W X φ (.agg (List.replicate k .opq)) (.agg cs) := by
  refine .agg _ cs.toList (by simp [← hk]) fun i c v h1 h2 => ?_
  rw [List.getElem?_replicate] at h1
  split at h1
  · injection h1 with h1; subst h1; exact .opq _ (plain_cells hp h i v h2)
  · cases h1

/-- a call with one argument -/
theorem start_one [Val] {f : Nat} {w : World} {v : Value} {c : V} {nx : Nat} {prim : Prims} {G : Nat → Nat → Value → Prop} (hp : PrimOk P G prim) (hr : startN P prim 5000 f [c] nx isTrue = true) (hG : GAt G w) (h : Rep w (fun _ => False) (Gone nx) c v) : Calls P f #[v] w fun e w' => e = .returned (.bool true) ∧ Below w.heap.size w w' :=
  start_true hp hr w hG [v] rfl fun i c' u g1 g2 => by
    match i, g1, g2 with
    | 0, g1, g2 => have g1 := Option.some.inj g1; have g2 := Option.some.inj g2; subst g1; subst g2; exact h
    | _ + 1, g1, g2 => simp at g1

end
end Go.VM
end

section
/- fathomlaw35.BondNobody returns true for every input. -/
set_option maxRecDepth 100000
namespace Go.Proofs.YtddfajkgaomnhaaGreat
open Go.ChangeShapes Go.WideShapes Go.ChangeAt Go.RowKit
theorem own4 : ownKnob Tryz.prog.godebug = none := by kernel_rfl
theorem laid4 : laidOutB Tryz.prog = true := by kernel_rfl
end Go.Proofs.YtddfajkgaomnhaaGreat
end
