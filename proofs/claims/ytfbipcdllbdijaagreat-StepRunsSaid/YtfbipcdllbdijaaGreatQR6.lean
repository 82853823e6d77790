/- Part 6 of the proof. fathomlaw28.StepRuns returns true for every input. -/
import Derived.Test.YtfbipcdllbdijaaGreatQR5
set_option linter.unusedVariables false
set_option linter.unusedSimpArgs false
set_option linter.unusedSectionVars false
set_option linter.constructorNameAsVariable false
namespace Go.Proofs.YtfbipcdllbdijaaGreat
open Go Go.TM
theorem run_get {r : List (Int × Int)} {l : List Nat} (h : r.map Prod.fst = l.map fun i : Nat => (i : Int)) : r.length = l.length ∧ ∀ j < l.length, (r.getD j (0, 0)).1 = ((l.getD j 0 : Nat) : Int) := by
  have hl : r.length = l.length := by
    have := congrArg List.length h
    rwa [List.length_map, List.length_map] at this
  refine ⟨hl, fun j hj => ?_⟩
  have h1 : (r.map Prod.fst)[j]? = (l.map fun i : Nat => (i : Int))[j]? := by rw [h]
  rw [List.getElem?_map, List.getElem?_map, List.getElem?_eq_getElem (by omega), List.getElem?_eq_getElem hj] at h1
  rw [List.getD_eq_getElem?_getD, List.getD_eq_getElem?_getD, List.getElem?_eq_getElem (by omega), List.getElem?_eq_getElem hj]
  simpa using h1
end Go.Proofs.YtfbipcdllbdijaaGreat
namespace Go.Proofs.YtfbipcdllbdijaaGreat
open Go Go.TM
theorem law5 (f : Fl) (picks : List Int) (hw : WB (.sl (.int .u8)) picks) : ∃ n, slaw28_StepRuns n f picks = some true := by
  refine ⟨10000, Ev.eq ?_⟩
  generalize hn' : 10000 = n
  have hn : 8193 ≤ n := by omega
  clear hn'
  have haw : Ev (bindO (slaw28_awake n) fun r => some r) fun b => b = true := Ev.pass (Ev.true (e_awake hn))
  unfold slaw28_StepRuns
  refine Ev.bind (e_may27 hn f) fun b hb => Ev.ask (fun _ => haw) fun h => ?_
  rw [notB_false] at h
  obtain ⟨hl, hf⟩ := hb.mp h
  have hP := hf.p
  have htot : tot f.2.2.2.1 ≤ 64 := hf.2.2.2.2.1
  refine Ev.bind (e_play hn hl hf (u8_has hw)) fun r hr => ?_
  obtain ⟨out, ok⟩ := r
  obtain ⟨hok, hall, l, s, hout, hz, hle⟩ := hr
  simp only at hok hall hout
  subst hok hout
  have hR := hall s (by simp)
  have hS := hR.ok hn hf
  have hI := hR.inv hn hf
  have hnl := next_le hS
  refine Ev.askF rfl ?_
  simp only [len_last l s (by omega)]
  refine Ev.need (by rw [inB_nat, List.length_append]; exact Nat.lt_succ_self _) ?_
  simp only [Int.toNat_natCast]
  rw [show (l ++ [s]).getD l.length (([], [], [], [], [], [], false) : St) = s from last_get]
  refine Ev.bindR (e_waits hn hl hf hS) (Ev.bindR (e_refMayS hn hf s) ?_)
  rw [decide_eq_true hS]
  refine Ev.askF rfl ?_
  have hwl := waits_len hf (V n f s) s
  obtain ⟨l1, l2, l3, l4, l5, l6⟩ := hS.1
  refine Ev.forN f.2.2.2.1.length (fun p (x : Int) => x = (p : Int)) (fun p x rec hp hx hrec => ?_) (fun x rec hx => ?_) n 0 _ rfl (Nat.zero_le _) (by omega)
  · subst hx
    refine Ev.askT (lt_nc hp) ?_
    refine Ev.bind (e_Run hn hl hf hS hp) fun r hr => ?_
    obtain ⟨hrl, hrg⟩ := run_get hr
    have hlen : (pr f p).length ≤ 64 := hf.len hp
    have hdl := dl_len f (V n f s) p (pr f p).length
    have hmm : ∀ i, i ∈ dl f (V n f s) p (pr f p).length ↔ i < (pr f p).length ∧ gv f (V n f s) p i ≠ 0 := fun i => dl_mem
    have hnx := hS.2.1 p hp
    generalize dl f (V n f s) p (pr f p).length = I at *
    refine Ev.forN I.length (fun j (x : Int × Bool × Int) => x.2.2 = (j : Int) ∧ x.1 = (((I.take j).countP fun i : Nat => decide ((i : Int) < s.1.getD p 0) : Nat) : Int) ∧ (x.2.1 = true ↔ ∃ a, a < j ∧ ((I.getD a 0 : Nat) : Int) < s.1.getD p 0 ∧ (inst f p (I.getD a 0)).1 = 13)) (fun j x rec1 hj hx hrec1 => ?_) (fun x rec1 hx => ?_) n 0 _ ⟨rfl, by simp, ?_⟩ (Nat.zero_le _) (by omega)
    · obtain ⟨far, mk, y⟩ := x
      obtain ⟨rfl, rfl, hmk⟩ := hx
      simp only at hmk ⊢
      have hjr : j < r.length := by omega
      refine Ev.askT (show ltI (j : Int) (Int.ofNat r.length) = true from lt_nc hjr) ?_
      have hg : (r.getD j (Int.ofNat 0, Int.ofNat 0)).1 = ((I.getD j 0 : Nat) : Int) := hrg j hj
      have hgj : I.getD j 0 = I[j] := by rw [List.getD_eq_getElem?_getD, List.getElem?_eq_getElem hj]; rfl
      have hm := ((hmm (I.getD j 0)).mp (by rw [hgj]; exact List.getElem_mem _)).1
      have hcnt : (I.take j).countP (fun i : Nat => decide ((i : Int) < s.1.getD p 0)) ≤ 64 := Nat.le_trans List.countP_le_length (by rw [List.length_take]; omega)
      have htk : I.take (j + 1) = I.take j ++ [I.getD j 0] := by rw [hgj, List.take_succ_eq_append_getElem hj]
      simp only [in_nc hjr, in_nc hp, in_nc (show p < s.1.length by omega), need_true, Int.toNat_natCast, wr_nc (show j < 9223372036854775807 by omega), hg]
      generalize hi : I.getD j 0 = i at *
      refine Ev.bind (Q := fun b => b = true ↔ (i : Int) < s.1.getD p 0) ?_ fun b hb => ?_
      · refine Ev.askT (by rw [notB_true, ltI_false]; exact Int.natCast_nonneg i) (Ev.some ?_)
        rw [ltI_iff]
        exact Iff.rfl
      · have hrec' : ∀ (z : Int × Bool), z.1 = (((I.take (j + 1)).countP fun i : Nat => decide ((i : Int) < s.1.getD p 0) : Nat) : Int) → (z.2 = true ↔ mk = true ∨ ((i : Int) < s.1.getD p 0 ∧ (inst f p i).1 = 13)) → Ev (rec1 (z.1, z.2, ((j + 1 : Nat) : Int))) fun b => b = true := fun z h1 h2 => hrec1 _ ⟨rfl, h1, h2.trans (by
          rw [hmk]
          constructor
          · rintro (⟨a, h3, h4⟩ | h3)
            · exact ⟨a, by omega, h4⟩
            · exact ⟨j, by omega, by rw [hi]; exact h3⟩
          · rintro ⟨a, h3, h4⟩
            rcases Nat.lt_or_ge a j with h7 | h7
            · exact .inl ⟨a, h7, h4⟩
            · rw [show a = j from by omega, hi] at h4; exact .inr h4)⟩
        refine Ev.bind (Q := fun z => z.1 = (((I.take (j + 1)).countP fun i : Nat => decide ((i : Int) < s.1.getD p 0) : Nat) : Int) ∧ (z.2 = true ↔ mk = true ∨ ((i : Int) < s.1.getD p 0 ∧ (inst f p i).1 = 13))) ?_ fun z hz => hrec' z hz.1 hz.2
        refine Ev.ask (fun h => ?_) fun h => Ev.some ⟨?_, ?_⟩
        · have hlt := hb.mp h
          refine Ev.bind (Q := fun b2 => b2 = true ↔ mk = true ∨ ((i : Int) < s.1.getD p 0 ∧ (inst f p i).1 = 13)) ?_ fun b2 hb2 => Ev.some ⟨?_, hb2⟩
          · refine Ev.ask (fun h2 => Ev.some ⟨fun _ => .inl h2, fun _ => rfl⟩) fun h2 => Ev.need (in_nc hm) (Ev.some ?_)
            rw [eqI_iff, h2]
            exact ⟨fun h3 => .inr ⟨hlt, h3⟩, fun h3 => (h3.resolve_left (by decide)).2⟩
          · rw [wr_nc (by omega), htk, List.countP_append, List.countP_cons, List.countP_nil, if_pos (decide_eq_true hlt)]
        · have hlt : ¬ (i : Int) < s.1.getD p 0 := fun h2 => by rw [hb.mpr h2] at h; cases h
          rw [htk, List.countP_append, List.countP_cons, List.countP_nil, if_neg (by rw [decide_eq_true_eq]; exact hlt)]
          rfl
        · have hlt : ¬ (i : Int) < s.1.getD p 0 := fun h2 => by rw [hb.mpr h2] at h; cases h
          exact ⟨fun h => .inl h, fun h => h.resolve_right fun h2 => hlt h2.1⟩
    · obtain ⟨far, mk, y⟩ := x
      obtain ⟨rfl, rfl, hmk⟩ := hx
      simp only at hmk ⊢
      refine Ev.askF (show ltI (I.length : Int) (Int.ofNat r.length) = false by rw [hrl]; exact lt_ec _) ?_
      rw [List.take_length]
      have hin1 := in_nc (n := p) (N := s.2.2.1.length) (by omega)
      have hin2 := in_nc (n := p) (N := s.2.1.length) (by omega)
      have hmd : mk = s.2.2.1.getD p false := by
        rw [Bool.eq_iff_iff, hmk, hI.marked p hp]
        constructor
        · rintro ⟨a, h1, h2, h3⟩
          have hgj : I.getD a 0 = I[a] := by rw [List.getD_eq_getElem?_getD, List.getElem?_eq_getElem h1]; rfl
          have := (hmm (I.getD a 0)).mp (by rw [hgj]; exact List.getElem_mem _)
          exact ⟨_, ⟨h2, this.2⟩, h3⟩
        · rintro ⟨i, ⟨h1, h2⟩, h3⟩
          have hil : i < (pr f p).length := by
            have : (i : Int) < ((pr f p).length : Int) := Int.lt_of_lt_of_le h1 hnx.2
            omega
          obtain ⟨a, ha, hai⟩ := List.mem_iff_getElem.mp ((hmm i).mpr ⟨hil, h2⟩)
          have hgj : I.getD a 0 = i := by rw [List.getD_eq_getElem?_getD, List.getElem?_eq_getElem ha]; exact hai
          exact ⟨a, ha, by rw [hgj]; exact h1, by rw [hgj]; exact h3⟩
      refine Ev.bindR (a := false) ?_ (Ev.askF rfl ?_)
      · rw [need_t hin1, Int.toNat_natCast, ask_f (by rw [notB_false, eqB_iff]; exact hmd), need_t hin2]
        cases hrn : s.2.1.getD p false with
        | true => rfl
        | false =>
          have h0 := hI.runs p hp hrn
          rw [ask_t (b := notB false) rfl]
          refine congrArg some ?_
          rw [ltI_false]
          have : I.countP (fun i : Nat => decide ((i : Int) < s.1.getD p 0)) = 0 := by
            rw [List.countP_eq_zero]
            intro i _
            rw [decide_eq_true_eq, h0]
            omega
          rw [this]
          exact Int.le_refl _
      · refine Ev.bind (Q := fun b => b = false) ?_ fun b hb => ?_
        · refine Ev.need hin2 ?_
          rw [Int.toNat_natCast]
          refine Ev.ask (fun hrn => Ev.need hin1 (Ev.ask (fun hmn => ?_) fun _ => Ev.some rfl)) fun _ => Ev.some rfl
          rw [notB_true] at hmn
          refine Ev.bindR (e_Has (l := waitsM f (V n f s) s) (by omega) (by omega) (p : Int)) (Ev.some ?_)
          rw [← Bool.not_eq_true, eqB_iff]
          have hfar : eqI ((I.countP fun i : Nat => decide ((i : Int) < s.1.getD p 0) : Nat) : Int) (Int.ofNat r.length) = true ↔ ∀ i ∈ I, (i : Int) < s.1.getD p 0 := by
            rw [eqI_iff, hrl]
            constructor
            · intro h i hi
              have h : I.countP (fun i : Nat => decide ((i : Int) < s.1.getD p 0)) = I.length := Int.ofNat.inj h
              exact of_decide_eq_true (List.countP_eq_length.mp h i hi)
            · intro h
              exact congrArg Int.ofNat (List.countP_eq_length.mpr fun i hi => decide_eq_true (h i hi))
          have hhas : decide ((p : Int) ∈ waitsM f (V n f s) s) = true ↔ ¬ ∀ i ∈ I, (i : Int) < s.1.getD p 0 := by
            rw [decide_eq_true_eq, mem_waits hp, wait_end hz]
            have hzz : nowZ f (V n f s) s (p : Int) = nowM f (V n f s) s p := by unfold nowZ; rw [if_pos (by omega), Int.toNat_natCast]
            rw [hzz]
            cases hnw : nowM f (V n f s) s p with
            | none =>
              have h1 := nowM_none.mp hnw ⟨hrn, hmn⟩
              constructor
              · intro e; cases e
              · intro h
                refine absurd (fun i hi => ?_) h
                apply Classical.byContradiction
                intro h2
                have := (hmm i).mp hi
                exact this.2 (h1 i this.1 (by omega))
            | some k =>
              obtain ⟨_, h1, h2, h3, _⟩ := nowM_some.mp hnw
              constructor
              · intro _ h
                have := h k ((hmm k).mpr ⟨h1, h3⟩)
                omega
              · intro _; rfl
          intro he
          by_cases hA : ∀ i ∈ I, (i : Int) < s.1.getD p 0
          · have h1 := hfar.mpr hA
            rw [h1] at he
            exact hhas.mp he.symm hA
          · have h1 := hhas.mpr hA
            rw [h1] at he
            exact hA (hfar.mp he)
        · subst hb
          exact Ev.askF rfl (hrec _ (wr_nc (by omega)))
    · constructor
      · intro e; cases e
      · rintro ⟨a, h, _⟩; exact absurd h (Nat.not_lt_zero _)
  · subst hx
    exact Ev.askF (lt_ec _) haw
end Go.Proofs.YtfbipcdllbdijaaGreat
