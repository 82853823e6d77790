/- Part 6 of the proof. fathomlaw28.StepTurns returns true for every input. -/
import Derived.Test.YtfbipcdllbdijaaGreatQT5
set_option linter.unusedVariables false
set_option linter.unusedSimpArgs false
set_option linter.unusedSectionVars false
set_option linter.constructorNameAsVariable false
namespace Go.Proofs.YtfbipcdllbdijaaGreat
open Go Go.TM
def beginV (f : Fl) : List Int := gmap f.2.1.length fun i => if (f.2.1.getD i d0).1 = 1 ∨ (f.2.1.getD i d0).1 = 2 then (f.2.1.getD i d0).2.2.1 else 0
def beginM (f : Fl) : St := (List.replicate f.2.2.2.1.length 0, (List.replicate f.2.2.2.1.length false).set 0 true, List.replicate f.2.2.2.1.length false, List.replicate f.2.2.2.2.toNat 0, beginV f, List.replicate f.2.1.length [], false)
theorem e_Begin {n : Nat} (hn : 8193 ≤ n) {f : Fl} (hl : lightF f) (hf : okAll f) : sstep_Begin n f = some (beginM f, 0) := by
  refine Ev.eq ?_
  unfold sstep_Begin
  obtain ⟨r, hr1, hr2, hr3⟩ := e_uCheck hn hl
  rw [hr1, bindO_s, hr3.mpr hf]
  refine Ev.askF rfl ?_
  have hP := hf.p
  have hD := hf.d
  have hR := hf.r
  refine Ev.bindR (permsR_eq 7 _ rfl (by
    intro c hc
    simp only [List.mem_cons, List.not_mem_nil, or_false] at hc
    have h1 : ∀ {b : Nat} {i : Int}, 0 ≤ i → i ≤ 1000 → b ≤ 1000 → fitB b i = true := fun {b i} h1 h2 h3 => by
      rw [fitB_iff]
      refine ⟨h1, Nat.le_trans (Nat.mul_le_mul (show i.toNat ≤ 1000 by omega) h3) (by decide)⟩
    rcases hc with rfl | rfl | rfl | rfl | rfl | rfl | rfl
    · exact h1 (Int.natCast_nonneg _) (by show (f.2.2.2.1.length : Int) ≤ 1000; omega) (by decide)
    · exact h1 (Int.natCast_nonneg _) (by show (f.2.2.2.1.length : Int) ≤ 1000; omega) (by decide)
    · exact h1 (Int.natCast_nonneg _) (by show (f.2.2.2.1.length : Int) ≤ 1000; omega) (by decide)
    · exact h1 hR.1 (by omega) (by decide)
    · exact h1 (Int.natCast_nonneg _) (by show (f.2.1.length : Int) ≤ 1000; omega) (by decide)
    · exact h1 (Int.natCast_nonneg _) (by show (f.2.1.length : Int) ≤ 1000; omega) (by decide)
    · rfl)) ?_
  refine Ev.need (by rw [inB_iff, List.length_replicate]; exact ⟨by decide, by show 0 < f.2.2.2.1.length; omega⟩) ?_
  refine Ev.forN f.2.1.length (fun i (x : Int × St) => x = ((i : Int), (List.replicate f.2.2.2.1.length 0, (List.replicate f.2.2.2.1.length false).set 0 true, List.replicate f.2.2.2.1.length false, List.replicate f.2.2.2.2.toNat 0,
      gmap f.2.1.length (fun j => if j < i then (if (f.2.1.getD j d0).1 = 1 ∨ (f.2.1.getD j d0).1 = 2 then (f.2.1.getD j d0).2.2.1 else 0) else 0), List.replicate f.2.1.length [], false))) (fun i x rec hi hx hrec => ?_) (fun x rec hx => ?_) n 0 _ ?_ (Nat.zero_le _) (by omega)
  · subst hx
    refine Ev.askT (lt_nc hi) (Ev.need (in_nc hi) ?_)
    rw [Int.toNat_natCast]
    refine Ev.bind (Q := fun b => b = true ↔ (f.2.1.getD i d0).1 = 1 ∨ (f.2.1.getD i d0).1 = 2) ?_ fun b hb => ?_
    · rw [ask_ss]
      refine Ev.some ?_
      by_cases h1 : (f.2.1.getD i d0).1 = 1
      · rw [if_pos (by rw [eqI_iff]; exact h1)]
        exact ⟨fun _ => .inl h1, fun _ => rfl⟩
      · rw [if_neg (by rw [eqI_iff]; exact h1), eqI_iff]
        exact ⟨fun h => .inr h, fun h => h.resolve_left h1⟩
    · rw [wr_nc (by omega)]
      refine Ev.bind (Q := fun y => y = ((List.replicate f.2.2.2.1.length 0, (List.replicate f.2.2.2.1.length false).set 0 true, List.replicate f.2.2.2.1.length false, List.replicate f.2.2.2.2.toNat 0,
      gmap f.2.1.length (fun j => if j < i + 1 then (if (f.2.1.getD j d0).1 = 1 ∨ (f.2.1.getD j d0).1 = 2 then (f.2.1.getD j d0).2.2.1 else 0) else 0), List.replicate f.2.1.length [], false) : St)) ?_ fun y hy => ?_
      · refine Ev.ask (fun h => Ev.need (by rw [inB_nat, gmap_len]; exact hi) (Ev.some ?_)) fun h => Ev.some ?_
        · simp only
          rw [gmap_set _ hi]
          have : ∀ j < f.2.1.length, (if j = i then (f.2.1.getD i d0).2.2.1 else if j < i then (if (f.2.1.getD j d0).1 = 1 ∨ (f.2.1.getD j d0).1 = 2 then (f.2.1.getD j d0).2.2.1 else 0) else 0) = (if j < i + 1 then (if (f.2.1.getD j d0).1 = 1 ∨ (f.2.1.getD j d0).1 = 2 then (f.2.1.getD j d0).2.2.1 else 0) else 0) := fun j hj => by
            by_cases hji : j = i
            · subst hji
              rw [if_pos rfl, if_pos (by omega), if_pos (hb.mp h)]
            · rw [if_neg hji]
              by_cases h2 : j < i
              · simp only [if_pos h2, if_pos (show j < i + 1 by omega)]
              · rw [if_neg h2, if_neg (by omega)]
          rw [← gmap_congr this]
          rfl
        · have : ∀ j < f.2.1.length, (if j < i then (if (f.2.1.getD j d0).1 = 1 ∨ (f.2.1.getD j d0).1 = 2 then (f.2.1.getD j d0).2.2.1 else 0) else 0) = (if j < i + 1 then (if (f.2.1.getD j d0).1 = 1 ∨ (f.2.1.getD j d0).1 = 2 then (f.2.1.getD j d0).2.2.1 else 0) else 0) := fun j hj => by
            by_cases h2 : j < i
            · simp only [if_pos h2, if_pos (show j < i + 1 by omega)]
            · rw [if_neg h2]
              by_cases h3 : j = i
              · subst h3
                rw [if_pos (by omega), if_neg fun h4 => by rw [hb.mpr h4] at h; cases h]
              · rw [if_neg (by omega)]
          rw [gmap_congr this]
      · subst hy
        exact hrec _ rfl
  · subst hx
    refine Ev.askF (lt_ec _) (Ev.some ?_)
    unfold beginM beginV
    refine Prod.ext ?_ rfl
    simp only
    have : ∀ j < f.2.1.length, (if j < f.2.1.length then (if (f.2.1.getD j d0).1 = 1 ∨ (f.2.1.getD j d0).1 = 2 then (f.2.1.getD j d0).2.2.1 else 0) else 0) = (if (f.2.1.getD j d0).1 = 1 ∨ (f.2.1.getD j d0).1 = 2 then (f.2.1.getD j d0).2.2.1 else 0) := fun j hj => by rw [if_pos hj]
    rw [gmap_congr this]
  · have : gmap f.2.1.length (fun j => if j < 0 then (if (f.2.1.getD j d0).1 = 1 ∨ (f.2.1.getD j d0).1 = 2 then (f.2.1.getD j d0).2.2.1 else 0) else 0) = List.replicate f.2.1.length 0 := by
      unfold gmap
      refine List.ext_getElem (by simp) fun i h1 h2 => ?_
      simp
    rw [this]
    rfl
theorem okS_begin {f : Fl} (hf : okAll f) : okS f (beginM f) := by
  have hR := hf.r
  have hw := hf.w
  refine ⟨⟨by simp [beginM], by simp [beginM], by simp [beginM], by simp [beginM]; omega, by simp [beginM, beginV, gmap_len], by simp [beginM]⟩, fun p hp => ?_, fun i hi => ?_, fun i hi => ?_⟩
  · unfold okNext beginM
    simp only
    rw [List.getD_eq_getElem?_getD, List.getElem?_replicate, if_pos hp]
    exact ⟨Int.le_refl _, Int.natCast_nonneg _⟩
  · unfold beginM at hi ⊢
    simp only [List.length_replicate] at hi ⊢
    rw [List.getD_eq_getElem?_getD, List.getElem?_replicate, if_pos hi]
    exact word01 hw false
  · have hd := hf.dk hi
    unfold beginM beginV
    simp only
    rw [gmap_get _ hi, List.getD_eq_getElem?_getD (l := List.replicate _ _), List.getElem?_replicate, if_pos hi]
    refine ⟨?_, fun j hj => absurd hj (Nat.not_lt_zero _), fun h2 => ?_, fun h3 => ?_, fun h4 => ?_⟩
    · show ((0 : Nat) : Int) ≤ _
      split
      · exact hd.2.2.1
      · exact Int.le_refl _
    · rw [if_pos (by have := hd.1; omega)]
      exact ⟨hd.2.2.1, hd.2.2.2.1 h2⟩
    · rw [if_neg (by omega)]
      omega
    · rw [if_neg (by omega)]
def demo : Fl := (1, [(3, [109], 0, 0)], [(1, [], 1, 0, 0, 0)], [[(11, 1, 0, 0, 0, -1, -1), (7, 0, 0, 0, 0, -1, -1)], [(7, 0, 0, 0, 0, -1, -1)]], 0)
theorem e_Demo (n : Nat) : slaw28_Demo n = some demo := by
  unfold slaw28_Demo dup
  simp only [both_self]
  rfl
instance (f : Fl) : Decidable (okF f) := by unfold okF; infer_instance
instance (f : Fl) : Decidable (okAll f) := by unfold okAll; infer_instance
instance (D : List De) : Decidable (short D) := by unfold short; infer_instance
instance (f : Fl) : Decidable (lightF f) := by unfold lightF; infer_instance
theorem demo_ok : okAll demo := by decide +kernel
theorem demo_light : lightF demo := by decide +kernel
theorem demo_V (n : Nat) (s : St) : V n demo s = [1] := rfl
abbrev tt0 : Tn := (0, -1, -1)
def demo1 : St := ([1, 0], [true, true], [false, false], [], [0], [[]], false)
def demo2 : St := ([2, 0], [true, true], [false, false], [], [1], [[]], false)
theorem demo_t0 : tt0 ∈ turnsM demo [1] (beginM demo) := by decide +kernel
theorem demo_t1 : tt0 ∈ turnsM demo [1] demo1 := by decide +kernel
theorem demo_d0 (n : Nat) : doM n demo (beginM demo) tt0 = demo1 := by
  unfold doM
  rw [demo_V]
  rfl
theorem demo_d1 (n : Nat) : doM n demo demo1 tt0 = demo2 := by
  unfold doM
  rw [demo_V]
  rfl
theorem demo_w : waitsM demo [1] demo2 = [1] := by decide +kernel
theorem e_awake {n : Nat} (hn : 8193 ≤ n) : slaw28_awake n = some true := by
  unfold slaw28_awake
  have hS0 := okS_begin demo_ok
  have ht0 : tt0 ∈ turnsM demo (V n demo (beginM demo)) (beginM demo) := by rw [demo_V]; exact demo_t0
  have hS1 := okS_doM hn demo_ok hS0 ht0
  have ht1 : tt0 ∈ turnsM demo (V n demo demo1) demo1 := by rw [demo_V]; exact demo_t1
  rw [demo_d0] at hS1
  have hS2 := okS_doM hn demo_ok hS1 ht1
  rw [demo_d1] at hS2
  rw [e_Demo, bindO_s, e_Begin hn demo_light demo_ok, bindO_s]
  rw [show ((Int.ofNat 0, Int.negSucc 0, Int.negSucc 0) : Tn) = tt0 from rfl]
  simp only
  rw [e_Do hn demo_light demo_ok hS0, if_pos ht0, bindO_s]
  simp only
  rw [demo_d0, e_Do hn demo_light demo_ok hS1, if_pos ht1, bindO_s]
  simp only
  rw [demo_d1, e_waits hn demo_light demo_ok hS2, demo_V, demo_w, bindO_s, show ([Int.ofNat 1] : List Int) = [1] from rfl, e_Ints hn (by decide), bindO_s]
  rfl
end Go.Proofs.YtfbipcdllbdijaaGreat
namespace Go.Proofs.YtfbipcdllbdijaaGreat
open Go Go.TM
theorem e_light28 {n : Nat} (hn : 8193 ≤ n) (s : St) : Ev (slaw28_light n s) fun b => b = true → smallS s := by
  unfold slaw28_light
  generalize hm : min s.2.2.2.2.2.1.length 100 = m
  refine Ev.seek (fun i => (i : Int)) m (fun i => (s.2.2.2.2.2.1.getD i []).length ≤ 100) (fun i rec hi hp => ?_) (fun i rec hi hp _ => ?_) (fun rec hall => ?_) n 0 (Nat.zero_le _) (by omega) (fun k hk => absurd hk (Nat.not_lt_zero _))
  · rw [ask_t (b := ltI (i : Int) (Int.ofNat s.2.2.2.2.2.1.length)) (lt_nc (by omega)), bindO_s, ask_t (b := ltI (i : Int) (Int.ofNat 100)) (lt_nc (by omega)), need_t (in_nc (by omega)), Int.toNat_natCast, wr_nc (by omega)]
    exact ask_f (by rw [ltI_false]; show ((s.2.2.2.2.2.1.getD i []).length : Int) ≤ 100; omega)
  · rw [ask_t (b := ltI (i : Int) (Int.ofNat s.2.2.2.2.2.1.length)) (lt_nc (by omega)), bindO_s, ask_t (b := ltI (i : Int) (Int.ofNat 100)) (lt_nc (by omega)), need_t (in_nc (by omega)), Int.toNat_natCast]
    exact Ev.askT (by rw [ltI_iff]; show (100 : Int) < ((s.2.2.2.2.2.1.getD i []).length : Int); omega) (Ev.some fun e => (by cases e))
  · rw [bindO_eq (a := false) (by
      by_cases h : m < s.2.2.2.2.2.1.length
      · rw [ask_t (b := ltI (m : Int) (Int.ofNat s.2.2.2.2.2.1.length)) (lt_nc h), show m = 100 from by omega]
        rfl
      · rw [ask_f (b := ltI (m : Int) (Int.ofNat s.2.2.2.2.2.1.length)) (by rw [ltI_false]; show (s.2.2.2.2.2.1.length : Int) ≤ m; omega)]), ask_false]
    refine Ev.pass ?_
    have bad : ∀ {R : Prop}, Ev (some false) fun b => b = true → R := fun {R} => Ev.some fun e => (by cases e)
    refine Ev.ask (fun h1 => Ev.ask (fun h2 => Ev.ask (fun h3 => Ev.ask (fun h4 => Ev.ask (fun h5 => Ev.some fun h6 => ?_) fun _ => bad) fun _ => bad) fun _ => bad) fun _ => bad) fun _ => bad
    rw [ltI_iff] at h1 h2 h3 h4 h5 h6
    have h1 : (s.2.2.2.2.2.1.length : Int) < 100 := h1
    have h2 : (s.1.length : Int) < 100 := h2
    have h3 : (s.2.1.length : Int) < 100 := h3
    have h4 : (s.2.2.1.length : Int) < 100 := h4
    have h5 : (s.2.2.2.1.length : Int) < 300 := h5
    have h6 : (s.2.2.2.2.1.length : Int) < 100 := h6
    exact ⟨by omega, by omega, by omega, by omega, by omega, by omega, fun i hi => by have := hall i (by omega); omega⟩
theorem e_NowF {n : Nat} (hn : 8193 ≤ n) {f : Fl} (hl : lightF f) (hf : okAll f) {s : St} (hS : okS f s) (p : Int) : sstep_Now n f s p = some (nowK (nowZ f (V n f s) s p), (nowZ f (V n f s) s p).isSome) := by
  refine Ev.eq ?_
  unfold sstep_Now
  refine Ev.bind (e_stepCheck hn hl s) fun r hr => ?_
  rw [hr.2.mpr ⟨hf, hS⟩]
  refine Ev.askF rfl ?_
  rw [e_evalV hn hf s, bindO_s]
  refine Ev.bind (e_mNow hn hf hS (V_len n f s) p) fun r hr => ?_
  subst hr
  exact Ev.some rfl
theorem check_no {n : Nat} (hn : 8193 ≤ n) {f : Fl} (hl : lightF f) {s : St} (h : ¬ (okAll f ∧ okS f s)) : sstep_Check n f s = some 1 := by
  obtain ⟨r, hr, h1, h2⟩ := e_stepCheck hn hl s
  rw [hr]
  rcases h1 with h1 | h1
  · exact absurd (h2.mp h1) h
  · rw [h1]
theorem e_NowN {n : Nat} (hn : 8193 ≤ n) {f : Fl} (hl : lightF f) {s : St} (h : ¬ (okAll f ∧ okS f s)) (p : Int) : sstep_Now n f s p = some (0, false) := by
  unfold sstep_Now
  exact (bindO_eq (check_no hn hl h)).trans rfl
theorem e_TurnsF {n : Nat} (hn : 8193 ≤ n) {f : Fl} (hl : lightF f) (hf : okAll f) {s : St} (hS : okS f s) : sstep_Turns n f s = some (turnsM f (V n f s) s) := by
  refine Ev.eq ?_
  unfold sstep_Turns
  refine Ev.bind (e_stepCheck hn hl s) fun r hr => ?_
  rw [hr.2.mpr ⟨hf, hS⟩]
  refine Ev.askF rfl ?_
  rw [e_evalV hn hf s, bindO_s]
  exact Ev.bindR (e_mTurns hn hf hS (V_len n f s)) (Ev.some rfl)
theorem e_TurnsN {n : Nat} (hn : 8193 ≤ n) {f : Fl} (hl : lightF f) {s : St} (h : ¬ (okAll f ∧ okS f s)) : sstep_Turns n f s = some [] := by
  unfold sstep_Turns
  exact (bindO_eq (check_no hn hl h)).trans rfl
theorem e_waitsN {n : Nat} (hn : 8193 ≤ n) {f : Fl} (hl : lightF f) {s : St} (h : ¬ (okAll f ∧ okS f s)) : sstep_Waits n f s = some [] := by
  unfold sstep_Waits
  exact (bindO_eq (check_no hn hl h)).trans rfl
abbrev z0 : St := ([], [], [], [], [], [], false)
theorem small0 : smallS z0 := ⟨by decide, by decide, by decide, by decide, by decide, by decide, fun i hi => absurd hi (Nat.not_lt_zero _)⟩
theorem Ev.true {o : Option Bool} (h : o = some true) : Ev o fun b => b = true := ⟨_, h, rfl⟩
theorem law3 (f : Fl) (s : St) (t : Tn) : ∃ n, slaw28_StepTurns n f s t = some true := by
  refine ⟨10000, Ev.eq ?_⟩
  generalize hn' : 10000 = n
  have hn : 8193 ≤ n := by omega
  clear hn'
  have haw : Ev (bindO (slaw28_awake n) fun r => some r) fun b => b = true := Ev.pass (Ev.true (e_awake hn))
  unfold slaw28_StepTurns
  refine Ev.bind (Q := fun b => b = false → lightF f ∧ smallS s) ?_ fun b hb => Ev.ask (fun _ => haw) fun h => ?_
  · refine Ev.bind (e_Light hn f) fun b hb => Ev.ask (fun h => Ev.some fun e => (by cases e)) fun h => ?_
    rw [notB_false] at h
    refine Ev.bind (e_light28 hn s) fun c hc => Ev.some fun e => ?_
    rw [notB_false] at e
    exact ⟨hb.mp h, hc e⟩
  obtain ⟨hl, hsm⟩ := hb h
  clear h hb
  by_cases hok : okAll f ∧ okS f s
  · obtain ⟨hf, hS⟩ := hok
    have htl := turns_len hf (V n f s) s
    refine Ev.bindR (e_Do hn hl hf hS t) ?_
    refine Ev.bindR (a := false) ?_ (Ev.askF rfl ?_)
    · refine Ev.eq ?_
      refine Ev.bind (e_may27 hn f) fun b hb => ?_
      rw [hb.mpr ⟨hl, hf⟩]
      refine Ev.askF rfl ?_
      refine Ev.bindR (e_refMayS hn hf s) (Ev.some ?_)
      rw [decide_eq_true hS]
      rfl
    -- what is next
    have hP := hf.p
    refine Ev.forN (f.2.2.2.1.length + 2) (fun j (x : Int) => x = (j : Int) - 1) (fun j x rec hj hx hrec => ?_) (fun x rec hx => ?_) n 0 _ rfl (Nat.zero_le _) (by omega)
    · subst hx
      refine Ev.askT (by rw [notB_true, ltI_false]; show (j : Int) - 1 ≤ (f.2.2.2.1.length : Int); omega) ?_
      refine Ev.bindR (e_NowF hn hl hf hS ((j : Int) - 1)) ?_
      refine Ev.bind (e_refNow hn hf hS ((j : Int) - 1)) fun r hr => ?_
      subst hr
      refine Ev.bind (Q := fun b => b = false) ?_ fun b hb => ?_
      · cases hz : nowZ f (V n f s) s ((j : Int) - 1) with
        | none => exact Ev.askF rfl (Ev.askF rfl (Ev.askT rfl (Ev.some rfl)))
        | some k =>
          have h0 : ltI ((k : Nat) : Int) (Int.ofNat 0) = false := by rw [ltI_false]; exact Int.natCast_nonneg k
          refine Ev.askF (show notB (eqB true (notB (ltI ((k : Nat) : Int) (Int.ofNat 0)))) = false by rw [h0]; rfl) (Ev.askT rfl (Ev.askF (show notB (eqI ((k : Nat) : Int) ((k : Nat) : Int)) = false by rw [notB_false, eqI_iff]) (Ev.askF rfl (Ev.some rfl))))
      · subst hb
        refine Ev.askF rfl (hrec _ ?_)
        rw [show Int.add ((j : Int) - 1) (Int.ofNat 1) = (j : Int) from by show (j : Int) - 1 + 1 = _; omega, wr_nat (by omega)]
        omega
    · subst hx
      refine Ev.askF (by rw [notB_false, ltI_iff]; show (f.2.2.2.1.length : Int) < ((f.2.2.2.1.length + 2 : Nat) : Int) - 1; omega) ?_
      refine Ev.bindR (e_refTurns hn hf hS) ?_
      refine Ev.bindR (a := false) ?_ (Ev.askF rfl ?_)
      · refine Ev.eq ?_
        refine Ev.bindR (e_TurnsF hn hl hf hS) ?_
        refine Ev.bindR (e_turnsSame (a := turnsM f (V n f s) s) (b := turnsM f (V n f s) s) hn (by omega)) ?_
        rw [decide_eq_true rfl]
        refine Ev.askF rfl ?_
        refine Ev.bindR (e_waits hn hl hf hS) (Ev.bindR (e_refWaits hn hf hS) ?_)
        refine Ev.bindR (e_Ints hn (by have := waits_small hf (V n f s) s (p := f.2.2.2.1.length) (Nat.le_refl _); show (waitsM f (V n f s) s).length ≤ 8000; unfold waitsM; omega)) (Ev.some ?_)
        rw [decide_eq_true rfl]
        rfl
      · refine Ev.forN (turnsM f (V n f s) s).length (fun i (x : Bool × Int) => x.2 = (i : Int) ∧ (x.1 = true ↔ ∃ j, j < i ∧ (turnsM f (V n f s) s).getD j (0, 0, 0) = t)) (fun i x rec hi hx hrec => ?_) (fun x rec hx => ?_) n 0 _ ⟨rfl, ?_⟩ (Nat.zero_le _) (by omega)
        · obtain ⟨b, y⟩ := x
          obtain ⟨rfl, hb⟩ := hx
          simp only at hb ⊢
          refine Ev.askT (lt_nc hi) (Ev.need (in_nc hi) ?_)
          unfold dup
          rw [both_self]
          simp only [Int.toNat_natCast, in_nc hi, need_true, wr_nc (show i < 9223372036854775807 by omega)]
          have hmem : (turnsM f (V n f s) s).getD i (0, 0, 0) ∈ turnsM f (V n f s) s := by
            rw [List.getD_eq_getElem?_getD, List.getElem?_eq_getElem hi]
            exact List.getElem_mem _
          have hrec' : ∀ b', (b' = true ↔ b = true ∨ (turnsM f (V n f s) s).getD i (0, 0, 0) = t) → Ev (rec (b', ((i + 1 : Nat) : Int))) fun x => x = true := fun b' h => hrec _ ⟨rfl, h.trans (by
            rw [hb]
            constructor
            · rintro (⟨j, h1, h2⟩ | h2)
              · exact ⟨j, by omega, h2⟩
              · exact ⟨i, by omega, h2⟩
            · rintro ⟨j, h1, h2⟩
              rcases Nat.lt_or_ge j i with h3 | h3
              · exact .inl ⟨j, h3, h2⟩
              · rw [show j = i from by omega] at h2; exact .inr h2)⟩
          show Ev (bindO (sstep_Do n f s ((turnsM f (V n f s) s).getD i (0, 0, 0))) _) _
          have htn := tn_eq ((turnsM f (V n f s) s).getD i (0, 0, 0)) t
          have hS2 := okS_doM hn hf hS hmem
          refine Ev.bindR (e_Do hn hl hf hS _) ?_
          rw [if_pos hmem]
          simp only
          refine Ev.bindR (a := false) ?_ (Ev.askF rfl ?_)
          · refine Ev.eq ?_
            refine Ev.askF rfl ?_
            refine Ev.bindR (e_refDo' hn hf hS hmem) ?_
            refine Ev.bind (e_Same hn (hS2.small hf)) fun c hc => ?_
            rw [hc.mpr rfl]
            refine Ev.askF rfl ?_
            refine Ev.bind (e_stepCheck hn hl _) fun r hr => Ev.some ?_
            rw [hr.2.mpr ⟨hf, hS2⟩]
            rfl
          · refine Ev.bind (Q := fun b' => b' = true ↔ b = true ∨ (turnsM f (V n f s) s).getD i (0, 0, 0) = t) ?_ fun b' hb' => hrec' b' hb'
            refine Ev.ask (fun h => Ev.some ⟨fun _ => .inl h, fun _ => rfl⟩) fun h => Ev.some ?_
            rw [h]
            exact htn.trans ⟨fun h => .inr h, fun h => h.resolve_left (by decide)⟩
        · obtain ⟨b, y⟩ := x
          obtain ⟨rfl, hb⟩ := hx
          simp only at hb ⊢
          refine Ev.askF (lt_ec _) (Ev.pass ?_)
          have hbm : b = true ↔ t ∈ turnsM f (V n f s) s := by
            rw [hb]
            constructor
            · rintro ⟨j, h1, rfl⟩
              rw [List.getD_eq_getElem?_getD, List.getElem?_eq_getElem h1]
              exact List.getElem_mem _
            · intro h
              obtain ⟨j, hj, rfl⟩ := List.mem_iff_getElem.mp h
              refine ⟨j, hj, ?_⟩
              rw [List.getD_eq_getElem?_getD, List.getElem?_eq_getElem hj]
              rfl
          by_cases hm : t ∈ turnsM f (V n f s) s
          · rw [if_pos hm, hbm.mpr hm]
            exact Ev.askT rfl (Ev.askT rfl haw)
          · rw [if_neg hm]
            have hbf : b = false := by rw [← Bool.not_eq_true, hbm]; exact hm
            rw [hbf]
            refine Ev.askT rfl (Ev.askF rfl (Ev.askT rfl ?_))
            refine Ev.bind (e_Same hn hsm (b := s)) fun c hc => ?_
            rw [hc.mpr rfl]
            exact Ev.askT rfl haw
        · constructor
          · intro e; cases e
          · rintro ⟨j, h1, _⟩; exact absurd h1 (Nat.not_lt_zero _)
  · refine Ev.bindR (e_DoN hn hl hok t) ?_
    refine Ev.bindR (a := true) ?_ (Ev.askT rfl ?_)
    · refine Ev.eq ?_
      refine Ev.bind (e_may27 hn f) fun b hb => Ev.ask (fun _ => Ev.some rfl) fun h => ?_
      rw [notB_false] at h
      have hf := (hb.mp h).2
      refine Ev.bindR (e_refMayS hn hf s) (Ev.some ?_)
      rw [decide_eq_false fun h => hok ⟨hf, h⟩]
      rfl
    · refine Ev.bindR (e_NowN hn hl hok _) (Ev.pass ?_)
      refine Ev.askT rfl (Ev.askT rfl ?_)
      refine Ev.bind (e_Same hn small0 (b := z0)) fun c hc => ?_
      rw [hc.mpr rfl]
      refine Ev.askT rfl ?_
      refine Ev.bindR (e_TurnsN hn hl hok) (Ev.askT rfl ?_)
      exact Ev.bindR (e_waitsN hn hl hok) (Ev.askT rfl haw)
end Go.Proofs.YtfbipcdllbdijaaGreat
