/- Part 6 of the proof. fathomlaw28.StepLocks returns true for every input. -/
import Derived.Test.YtfbipcdllbdijaaGreatQL5
set_option linter.unusedVariables false
set_option linter.unusedSimpArgs false
set_option linter.unusedSectionVars false
set_option linter.constructorNameAsVariable false
namespace Go.Proofs.YtfbipcdllbdijaaGreat
open Go Go.TM
theorem run_get {r : List (Int × Int)} {l : List Nat} (h : r.map Prod.fst = l.map fun i : Nat => (i : Int)) : r.length = l.length ∧ ∀ j < l.length, (r.getD j (0, 0)).1 = ((l.getD j 0 : Nat) : Int) := by
  have hl : r.length = l.length := by
    have := congrArg List.length h
    rwa [List.length_map, List.length_map] at this
  refine ⟨hl, fun j hj => ?_⟩
  have h1 : (r.map Prod.fst)[j]? = (l.map fun i : Nat => (i : Int))[j]? := by rw [h]
  rw [List.getElem?_map, List.getElem?_map, List.getElem?_eq_getElem (by omega), List.getElem?_eq_getElem hj] at h1
  rw [List.getD_eq_getElem?_getD, List.getD_eq_getElem?_getD, List.getElem?_eq_getElem (by omega), List.getElem?_eq_getElem hj]
  simpa using h1
def lockAt (f : Fl) (s : St) (p d : Nat) (i : Nat) : Prop := (i : Int) < s.1.getD p 0 ∧ (inst f p i).2.1 = (d : Int) ∧ ((inst f p i).1 = 7 ∨ (inst f p i).1 = 8)
theorem e_within {n : Nat} (hn : 8193 ≤ n) {f : Fl} (hl : lightF f) (hf : okAll f) {s : St} (hS : okS f s) {p : Nat} (hp : p < f.2.2.2.1.length) (d : Nat) :
    Ev (slaw28_within n f s (p : Int) (d : Int)) fun b => b = true ↔ ∃ a, a < (dl f (V n f s) p (pr f p).length).length ∧ (lockAt f s p d ((dl f (V n f s) p (pr f p).length).getD a 0) ∧ (inst f p ((dl f (V n f s) p (pr f p).length).getD a 0)).1 = 7) ∧
      ∀ c, a < c → c < (dl f (V n f s) p (pr f p).length).length → ¬ lockAt f s p d ((dl f (V n f s) p (pr f p).length).getD c 0) := by
  unfold slaw28_within
  refine Ev.bind (e_Run hn hl hf hS hp) fun r hr => ?_
  obtain ⟨hrl, hrg⟩ := run_get hr
  have hlen : (pr f p).length ≤ 64 := hf.len hp
  have hdl := dl_len f (V n f s) p (pr f p).length
  have hmem : ∀ j < (dl f (V n f s) p (pr f p).length).length, (dl f (V n f s) p (pr f p).length).getD j 0 < (pr f p).length := fun j hj => by
    have : (dl f (V n f s) p (pr f p).length).getD j 0 ∈ dl f (V n f s) p (pr f p).length := by
      rw [List.getD_eq_getElem?_getD, List.getElem?_eq_getElem hj]
      exact List.getElem_mem _
    exact (dl_mem.mp this).1
  have hnl := hS.1.1
  generalize dl f (V n f s) p (pr f p).length = I at *
  refine Ev.forN I.length (fun j (x : Bool × Int) => x.2 = (j : Int) ∧ (x.1 = true ↔ ∃ a, a < j ∧ (lockAt f s p d (I.getD a 0) ∧ (inst f p (I.getD a 0)).1 = 7) ∧ ∀ c, a < c → c < j → ¬ lockAt f s p d (I.getD c 0))) (fun j x rec hj hx hrec => ?_) (fun x rec hx => ?_) n 0 _ ⟨rfl, ?_⟩ (Nat.zero_le _) (by omega)
  · obtain ⟨b, y⟩ := x
    obtain ⟨rfl, hb⟩ := hx
    simp only at hb ⊢
    have hjr : j < r.length := by omega
    refine Ev.askT (show ltI (j : Int) (Int.ofNat r.length) = true from lt_nc hjr) ?_
    have hg : (r.getD j (Int.ofNat 0, Int.ofNat 0)).1 = ((I.getD j 0 : Nat) : Int) := hrg j hj
    have hm := hmem j hj
    simp only [in_nc hjr, in_nc hp, in_nc (show p < s.1.length by omega), need_true, Int.toNat_natCast, wr_nc (show j < 9223372036854775807 by omega), hg]
    generalize hi : I.getD j 0 = i at *
    have hlq : lockAt f s p d i ↔ (i : Int) < s.1.getD p 0 ∧ (inst f p i).2.1 = (d : Int) ∧ ((inst f p i).1 = 7 ∨ (inst f p i).1 = 8) := Iff.rfl
    refine Ev.bindR (a := false) ?_ (Ev.askF rfl ?_)
    · rw [ask_f (b := ltI (i : Int) (Int.ofNat 0)) (by rw [ltI_false]; exact Int.natCast_nonneg i)]
      refine congrArg some ?_
      rw [notB_false]
      exact lt_nc hm
    · refine Ev.need (in_nc hm) ?_
      have hrec' : ∀ b', (b' = true ↔ (lockAt f s p d i ∧ (inst f p i).1 = 7) ∨ (¬ lockAt f s p d i ∧ b = true)) → Ev (rec (b', ((j + 1 : Nat) : Int))) _ := fun b' h => hrec _ ⟨rfl, h.trans (by
        rw [hb]
        constructor
        · rintro (h1 | ⟨h1, a, h2, h3, h4⟩)
          · exact ⟨j, by omega, by rw [hi]; exact h1, fun c h5 h6 => by omega⟩
          · refine ⟨a, by omega, h3, fun c h5 h6 => ?_⟩
            rcases Nat.lt_or_ge c j with h7 | h7
            · exact h4 c h5 h7
            · rw [show c = j from by omega, hi]; exact h1
        · rintro ⟨a, h2, h3, h4⟩
          rcases Nat.lt_or_ge a j with h7 | h7
          · refine .inr ⟨?_, a, h7, h3, fun c h5 h6 => h4 c h5 (by omega)⟩
            have := h4 j h7 (by omega)
            rwa [hi] at this
          · rw [show a = j from by omega, hi] at h3
            exact .inl h3)⟩
      refine Ev.bind (Q := fun q => q = true ↔ lockAt f s p d i) ?_ fun q hq => ?_
      · refine Ev.ask (fun h1 => Ev.ask (fun h2 => ?_) fun h2 => Ev.some ⟨fun e => (by cases e), fun h => ?_⟩) fun h1 => Ev.some ⟨fun e => (by cases e), fun h => ?_⟩
        · rw [ltI_iff] at h1
          rw [eqI_iff] at h2
          refine Ev.ask (fun h3 => Ev.some ⟨fun _ => hlq.mpr ⟨h1, h2, .inl (by rw [eqI_iff] at h3; exact h3)⟩, fun _ => rfl⟩) fun h3 => Ev.some ?_
          rw [eqI_false] at h3
          rw [eqI_iff]
          exact ⟨fun h => hlq.mpr ⟨h1, h2, .inr h⟩, fun h => (hlq.mp h).2.2.resolve_left h3⟩
        · rw [eqI_false] at h2
          exact absurd (hlq.mp h).2.1 h2
        · rw [ltI_false] at h1
          exact absurd (hlq.mp h).1 (Int.not_lt.mpr h1)
      · refine Ev.bind (Q := fun b' => b' = true ↔ (lockAt f s p d i ∧ (inst f p i).1 = 7) ∨ (¬ lockAt f s p d i ∧ b = true)) ?_ fun b' hb' => hrec' b' hb'
        refine Ev.ask (fun h => Ev.some ?_) fun h => Ev.some ?_
        · have hla := hq.mp h
          rw [eqI_iff]
          exact ⟨fun h => .inl ⟨hla, h⟩, fun h => (h.resolve_right fun h2 => h2.1 hla).2⟩
        · have hla : ¬ lockAt f s p d i := fun h2 => by rw [hq.mpr h2] at h; cases h
          exact ⟨fun h => .inr ⟨hla, h⟩, fun h => (h.resolve_left fun h2 => hla h2.1).2⟩
  · obtain ⟨b, y⟩ := x
    obtain ⟨rfl, hb⟩ := hx
    refine Ev.askF (show ltI (I.length : Int) (Int.ofNat r.length) = false by rw [hrl]; exact lt_ec _) (Ev.some hb)
  · constructor
    · intro e; cases e
    · rintro ⟨a, h, _⟩; exact absurd h (Nat.not_lt_zero _)
theorem law6 (f : Fl) (picks : List Int) (hw : WB (.sl (.int .u8)) picks) : ∃ n, slaw28_StepLocks n f picks = some true := by
  refine ⟨10000, Ev.eq ?_⟩
  generalize hn' : 10000 = n
  have hn : 8193 ≤ n := by omega
  clear hn'
  have haw : Ev (bindO (slaw28_awake n) fun r => some r) fun b => b = true := Ev.pass (Ev.true (e_awake hn))
  unfold slaw28_StepLocks
  refine Ev.bind (e_may27 hn f) fun b hb => Ev.ask (fun _ => haw) fun h => ?_
  rw [notB_false] at h
  obtain ⟨hl, hf⟩ := hb.mp h
  have hD := hf.d
  have htot : tot f.2.2.2.1 ≤ 64 := hf.2.2.2.2.1
  refine Ev.bind (e_play hn hl hf (u8_has hw)) fun r hr => ?_
  obtain ⟨out, ok⟩ := r
  obtain ⟨hok, hall, l, s0, hout, hz, hle⟩ := hr
  simp only at hok hall hout
  have hol : out.length ≤ 65 := by
    have := next_le ((hall s0 (by rw [hout]; simp)).ok hn hf)
    rw [hout, List.length_append]
    show l.length + 1 ≤ 65
    omega
  subst hok
  refine Ev.askF rfl ?_
  simp only
  clear hout hz hle
  refine Ev.forN out.length (fun i (x : Int) => x = (i : Int)) (fun i x rec hi hx hrec => ?_) (fun x rec hx => ?_) n 0 _ rfl (Nat.zero_le _) (by omega)
  · subst hx
    refine Ev.askT (lt_nc hi) (Ev.need (in_nc hi) ?_)
    have hR := hall (out.getD i z0) (by
      rw [List.getD_eq_getElem?_getD, List.getElem?_eq_getElem hi]
      exact List.getElem_mem _)
    simp only [Int.toNat_natCast, in_nc hi, need_true, wr_nc (show i < 9223372036854775807 by omega)]
    generalize hs : out.getD i (([], [], [], [], [], [], false) : St) = s at *
    have hR : Reach n f s := hR
    have hS := hR.ok hn hf
    have hI := hR.inv hn hf
    refine Ev.bindR (e_refMayS hn hf s) ?_
    rw [decide_eq_true hS]
    refine Ev.askF rfl ?_
    refine Ev.forN f.2.1.length (fun d (x : Int) => x = (d : Int)) (fun d x rec1 hd hx hrec1 => ?_) (fun x rec1 hx => ?_) n 0 _ rfl (Nat.zero_le _) (by omega)
    · subst hx
      refine Ev.askT (lt_nc hd) ?_
      simp only [Int.toNat_natCast, in_nc hd, need_true, wr_nc (show d < 9223372036854775807 by omega)]
      refine Ev.bind (Q := fun r => ∃ u, r = .inl u) ?_ fun r hr => ?_
      · refine Ev.ask (fun _ => Ev.some ⟨_, rfl⟩) fun h3 => ?_
        have h3 : (f.2.1.getD d d0).1 = 3 := by rw [notB_false, eqI_iff] at h3; exact h3
        refine Ev.need (in_nc (by have := hS.1.2.2.2.2.1; omega)) ?_
        refine Ev.bind (Q := fun b => b = false) ?_ fun b hb => by subst hb; exact Ev.askF rfl (Ev.some ⟨_, rfl⟩)
        refine Ev.ask (fun h0 => ?_) fun _ => Ev.some rfl
        have h0 : s.2.2.2.2.1.getD d 0 ≠ 0 := by rw [notB_true, eqI_false] at h0; exact h0
        obtain ⟨q, hq, hqv, a, hda, ha7, hao, hall2⟩ := hI.locks d hd h3 h0
        rw [show wr IntKind.i64 (Int.sub (s.2.2.2.2.1.getD d (Int.ofNat 0)) (Int.ofNat 1)) = (q : Int) from by
          rw [show s.2.2.2.2.1.getD d (Int.ofNat 0) = ((q + 1 : Nat) : Int) from hqv, show Int.sub ((q + 1 : Nat) : Int) (Int.ofNat 1) = (q : Int) from by show ((q + 1 : Nat) : Int) - 1 = _; omega]
          exact wr_nat (by have := hf.p; omega)]
        refine Ev.bind (e_within hn hl hf hS hq d) fun b hb => Ev.some ?_
        rw [notB_false]
        refine hb.mpr ?_
        have hal : a < (pr f q).length := by
          have h1 := (hS.2.1 q hq).2
          have h2 := hda.1
          have : (a : Int) < ((pr f q).length : Int) := Int.lt_of_lt_of_le h2 h1
          omega
        have hmem : a ∈ dl f (V n f s) q (pr f q).length := dl_mem.mpr ⟨hal, hda.2⟩
        have hasc := dl_asc f (V n f s) q (pr f q).length
        obtain ⟨j, hj, hja⟩ := List.mem_iff_getElem.mp hmem
        have hjd : (dl f (V n f s) q (pr f q).length).getD j 0 = a := by
          rw [List.getD_eq_getElem?_getD, List.getElem?_eq_getElem hj]
          exact hja
        refine ⟨j, hj, ?_, fun c hc1 hc2 hlc => ?_⟩
        · rw [hjd]
          exact ⟨⟨hda.1, hao, .inl ha7⟩, ha7⟩
        · have hcd : (dl f (V n f s) q (pr f q).length).getD c 0 = (dl f (V n f s) q (pr f q).length)[c] := by
            rw [List.getD_eq_getElem?_getD, List.getElem?_eq_getElem hc2]
            rfl
          have hlt : a < (dl f (V n f s) q (pr f q).length)[c] := by
            have := List.pairwise_iff_getElem.mp hasc j c hj hc2 hc1
            rwa [hja] at this
          rw [hcd] at hlc
          have hmc := dl_mem.mp (List.getElem_mem hc2)
          exact hall2 _ hlt ⟨hlc.1, hmc.2⟩ ⟨hlc.2.2, hlc.2.1⟩
      · obtain ⟨u, rfl⟩ := hr
        rw [caseS_inl]
        exact hrec1 _ rfl
    · subst hx
      exact Ev.askF (lt_ec _) (hrec _ rfl)
  · subst hx
    exact Ev.askF (lt_ec _) haw
end Go.Proofs.YtfbipcdllbdijaaGreat
