/- Part 3 of the proof. fathomlaw28.StepRuns returns true for every input. -/
import Derived.Test.YtfbipcdllbdijaaGreatQR2
set_option linter.unusedVariables false
set_option linter.unusedSimpArgs false
set_option linter.unusedSectionVars false
set_option linter.constructorNameAsVariable false
set_option maxRecDepth 1000000
namespace Go.TM
open Go.RowKit
section
variable {P : Program} {N : Nat} {B : Nat → Prop} {G : Nat → Nat → Value → Prop} {fr U : Nat → Prop} {φ : Loc} {a : Act} {w : World} {e : T V} {h : Heap} {nx : Nat} {pr ks : Nat → Bool} {R : Type} {res : R}
def Bar (B O : Nat → Prop) : Nat → Prop := fun b => B b ∧ ¬ O b
theorem bar_none {O : Nat → Prop} (h : ∀ b, ¬ O b) : Bar B O = B := by
  funext b
  exact propext ⟨And.left, fun hb => ⟨hb, h b⟩⟩
theorem bar_bar {O O1 O2 : Nat → Prop} (h : ∀ b, O b ↔ O1 b ∨ O2 b) : Bar (Bar B O1) O2 = Bar B O := by
  funext b
  apply propext
  unfold Bar
  rw [h b]
  constructor
  · rintro ⟨⟨h1, h2⟩, h3⟩; exact ⟨h1, fun h => h.elim h2 h3⟩
  · rintro ⟨h1, h2⟩; exact ⟨⟨h1, fun h => h2 (.inl h)⟩, fun h => h2 (.inr h)⟩
theorem HeapAt.name (H : HeapAt B G fr φ h w) {φ' : Loc} {Fp : Nat → Prop} {O : Nat → Prop} (hF : ∀ x, Fp x → fr x) (hout : ∀ n, ¬ Fp n.1 → φ' n = φ n) (hO : ∀ b, O b → B b) (hG : ∀ b o v, G b o v → ¬ O b) (hnew : ∀ n b, Fp n.1 → (φ' n).has b → O b)
    (hinj : ∀ n m b, Fp n.1 → Fp m.1 → (φ' n).has b → (φ' m).has b → n = m) (hall : ∀ b, O b → ∃ n, (φ' n).has b) :
    HeapAt (Bar B O) G (fun x => fr x ∧ ¬ Fp x) φ' h w ∧ Excl (Bar B O) φ' = Excl B φ ∧ Keeps w (Excl B φ) φ w (Excl B φ) φ' := by
  have hfree : ∀ n, Fp n.1 → φ n = .free := fun n hn => (H.free n.1 (hF _ hn)).1 n.2
  have hex : Excl (Bar B O) φ' = Excl B φ := by
    funext b
    apply propext
    constructor
    · rintro (h | ⟨n, h⟩)
      · exact .inl h.1
      · by_cases hf : Fp n.1
        · exact .inl (hO b (hnew n b hf h))
        · exact .inr ⟨n, by rw [← hout n hf]; exact h⟩
    · rintro (h | ⟨n, h⟩)
      · by_cases ho : O b
        · exact .inr (hall b ho)
        · exact .inl ⟨h, ho⟩
      · have hf : ¬ Fp n.1 := fun hf => by rw [hfree n hf] at h; exact h
        exact .inr ⟨n, by rw [hout n hf]; exact h⟩
  have K : Keeps w (Excl B φ) φ w (Excl B φ) φ' := ⟨fun _ _ _ => rfl, Nat.le_refl _, fun b hb => .inl hb, fun n hn => .inl (hout n fun hf => hn (hfree n hf))⟩
  refine ⟨⟨fun x k hk => ?_, H.gen, H.gtop, fun n m b h1 h2 => ?_, fun n b hb => ?_, fun b hb => H.ltB b hb.1, fun x hx => ⟨fun i => ?_, (H.free x hx.1).2⟩, fun b o v hg => ⟨⟨(H.gl b o v hg).1.1, fun n hn => ?_⟩, (H.gl b o v hg).2⟩⟩, hex, K⟩
  · rw [hex]
    refine K.blk (fun n hu => hout n fun hf => ?_) (fun _ _ _ _ => rfl) (H.st x k hk)
    exact ((H.st x k hk).live hu).1 (hfree n hf)
  · by_cases hf : Fp n.1 <;> by_cases hf' : Fp m.1
    · exact hinj n m b hf hf' h1 h2
    · rw [hout m hf'] at h2
      exact absurd (hO b (hnew n b hf h1)) (H.lt m b h2).2
    · rw [hout n hf] at h1
      exact absurd (hO b (hnew m b hf' h2)) (H.lt n b h1).2
    · rw [hout n hf] at h1
      rw [hout m hf'] at h2
      exact H.inj n m b h1 h2
  · by_cases hf : Fp n.1
    · have := hnew n b hf hb
      exact ⟨H.ltB b (hO b this), fun h => h.2 this⟩
    · rw [hout n hf] at hb
      exact ⟨(H.lt n b hb).1, fun h => (H.lt n b hb).2 h.1⟩
  · rw [hout (x, i) hx.2]; exact (H.free x hx.1).1 i
  · by_cases hf : Fp n.1
    · exact hG b o v hg (hnew n b hf hn)
    · rw [hout n hf] at hn
      exact (H.gl b o v hg).1.2 n hn
structure Gave (B : Nat → Prop) (φ : Loc) (h : Heap) (nx : Nat) (O : Nat → Prop) (m : Nat) (φ' : Loc) (h' : Heap) : Prop where
  le : nx ≤ m
  excl : Excl (Bar B O) φ' = Excl B φ
  old : ∀ n, φ n ≠ .free → φ' n = φ n
  new : ∀ n b, (φ' n).has b → (φ n).has b ∨ (O b ∧ nx ≤ n.1)
  fam : ∀ z g, famOf (h'.get z) = some g → famOf (h.get z) = some g ∨ nx ≤ g
  low : ∀ n : Nm, n.1 < nx → φ' n = φ n
theorem Gave.keeps {O : Nat → Prop} {m : Nat} {φ' : Loc} {h' : Heap} (g : Gave B φ h nx O m φ' h') (w : World) : Keeps w (Excl B φ) φ w (Excl B φ) φ' :=
  ⟨fun _ _ _ => rfl, Nat.le_refl _, fun b hb => .inl hb, fun n hn => .inl (g.old n hn)⟩
theorem Gave.trans {O O1 O2 : Nat → Prop} {m1 m2 : Nat} {φ1 φ2 : Loc} {h1 h2 : Heap} (g : Gave B φ h nx O1 m1 φ1 h1) (k : Gave (Bar B O1) φ1 h1 m1 O2 m2 φ2 h2) (hO : ∀ b, O b ↔ O1 b ∨ O2 b) : Gave B φ h nx O m2 φ2 h2 := by
  refine ⟨Nat.le_trans g.le k.le, ?_, fun n hn => ?_, fun n b hb => ?_, fun z c hz => ?_, fun n hn => (k.low n (Nat.lt_of_lt_of_le hn g.le)).trans (g.low n hn)⟩
  · rw [← bar_bar hO, k.excl, g.excl]
  · have := g.old n hn
    rw [← this]
    exact k.old n (by rw [this]; exact hn)
  · rcases k.new n b hb with h | ⟨h, h2⟩
    · exact (g.new n b h).imp id fun ⟨h1, h2⟩ => ⟨(hO b).2 (.inl h1), h2⟩
    · exact .inr ⟨(hO b).2 (.inr h), Nat.le_trans g.le h2⟩
  · rcases k.fam z c hz with h3 | h3
    · exact g.fam z c h3
    · exact .inr (Nat.le_trans g.le h3)
theorem give1 (H : HeapAt B G fr φ h w) {x : Nat} (hx : fr x) {l : Lc} (hl0 : l ≠ .free) {O : Nat → Prop} (hlO : ∀ b, O b ↔ l.has b) (hO : ∀ b, O b → B b) (hG : ∀ b o v, G b o v → ¬ O b) {k : Blk} (hk : famOf (some k) = none) (hB : ∀ φ', Keeps w (Excl B φ) φ w (Excl B φ) φ' → φ' (x, 0) = l → BlkAt w (Excl B φ) φ' x k) {h' : Heap} (hp : Put h x (some k) h') :
    HeapAt (Bar B O) G (fun y => fr y ∧ y ≠ x) (φ.ext x l) h' w ∧ Excl (Bar B O) (φ.ext x l) = Excl B φ ∧ (∀ n, φ n ≠ .free → φ.ext x l n = φ n) ∧ (∀ n b, (φ.ext x l n).has b → (φ n).has b ∨ (O b ∧ n.1 = x)) ∧ ∀ z g, famOf (h'.get z) = some g → famOf (h.get z) = some g := by
  have hfree := (H.free x hx).1
  let Fp : Nat → Prop := fun y => y = x
  obtain ⟨H1, hex, K⟩ := H.name (φ' := φ.ext x l) (Fp := Fp) (O := O) (fun y hy => by rw [show y = x from hy]; exact hx) (fun n hn => φ.ext_ne x l fun e => hn (by rw [e])) hO hG (fun n b hn hb => by
      by_cases h0 : n = (x, 0)
      · subst h0; rw [φ.ext_same] at hb; exact (hlO b).2 hb
      · rw [φ.ext_ne x l h0] at hb
        obtain ⟨n1, n2⟩ := n
        have hn : n1 = x := hn
        subst hn
        rw [hfree n2] at hb; exact hb.elim) (fun n m b hn hm h1 h2 => by
      have key : ∀ n : Nm, Fp n.1 → (φ.ext x l n).has b → n = (x, 0) := fun n hn hb => by
        by_cases h0 : n = (x, 0)
        · exact h0
        · rw [φ.ext_ne x l h0] at hb
          obtain ⟨n1, n2⟩ := n
          have hn : n1 = x := hn
          subst hn
          rw [hfree n2] at hb; exact hb.elim
      rw [key n hn h1, key m hm h2]) (fun b hb => ⟨(x, 0), by rw [φ.ext_same]; exact (hlO b).1 hb⟩)
  refine ⟨H1.add' (by rw [hex]; exact hB _ K (φ.ext_same x l)) (fun y hy => (H.free x hx).2 y hy) (fun g hg => by rw [hk] at hg; cases hg) hp, hex, fun n hn => φ.ext_ne x l fun e => hn (by rw [e]; exact hfree 0), fun n b hb => ?_, fun z g hz => ?_⟩
  · by_cases h0 : n = (x, 0)
    · subst h0
      rw [φ.ext_same] at hb
      exact .inr ⟨(hlO b).2 hb, rfl⟩
    · rw [φ.ext_ne x l h0] at hb
      exact .inl hb
  · rw [hp z] at hz
    split at hz
    · rw [hk] at hz; cases hz
    · exact hz
theorem giveS_sound : ∀ {s : Sh} {x : s.D} {U B : Nat → Prop} {φ : Loc} {h : Heap} {nx : Nat} {us : List Value} {O : Nat → Prop} {q : List V → Nat → Heap → Option R}, HeapAt B G (FR U nx) φ h w → (∀ x, U x → x < nx) → SR w (Excl B φ) s x us O → (∀ b, O b → B b) → (∀ b o v, G b o v → ¬ O b) → giveS s x nx h q = some res →
    ∃ l m h' φ', q l m h' = some res ∧ Gave B φ h nx O m φ' h' ∧ HeapAt (Bar B O) G (FR U m) φ' h' w ∧ LW w (Excl B φ) φ' l us := by
  intro s
  induction s with
  | v t =>
    intro x U B φ h nx us O q H hU hS hO hG hq
    simp only [giveS] at hq
    refine ⟨_, _, _, φ, hq, ⟨Nat.le_refl _, by rw [bar_none hS.2], fun _ _ => rfl, fun _ _ h => .inl h, fun _ _ h => .inl h, fun _ _ => rfl⟩, by rw [bar_none hS.2]; exact H, RT.cells hS.1⟩
  | own el =>
    intro x U B φ h nx us O q H hU hS hO hG hq
    simp only [giveS] at hq
    obtain ⟨h', hp, hq⟩ := T.putK_spec hq
    rw [forceN_eq] at hq
    obtain ⟨v, l, rfl, hv, hA, hlO⟩ := hS
    obtain ⟨H', hex, hold, hnew, hfm⟩ := give1 H (x := nx) (.inr (Nat.le_refl _)) (fun e => by rw [e] at hv; cases hv) hlO hO hG (k := .arr el x) rfl (fun φ' K hφ => by
      show ArrAt _ _ (φ' (nx, 0)) el x
      rw [hφ]; exact hA) hp
    refine ⟨_, _, _, _, hq, ⟨Nat.le_succ _, hex, hold, fun n b hb => (hnew n b hb).imp id fun ⟨h1, h2⟩ => ⟨h1, by omega⟩, fun z g hz => .inl (hfm z g hz), fun n hn => φ.ext_ne _ _ fun e => by rw [e] at hn; exact Nat.lt_irrefl _ hn⟩, H'.less fun y hy => ?_, .cons (.own _ _ (row_one hA hv) ?_ trivial fun u hu => ?_) (row_one hA hv) .nil⟩
    · rcases hy with hy | hy
      · exact ⟨.inl hy, fun e => by have := hU y hy; omega⟩
      · have hy : nx + 1 ≤ y := hy
        exact ⟨.inr (by omega), by omega⟩
    · show φ.ext nx l (nx, 0) ≠ _
      rw [φ.ext_same]; intro e; rw [e] at hv; cases hv
    · have hu : (φ.ext nx l (nx, 0)).hd = some u := hu
      rw [φ.ext_same, hv] at hu
      injection hu
  | fam k =>
    intro x U B φ h nx us O q H hU hS hO hG hq
    simp only [giveS] at hq
    obtain ⟨h', hp, hq⟩ := T.putK_spec hq
    rw [forceN_eq] at hq
    obtain ⟨v, rfl, l, Ls, hv, hrow, hmem, hinj, hdis, hOl⟩ := hS
    let φ' : Loc := fun n => if n.1 = nx then (match n.2 with | 0 => l | _ + 1 => .free) else if n.1 = nx + 1 then (match n.2 with | 0 => .free | i + 1 => if i < x.length then Ls i else .free) else φ n
    have n0 : φ' (nx, 0) = l := by simp [φ']
    have pi : ∀ i, i < x.length → φ' (nx + 1, i + 1) = Ls i := fun i hi => by simp [φ', hi]
    have po : ∀ n : Nm, ¬ (n.1 = nx ∨ n.1 = nx + 1) → φ' n = φ n := fun n hn => by
      have h1 : ¬ n.1 = nx := fun e => hn (.inl e)
      have h2 : ¬ n.1 = nx + 1 := fun e => hn (.inr e)
      simp [φ', h1, h2]
    have members : ∀ n b', (n.1 = nx ∨ n.1 = nx + 1) → (φ' n).has b' → (n = (nx, 0) ∧ l.has b') ∨ ∃ i, n = (nx + 1, i + 1) ∧ i < x.length ∧ (Ls i).has b' := fun n b' hn hh' => by
      obtain ⟨n1, n2⟩ := n
      rcases hn with hn | hn
      · have hn : n1 = nx := hn
        subst hn
        cases n2 with
        | zero => rw [n0] at hh'; exact .inl ⟨rfl, hh'⟩
        | succ i => simp [φ', Lc.has] at hh'
      · have hn : n1 = nx + 1 := hn
        subst hn
        cases n2 with
        | zero => simp [φ', Lc.has] at hh'
        | succ i =>
          by_cases hi : i < x.length
          · rw [pi i hi] at hh'; exact .inr ⟨i, rfl, hi, hh'⟩
          · simp [φ', hi, Lc.has] at hh'
    obtain ⟨H1, hex, K⟩ := H.name (φ' := φ') (Fp := fun y => y = nx ∨ y = nx + 1) (O := O) (fun y hy => .inr (by rcases hy with rfl | rfl <;> omega)) po hO hG (fun n b hn hb => by
        rcases members n b hn hb with ⟨_, h3⟩ | ⟨i, _, hi, h3⟩
        · exact (hOl b).2 (.inl h3)
        · exact (hOl b).2 (.inr ⟨i, hi, h3⟩)) (fun n m b hn hm h1 h2 => by
        rcases members n b hn h1 with ⟨rfl, h3⟩ | ⟨i, rfl, hi, h3⟩ <;> rcases members m b hm h2 with ⟨rfl, h4⟩ | ⟨i', rfl, hi', h4⟩
        · rfl
        · exact absurd h3 (hdis i' b hi' h4)
        · exact absurd h4 (hdis i b hi h3)
        · rw [hinj i i' b hi hi' h3 h4]) (fun b hb => by
        rcases (hOl b).1 hb with h3 | ⟨i, hi, h3⟩
        · exact ⟨(nx, 0), by rw [n0]; exact h3⟩
        · exact ⟨(nx + 1, i + 1), by rw [pi i hi]; exact h3⟩)
    have H2 := H1.add' (x := nx) (k := .fam k (nx + 1) x) ⟨by
        rw [n0]
        refine RowAt.same (fun _ _ => rfl) (fun j us hj ⟨v, h3, h4⟩ => ⟨v, h3, ?_⟩) hrow
        rw [pi j hj]; exact h4, fun j y hj => by
          rw [hex, pi j (List.getElem?_eq_some_iff.1 hj).1]
          exact hmem j y hj⟩ (fun y hy => (H.free nx (.inr (Nat.le_refl _))).2 y hy) (fun g hg => by
        simp only [famOf, Option.some.injEq] at hg
        subst hg
        exact ⟨fun y _ hy => (H.free (nx + 1) (.inr (by omega))).2 y hy, H.noKey (.inr (by omega)), by omega, fun hf => hf.2 (.inr rfl)⟩) hp
    refine ⟨_, _, _, φ', hq, ⟨by omega, hex, fun n hn => po n fun hf => hn ?_, fun n b hb => ?_, fun z g hz => ?_, fun n hn => po n fun hf => by omega⟩, H2.less fun y hy => ?_, .cons (.own _ _ (row_one hrow hv) ?_ trivial fun u hu => ?_) (row_one hrow hv) .nil⟩
    · exact (H.free n.1 (.inr (by rcases hf with h | h <;> omega))).1 n.2
    · by_cases hf : n.1 = nx ∨ n.1 = nx + 1
      · refine .inr ⟨?_, by omega⟩
        rcases members n b hf hb with ⟨_, h3⟩ | ⟨i, _, hi, h3⟩
        · exact (hOl b).2 (.inl h3)
        · exact (hOl b).2 (.inr ⟨i, hi, h3⟩)
      · rw [po n hf] at hb; exact .inl hb
    · rw [hp z] at hz
      split at hz
      · simp only [famOf, Option.some.injEq] at hz
        exact .inr (by omega)
      · exact .inl hz
    · rcases hy with hy | hy
      · have := hU y hy
        exact ⟨.inl hy, by omega⟩
      · have hy : nx + 1 + 1 ≤ y := hy
        exact ⟨.inr (by omega), by omega⟩
    · show φ' (nx, 0) ≠ _
      rw [n0]; intro e; rw [e] at hv; cases hv
    · have hu : (φ' (nx, 0)).hd = some u := hu
      rw [n0, hv] at hu
      injection hu
  | box s ih =>
    intro x U B φ h nx us O q H hU hS hO hG hq
    simp only [giveS] at hq
    obtain ⟨b, cs, t, z, us', O', rfl, hh, hop, hle, hcs, hS', hOb, hOO⟩ := hS
    have H0 : HeapAt B G (FR (fun y => U y ∨ y = nx) (nx + 1)) φ h w := H.less fun y hy => by
      rcases hy with (hy | hy) | hy
      · exact .inl hy
      · exact .inr (by omega)
      · exact .inr (by omega)
    obtain ⟨l, m, h1, φ1, hq, g1, H1, hl⟩ := ih H0 (fun y hy => by rcases hy with hy | hy; have := hU y hy; omega; omega) hS' (fun c hc => hO c ((hOO c).2 (.inr hc))) (fun c o v hg hc => hG c o v hg ((hOO c).2 (.inr hc))) hq
    simp only [forceBlk_eq] at hq
    obtain ⟨h2, hp, hq⟩ := T.putK_spec hq
    obtain ⟨H2, hex, hold, hnew, hfm⟩ := give1 H1 (x := nx) (.inl (.inr rfl)) (l := .blk b) (O := fun c => c = b) nofun (fun c => ⟨fun h => h.symm, fun h => h.symm⟩) (fun c hc => ⟨hO c ((hOO c).2 (.inl hc)), fun hc' => hOb (hc ▸ hc')⟩) (fun c o v hg hc => hG c o v hg ((hOO c).2 (.inl hc))) (k := .box l) rfl (fun φ' K hφ => by
      refine ⟨b, cs, t, z, hφ, hh, hop, by rw [hl.1]; exact hle, fun i c v h3 h4 => ?_⟩
      rw [g1.excl] at K
      have hi : i < us'.length := by rw [← hl.1]; exact (List.getElem?_eq_some_iff.1 h3).1
      have h5 : us'[i]? = some us'[i] := by simp [hi]
      have h6 := hcs i _ h5
      rw [h4] at h6
      injection h6 with h6
      have := hl.2 i c _ h3 h5
      rw [← h6] at this
      rw [g1.excl]
      exact ⟨K.rep this.1, this.2⟩) hp
    have gg : Gave B φ h nx O m (φ1.ext nx (.blk b)) h2 := by
      refine ⟨by have := g1.le; omega, ?_, fun n hn => ?_, fun n c hc => ?_, fun z g hz => ?_, fun n hn => (φ1.ext_ne _ _ fun e => by rw [e] at hn; exact Nat.lt_irrefl _ hn).trans (g1.low n (by omega))⟩
      · rw [← bar_bar (B := B) (O := O) (O1 := O') (O2 := fun c => c = b) fun c => by rw [hOO c]; exact Or.comm]
        rw [hex, g1.excl]
      · rw [← g1.old n hn]
        exact hold n (by rw [g1.old n hn]; exact hn)
      · rcases hnew n c hc with h3 | ⟨h3, h4⟩
        · rcases g1.new n c h3 with h5 | ⟨h5, h6⟩
          · exact .inl h5
          · exact .inr ⟨(hOO c).2 (.inr h5), by omega⟩
        · exact .inr ⟨(hOO c).2 (.inl h3), by omega⟩
      · rcases g1.fam z g (hfm z g hz) with h3 | h3
        · exact .inl h3
        · exact .inr (by omega)
    refine ⟨_, _, _, _, hq, gg, ?_, .cons (.ptr _ _ _ ⟨_, rfl, rfl⟩ ?_ fun b' hb' => ?_) rfl .nil⟩
    · rw [bar_bar (B := B) (O := O) (O1 := O') (O2 := fun c => c = b) fun c => by rw [hOO c]; exact Or.comm] at H2
      refine H2.less fun y hy => ?_
      rcases hy with hy | hy
      · exact ⟨.inl (.inl hy), fun e => by have := hU y hy; omega⟩
      · have := g1.le
        have hy : m ≤ y := hy
        exact ⟨.inr hy, by omega⟩
    · show φ1.ext nx (.blk b) (nx, 0) ≠ _
      rw [Loc.ext_same]; nofun
    · rw [Loc.ext_same] at hb'
      injection hb' with hb'
      rw [hb']
  | chan =>
    intro x U B φ h nx us O q H hU hS hO hG hq
    simp only [giveS] at hq
    obtain ⟨h', hp, hq⟩ := T.putK_spec hq
    rw [forceN_eq] at hq
    obtain ⟨b, rfl, hC, hOb⟩ := hS
    obtain ⟨H', hex, hold, hnew, hfm⟩ := give1 H (x := nx) (.inr (Nat.le_refl _)) (l := .blk b) nofun (fun c => by rw [hOb c]; exact ⟨fun h => h.symm, fun h => h.symm⟩) hO hG (k := .chan x.1 x.2) rfl (fun φ' K hφ => by
      show ChanAt _ (φ' (nx, 0)) x.1 x.2
      rw [hφ]; exact hC) hp
    refine ⟨_, _, _, _, hq, ⟨Nat.le_succ _, hex, hold, fun n b hb => (hnew n b hb).imp id fun ⟨h1, h2⟩ => ⟨h1, by omega⟩, fun z g hz => .inl (hfm z g hz), fun n hn => φ.ext_ne _ _ fun e => by rw [e] at hn; exact Nat.lt_irrefl _ hn⟩, H'.less fun y hy => ?_, .cons (.chn _ _ rfl ?_ trivial fun b' hb' => ?_) rfl .nil⟩
    · rcases hy with hy | hy
      · exact ⟨.inl hy, fun e => by have := hU y hy; omega⟩
      · have hy : nx + 1 ≤ y := hy
        exact ⟨.inr (by omega), by omega⟩
    · show φ.ext nx (.blk b) (nx, 0) ≠ _
      rw [φ.ext_same]; nofun
    · have hb' : φ.ext nx (.blk b) (nx, 0) = .blk b' := hb'
      rw [φ.ext_same] at hb'
      injection hb' with hb'
      rw [hb']
  | map m =>
    intro x U B φ h nx us O q H hU hS hO hG hq
    simp only [giveS] at hq
    obtain ⟨h', hp, hq⟩ := T.putK_spec hq
    rw [forceN_eq] at hq
    obtain ⟨b, mes, clock, rfl, hh, hM, hOb⟩ := hS
    obtain ⟨H', hex, hold, hnew, hfm⟩ := give1 H (x := nx) (.inr (Nat.le_refl _)) (l := .blk b) nofun (fun c => by rw [hOb c]; exact ⟨fun h => h.symm, fun h => h.symm⟩) hO hG (k := .map m x) rfl (fun φ' K hφ => ⟨b, mes, clock, hφ, hh, hM.1.keep fun t x vs h => K.rt h, hM.2⟩) hp
    refine ⟨_, _, _, _, hq, ⟨Nat.le_succ _, hex, hold, fun n b hb => (hnew n b hb).imp id fun ⟨h1, h2⟩ => ⟨h1, by omega⟩, fun z g hz => .inl (hfm z g hz), fun n hn => φ.ext_ne _ _ fun e => by rw [e] at hn; exact Nat.lt_irrefl _ hn⟩, H'.less fun y hy => ?_, .cons (.mp _ _ ⟨_, rfl⟩ ?_ fun b' hb' => ?_) rfl .nil⟩
    · rcases hy with hy | hy
      · exact ⟨.inl hy, fun e => by have := hU y hy; omega⟩
      · have hy : nx + 1 ≤ y := hy
        exact ⟨.inr (by omega), by omega⟩
    · show φ.ext nx (.blk b) (nx, 0) ≠ _
      rw [φ.ext_same]; nofun
    · have hb' : φ.ext nx (.blk b) (nx, 0) = .blk b' := hb'
      rw [φ.ext_same] at hb'
      injection hb' with hb'
      rw [hb']
  | iter m =>
    intro x U B φ h nx us O q H hU hS hO hG hq
    simp only [giveS] at hq
    obtain ⟨h', hp, hq⟩ := T.putK_spec hq
    rw [forceN_eq] at hq
    obtain ⟨b, rfl, hI, hOb⟩ := hS
    obtain ⟨H', hex, hold, hnew, hfm⟩ := give1 H (x := nx) (.inr (Nat.le_refl _)) (l := .blk b) nofun (fun c => by rw [hOb c]; exact ⟨fun h => h.symm, fun h => h.symm⟩) hO hG (k := .iter m x none) rfl (fun φ' K hφ => ⟨b, hφ, K.iter rfl hI⟩) hp
    refine ⟨_, _, _, _, hq, ⟨Nat.le_succ _, hex, hold, fun n b hb => (hnew n b hb).imp id fun ⟨h1, h2⟩ => ⟨h1, by omega⟩, fun z g hz => .inl (hfm z g hz), fun n hn => φ.ext_ne _ _ fun e => by rw [e] at hn; exact Nat.lt_irrefl _ hn⟩, H'.less fun y hy => ?_, .cons (.ptr _ _ _ ⟨_, rfl, rfl⟩ ?_ fun b' hb' => ?_) rfl .nil⟩
    · rcases hy with hy | hy
      · exact ⟨.inl hy, fun e => by have := hU y hy; omega⟩
      · have hy : nx + 1 ≤ y := hy
        exact ⟨.inr (by omega), by omega⟩
    · show φ.ext nx (.blk b) (nx, 0) ≠ _
      rw [φ.ext_same]; nofun
    · have hb' : φ.ext nx (.blk b) (nx, 0) = .blk b' := hb'
      rw [φ.ext_same] at hb'
      injection hb' with hb'
      rw [hb']
  | unit =>
    intro x U B φ h nx us O q H hU hS hO hG hq
    simp only [giveS] at hq
    refine ⟨_, _, _, φ, hq, ⟨Nat.le_refl _, by rw [bar_none hS.2], fun _ _ => rfl, fun _ _ h => .inl h, fun _ _ h => .inl h, fun _ _ => rfl⟩, by rw [bar_none hS.2]; exact H, by rw [hS.1]; exact .nil⟩
  | pair s1 s2 ih1 ih2 =>
    intro x U B φ h nx us O q H hU hS hO hG hq
    simp only [giveS] at hq
    obtain ⟨us1, us2, O1, O2, rfl, hS1, hS2, hd, hOO⟩ := hS
    obtain ⟨l1, m1, h1, φ1, hq, g1, H1, hl1⟩ := ih1 H hU hS1 (fun c hc => hO c ((hOO c).2 (.inl hc))) (fun c o v hg hc => hG c o v hg ((hOO c).2 (.inl hc))) hq
    obtain ⟨l2, m2, h2, φ2, hq, g2, H2, hl2⟩ := ih2 H1 (fun y hy => Nat.lt_of_lt_of_le (hU y hy) g1.le) (by rw [g1.excl]; exact hS2) (fun c hc => ⟨hO c ((hOO c).2 (.inr hc)), fun hc' => hd c hc' hc⟩) (fun c o v hg hc => hG c o v hg ((hOO c).2 (.inr hc))) hq
    have gg := g1.trans g2 hOO
    have K := g2.keeps w
    rw [g1.excl] at K hl2
    refine ⟨_, _, _, _, hq, gg, by rw [bar_bar hOO] at H2; exact H2, (LW.mono (fun c v h => K.rep h) hl1).append hl2⟩
end
end Go.TM
namespace Go.TM
open Go.RowKit
section
variable {P : Program} {N : Nat} {B : Nat → Prop} {G : Nat → Nat → Value → Prop} {fr U : Nat → Prop} {φ : Loc} {a : Act} {w : World} {e : T V} {h : Heap} {nx : Nat} {pr ks : Nat → Bool} {R : Type} {res : R}
def CellsOf (g : Bool) (v : Value) (us : List Value) : Prop := match g with
  | true => v = .agg us.toArray
  | false => us = [v] ∧ v.oneCell' = true
theorem cellsG_spec {X : Nat → Prop} {g : Bool} {c : V} {cs : List V} {v : Value} (hq : cellsG g c = some cs) (hr : Rep w X φ c v) : ∃ us, CellsOf g v us ∧ LW w X φ cs us := by
  unfold cellsG at hq
  split at hq
  · rename_i cs'
    split at hq
    · rename_i hone
      injection hq with hq
      subst hq
      obtain ⟨vs, rfl, hl, hv⟩ := rep_agg hr
      exact ⟨vs, rfl, hl, fun i c v h1 h2 => ⟨hv i c v h1 h2, rep_one (hv i c v h1 h2) (allOne_mem hone c (List.mem_of_getElem? h1))⟩⟩
    · cases hq
  · cases hq
  · cases hq
  · split at hq
    · rename_i hone
      injection hq with hq
      subst hq
      exact ⟨[v], ⟨rfl, rep_one hr hone⟩, .cons hr (rep_one hr hone) .nil⟩
    · cases hq
theorem ofCells_spec {X : Nat → Prop} {g : Bool} {c : V} {l : List V} {us : List Value} {v : Value} (hv : CellsOf g v us) (hl : LW w X φ l us) (hq : ofCells g l = some c) : Rep w X φ c v := by
  unfold ofCells at hq
  split at hq
  · injection hq with hq
    subst hq
    rw [show v = .agg us.toArray from hv]
    exact .agg _ us hl.1 fun i c v h1 h2 => (hl.2 i c v h1 h2).1
  · injection hq with hq
    subst hq
    obtain ⟨h1, _⟩ := (show us = [v] ∧ v.oneCell' = true from hv)
    rw [h1] at hl
    exact (hl.2 0 _ _ rfl rfl).1
  · cases hq
def ItR (N : Nat) (a : Act) (w : World) (X : Nat → Prop) (φ : Loc) : (i : It) → i.D → (Nat → Prop) → Prop
  | .slot t g sh, x, O => t < N ∧ ∃ us, CellsOf g (a.tmps.getD t undef) us ∧ SR w X sh x us O
  | .cont y sh, x, O => ∃ (b : Nat) (cs : Array Value) (t : TypeId) (z : Nat × Nat) (us : List Value), φ (y, 0) = .blk b ∧ w.heap[b]? = some (.cells cs t z) ∧ Open cs z ∧ us.length ≤ cs.size ∧ (∀ (i : Nat) (v : Value), us[i]? = some v → cs[i]? = some v) ∧ SR w X sh x us O
  | .chs x g, xs, O => BlkAt w X φ x (.fam .chan g xs) ∧ ∀ b, ¬ O b
def ItsR (N : Nat) (a : Act) (w : World) (X : Nat → Prop) (φ : Loc) : (l : List It) → ItD l → (Nat → Prop) → Prop
  | [], _, O => ∀ b, ¬ O b
  | [i], x, O => ItR N a w X φ i x O
  | i :: j :: r, x, O => ∃ O1 O2, ItR N a w X φ i x.1 O1 ∧ ItsR N a w X φ (j :: r) x.2 O2 ∧ Disj O1 O2 ∧ ∀ b, O b ↔ O1 b ∨ O2 b
def usedOf : (i : It) → i.D → Nm → Prop
  | .slot _ _ _, _, _ => False
  | .cont y _, _, n => n = (y, 0)
  | .chs x g, xs, n => n = (x, 0) ∨ ∃ j, j < xs.length ∧ n = (g, j + 1)
def used : (l : List It) → ItD l → Nm → Prop
  | [], _, _ => False
  | [i], x, n => usedOf i x n
  | i :: j :: r, x, n => usedOf i x.1 n ∨ used (j :: r) x.2 n
theorem ItR.mono {X X' : Nat → Prop} {φ' : Loc} (hx : ∀ b, X' b → X b) {i : It} {x : i.D} (hc : ∀ n, usedOf i x n → φ n ≠ .free → φ n ≠ .dead → φ' n = φ n) {O : Nat → Prop} (h : ItR N a w X φ i x O) : ItR N a w X' φ' i x O := by
  cases i with
  | slot t g sh =>
    obtain ⟨h1, us, h2, h3⟩ := h
    exact ⟨h1, us, h2, h3.mono hx⟩
  | cont y sh =>
    obtain ⟨b, cs, t, z, us, h1, h2, h3, h4, h5, h6⟩ := h
    exact ⟨b, cs, t, z, us, by rw [hc _ rfl (by rw [h1]; nofun) (by rw [h1]; nofun)]; exact h1, h2, h3, h4, h5, h6.mono hx⟩
  | chs z g =>
    obtain ⟨h1, h2⟩ := h
    have hu : ∀ n, Uses z (.fam .chan g x) n → φ' n = φ n := fun n hn => hc n (by
      rcases hn with rfl | ⟨j, hj, rfl⟩
      · exact .inl rfl
      · exact .inr ⟨j, hj, rfl⟩) (h1.live hn).1 (h1.live hn).2
    refine ⟨⟨?_, fun j y hj => ?_⟩, h2⟩
    · rw [hu _ (.inl rfl)]
      refine RowAt.same (fun _ _ => rfl) (fun j us hj ⟨v, h3, h4⟩ => ⟨v, h3, ?_⟩) h1.1
      rw [hu _ (.inr ⟨j, hj, rfl⟩)]; exact h4
    · rw [hu _ (.inr ⟨j, (List.getElem?_eq_some_iff.1 hj).1, rfl⟩)]
      exact mem_keep (fun _ _ _ h => RT.mono hx h) (fun _ _ => rfl) (h1.2 j y hj)
theorem ItsR.mono {X X' : Nat → Prop} {φ' : Loc} (hx : ∀ b, X' b → X b) : ∀ {l : List It} {x : ItD l} (hc : ∀ n, used l x n → φ n ≠ .free → φ n ≠ .dead → φ' n = φ n) {O : Nat → Prop}, ItsR N a w X φ l x O → ItsR N a w X' φ' l x O
  | [], _, _, _, h => h
  | [i], x, hc, O, h => ItR.mono hx hc h
  | i :: j :: r, x, hc, O, ⟨O1, O2, h1, h2, h3⟩ => ⟨O1, O2, h1.mono hx (fun n hn => hc n (.inl hn)), ItsR.mono hx (fun n hn => hc n (.inr hn)) h2, h3⟩
theorem Grabbed.rel {B1 : Nat → Prop} {φ1 : Loc} {h1 : Heap} {O : Nat → Prop} (g : Grabbed pr B φ h B1 φ1 h1 O) (H : RelAt N B G fr φ ⟨e, h, nx, pr, ks⟩ a w) (H1 : HeapAt B1 G fr φ1 h1 w) : RelAt N B1 G fr φ1 ⟨e, h1, nx, pr, ks⟩ a w :=
  { H1 with size := H.size, defers := H.defers, env := fun t c hc => ⟨(H.env t c hc).1, (g.keeps w).rep (H.env t c hc).2⟩ }
theorem grabI1_sound (H : RelAt N B G fr φ ⟨e, h, nx, pr, ks⟩ a w) {i : It} {q : i.D → S → Option R} (hq : grabI1 ⟨e, h, nx, pr, ks⟩ i q = some res) :
    ∃ x h1 B1 φ1 O, q x ⟨e, h1, nx, pr, ks⟩ = some res ∧ HeapAt B1 G fr φ1 h1 w ∧ ItR N a w (Excl B1 φ1) φ i x O ∧ Grabbed pr B φ h B1 φ1 h1 O ∧ ∀ n, usedOf i x n → φ n ≠ .free ∧ φ n ≠ .dead ∧ pr n.1 = false ∧ ∀ b, (φ n).has b → ¬ O b ∧ B1 b := by
  cases i with
  | slot t g sh =>
    simp only [grabI1] at hq
    split at hq
    · rename_i c hc
      split at hq
      · rename_i cs hcs
        obtain ⟨us, hv, hl⟩ := cellsG_spec hcs (H.env t c hc).2
        obtain ⟨x, h1, rest, B1, φ1, us1, ws, O, hq, h2, H1, hl1, hS, g⟩ := grabS_sound H.toHeapAt hl hq
        split at hq
        · have : ws = [] := List.eq_nil_of_length_eq_zero hl1.1.symm
          subst this
          rw [List.append_nil] at h2
          subst h2
          exact ⟨x, h1, B1, φ1, O, hq, H1, ⟨(H.env t c hc).1, us, hv, hS⟩, g, fun n hn => hn.elim⟩
        · cases hq
      · cases hq
    · cases hq
  | cont y sh =>
    simp only [grabI1] at hq
    split at hq
    · rename_i cs hs hpr
      obtain ⟨h0, hp, hq⟩ := T.putK_spec hq
      have hw : Without h [y] h0 := without1 hp
      have hpn : ∀ n ∈ [y], pr n = false := fun n hn => by simp only [List.mem_singleton] at hn; subst hn; exact hpr
      obtain ⟨b, vs, t, z, hb, hh, hop, hle, hv⟩ := H.st y _ hs
      have H0 := H.toHeapAt.lend (okns_top H.toHeapAt hs) hw
      have g0 := grabbed_lend (O := fun _ => False) H.toHeapAt hpn hw (fun c hc => hc.elim)
      have hl1 : LW w (Excl B φ) φ cs (vs.toList.take cs.length) := by
        refine ⟨by simp; omega, fun i c u h3 h4 => ?_⟩
        have hi : i < cs.length := (List.getElem?_eq_some_iff.1 h3).1
        rw [List.getElem?_take, if_pos hi] at h4
        exact hv i c u h3 (by simpa using h4)
      obtain ⟨x, h1, rest, B1, φ1, us1, ws, O, hq, h2, H1, hl2, hS, g⟩ := grabS_sound H0 (g0.lw hl1) hq
      split at hq
      · have : ws = [] := List.eq_nil_of_length_eq_zero hl2.1.symm
        subst this
        rw [List.append_nil] at h2
        have hB0 : (fun b' => B b' ∨ ∃ n : Nm, n.1 ∈ [y] ∧ (φ n).has b') b := .inr ⟨(y, 0), by simp, by rw [hb]; rfl⟩
        obtain ⟨gg, _⟩ := g0.trans g
        refine ⟨x, h1, B1, φ1, O, hq, H1, ⟨b, vs, t, z, us1, hb, hh, hop, by rw [← h2]; simp; omega, fun i u hi => ?_, hS⟩, gg.iff fun c hc => .inr hc, fun n hn => ?_⟩
        · rw [← h2] at hi
          rw [List.getElem?_take] at hi
          split at hi
          · simpa using hi
          · cases hi
        · have hn : n = (y, 0) := hn
          subst hn
          refine ⟨by rw [hb]; nofun, by rw [hb]; nofun, hpr, fun b' hb' => ?_⟩
          rw [hb] at hb'
          have : b = b' := hb'
          subst this
          exact ⟨fun hO => (g.own b hO).2.1 hB0, g.sub b hB0⟩
      · cases hq
    · cases hq
  | chs z g =>
    simp only [grabI1] at hq
    split at hq
    · rename_i g' xs hs
      split at hq
      · rename_i hg
        obtain rfl := beq_true hg
        obtain ⟨hp, h1, hw, hq⟩ := dropN_spec hq
        have hok := okns_fam H.toHeapAt hs
        have gg := grabbed_lend (O := fun _ => False) H.toHeapAt hp hw (fun c hc => hc.elim)
        have hB := H.st z _ hs
        refine ⟨xs, h1, _, _, fun _ => False, hq, H.toHeapAt.lend hok hw, ⟨by rw [excl_lend]; exact hB, fun b h => h⟩, gg, fun n hn => ?_⟩
        have hu : Uses z (.fam .chan g xs) n := hn
        have hin : n.1 ∈ [z, g] := by rcases hu with rfl | ⟨j, _, rfl⟩ <;> simp
        exact ⟨(hB.live hu).1, (hB.live hu).2, hp _ hin, fun b hb => ⟨fun h => h, .inr ⟨n, hin, hb⟩⟩⟩
      · cases hq
    · cases hq
theorem grabI_sound : ∀ {l : List It} {B : Nat → Prop} {φ : Loc} {h : Heap} {q : ItD l → Option R}, RelAt N B G fr φ ⟨e, h, nx, pr, ks⟩ a w → grabI l ⟨e, h, nx, pr, ks⟩ q = some res →
    ∃ x h1 B1 φ1 O, q x = some res ∧ HeapAt B1 G fr φ1 h1 w ∧ ItsR N a w (Excl B1 φ1) φ l x O ∧ Grabbed pr B φ h B1 φ1 h1 O ∧ ∀ n, used l x n → φ n ≠ .free ∧ φ n ≠ .dead ∧ pr n.1 = false ∧ ∀ b, (φ n).has b → ¬ O b ∧ B1 b
  | [], B, φ, h, q, H, hq => by
    simp only [grabI] at hq
    exact ⟨(), h, B, φ, _, hq, H.toHeapAt, fun b h => h, Grabbed.refl, fun n hn => hn.elim⟩
  | [i], B, φ, h, q, H, hq => by
    simp only [grabI] at hq
    obtain ⟨x, h1, B1, φ1, O, hq, H1, hI, g, hc⟩ := grabI1_sound H hq
    exact ⟨x, h1, B1, φ1, O, hq, H1, hI, g, hc⟩
  | i :: j :: r, B, φ, h, q, H, hq => by
    simp only [grabI] at hq
    obtain ⟨x, h1, B1, φ1, O1, hq, H1, hI1, g1, hc1⟩ := grabI1_sound H hq
    obtain ⟨y, h2, B2, φ2, O2, hq, H2, hI2, g2, hc2⟩ := grabI_sound (g1.rel H H1) hq
    obtain ⟨g, hd⟩ := g1.trans g2
    have alive : ∀ n, φ1 n ≠ .dead → φ n = φ1 n := fun n hn => by
      rcases g1.old n with h3 | ⟨h3, _⟩
      · exact h3.symm
      · exact absurd h3 hn
    refine ⟨(x, y), h2, B2, φ2, _, hq, H2, ⟨O1, O2, hI1.mono (fun b hb => g2.excl hb) (fun _ _ _ _ => rfl), hI2.mono (fun _ h => h) (fun n _ _ hd => alive n hd), hd, fun b => Iff.rfl⟩, g, fun n hn => ?_⟩
    rcases hn with hn | hn
    · obtain ⟨h3, h4, h5, h6⟩ := hc1 n hn
      exact ⟨h3, h4, h5, fun b hb => ⟨by rintro (h | h); exact (h6 b hb).1 h; exact (g2.own b h).2.1 (h6 b hb).2, g2.sub b (h6 b hb).2⟩⟩
    · obtain ⟨h3, h4, h5, h6⟩ := hc2 n hn
      have e0 := alive n h4
      refine ⟨by rw [e0]; exact h3, by rw [e0]; exact h4, h5, fun b hb => ?_⟩
      rw [e0] at hb
      refine ⟨?_, (h6 b hb).2⟩
      rintro (h | h)
      · exact (H1.lt n b hb).2 (g1.own b h).1
      · exact (h6 b hb).1 h
theorem grabI1_pr {i : It} {q : i.D → S → Option R} (hq : grabI1 ⟨e, h, nx, pr, ks⟩ i q = some res) {z g : Nat} (he : i = .chs z g) : pr g = false := by
  subst he
  simp only [grabI1] at hq
  split at hq
  · split at hq
    · obtain ⟨hp, _⟩ := dropN_spec hq
      exact hp g (by simp)
    · cases hq
  · cases hq
theorem grabI_pr : ∀ {l : List It} {B : Nat → Prop} {φ : Loc} {h : Heap} {q : ItD l → Option R}, RelAt N B G fr φ ⟨e, h, nx, pr, ks⟩ a w → grabI l ⟨e, h, nx, pr, ks⟩ q = some res → ∀ z g, It.chs z g ∈ l → pr g = false
  | [], B, φ, h, q, H, hq, z, g, hm => by cases hm
  | [i], B, φ, h, q, H, hq, z, g, hm => by
    simp only [grabI] at hq
    exact grabI1_pr hq (List.mem_singleton.1 hm).symm
  | i :: j :: r, B, φ, h, q, H, hq, z, g, hm => by
    simp only [grabI] at hq
    rcases List.mem_cons.1 hm with he | hm
    · exact grabI1_pr hq he.symm
    · obtain ⟨x, h1, B1, φ1, O1, hq, H1, hI1, g1, hc1⟩ := grabI1_sound H hq
      exact grabI_pr (g1.rel H H1) hq z g hm
theorem RelAt.know (H : RelAt N B G fr φ ⟨e, h, nx, pr, ks⟩ a w) {t : Nat} {c : V} (ht : t < N) (hr : Rep w (Excl B φ) φ c (a.tmps.getD t undef)) {e' : T V} (he : Put e t (some c) e') : RelAt N B G fr φ ⟨e', h, nx, pr, ks⟩ a w :=
  { H with
    env := fun t' c' hc => by
      have hc : e'.get t' = some c' := hc
      rw [he t'] at hc
      split at hc
      · rename_i heq
        injection hc with hc
        subst hc
        rw [heq]
        exact ⟨ht, hr⟩
      · exact H.env t' c' hc }
theorem Gave.heap {O : Nat → Prop} {m : Nat} {φ' : Loc} {h' k : Heap} (g : Gave B φ h nx O m φ' h') : Gave B φ k nx O m φ' k := ⟨g.le, g.excl, g.old, g.new, fun _ _ h => .inl h, g.low⟩
def GiveOk (U : Nat → Prop) (φ : Loc) (h : Heap) (nx : Nat) : It → Prop
  | .slot _ _ _ => True
  | .cont y _ => y < nx ∧ ∀ z, famOf (h.get z) ≠ some y
  | .chs x g => x < nx ∧ g < nx ∧ g ≠ x ∧ ¬ U g ∧ (φ (g, 0) = .free ∨ φ (g, 0) = .dead) ∧ (∀ z, famOf (h.get z) ≠ some x) ∧ ∀ z, z ≠ x → famOf (h.get z) ≠ some g
def CrossOk (z g' : Nat) : It → Prop
  | .slot _ _ _ => True
  | .cont y _ => g' ≠ y
  | .chs x g => g' ≠ x ∧ (z ≠ x → g' ≠ g)
theorem giveI1_sound (H : RelAt N B G (FR U nx) φ ⟨e, h, nx, pr, ks⟩ a w) (hU : ∀ x, U x → x < nx) {i : It} {x : i.D} {O : Nat → Prop} (hI : ItR N a w (Excl B φ) φ i x O) (hO : ∀ b, O b → B b) (hG : ∀ b o v, G b o v → ¬ O b) (hct : GiveOk U φ h nx i)
    {q : S → Option R} (hq : giveI1 ⟨e, h, nx, pr, ks⟩ i x q = some res) : ∃ e' m h' φ', q ⟨e', h', m, pr, ks⟩ = some res ∧ Gave B φ h nx O m φ' h ∧ (∀ z g', famOf (h'.get z) = some g' → famOf (h.get z) = some g' ∨ nx ≤ g' ∨ i = .chs z g') ∧ RelAt N (Bar B O) G (FR U m) φ' ⟨e', h', m, pr, ks⟩ a w := by
  have rel : ∀ {m : Nat} {h' : Heap} {φ' : Loc}, Gave B φ h nx O m φ' h → HeapAt (Bar B O) G (FR U m) φ' h' w → RelAt N (Bar B O) G (FR U m) φ' ⟨e, h', m, pr, ks⟩ a w := fun {m h' φ'} g H' =>
    { H' with
      size := H.size
      defers := H.defers
      env := fun t c hc => ⟨(H.env t c hc).1, by
        rw [g.excl]
        exact (g.keeps w).rep (H.env t c hc).2⟩ }
  cases i with
  | slot t g sh =>
    obtain ⟨ht, us, hv, hS⟩ := hI
    simp only [giveI1] at hq
    obtain ⟨l, m, h', φ', hq, gg, H', hl⟩ := giveS_sound H.toHeapAt hU hS hO hG hq
    split at hq
    · rename_i c hc
      obtain ⟨e', he, hq⟩ := setO_spec hq
      exact ⟨e', m, h', φ', hq, gg.heap, fun z g hz => (gg.fam z g hz).imp id .inl, (rel gg.heap H').know ht (by rw [gg.excl]; exact ofCells_spec hv hl hc) he.1⟩
    · cases hq
  | cont y sh =>
    obtain ⟨b, cs, t, z, us, hb, hh, hop, hle, hcs, hS⟩ := hI
    simp only [giveI1] at hq
    obtain ⟨l, m, h', φ', hq, gg, H', hl⟩ := giveS_sound H.toHeapAt hU hS hO hG hq
    split at hq
    · cases hq
    · simp only [forceBlk_eq] at hq
      obtain ⟨h2, hp, hq⟩ := T.putK_spec hq
      have hy0 : φ (y, 0) ≠ .free := by rw [hb]; nofun
      have hyn : y < nx := hct.1
      have hφ : φ' (y, 0) = .blk b := by rw [gg.old _ hy0]; exact hb
      have H2 := H'.add (x := y) (k := .box l) ⟨b, cs, t, z, hφ, hh, hop, by rw [hl.1]; exact hle, fun i c v h3 h4 => by
          have hi : i < us.length := by rw [← hl.1]; exact (List.getElem?_eq_some_iff.1 h3).1
          have h5 : us[i]? = some us[i] := by simp [hi]
          have h6 := hcs i _ h5
          rw [h4] at h6
          injection h6 with h6
          have := hl.2 i c _ h3 h5
          rw [← h6] at this
          rw [gg.excl]
          exact this⟩ rfl (fun z hz => by
          rcases gg.fam z y hz with h3 | h3
          · exact hct.2 z h3
          · omega) hp
      refine ⟨e, m, h2, φ', hq, gg.heap, fun z g hz => ?_, rel gg.heap H2⟩
      rw [hp z] at hz
      split at hz
      · cases hz
      · exact (gg.fam z g hz).imp id .inl
  | chs z g =>
    obtain ⟨hB, hn⟩ := hI
    obtain ⟨c1, c2, c3, c4, c5, c6, c7⟩ := hct
    simp only [giveI1] at hq
    split at hq
    · obtain ⟨h', hp, hq⟩ := T.putK_spec hq
      have hgn : h.get g = none := by
        cases hk : h.get g with
        | none => rfl
        | some k =>
          have := (H.st g k hk).live .top
          rcases c5 with h3 | h3
          · exact absurd h3 this.1
          · exact absurd h3 this.2
      have H2 := H.toHeapAt.add' (x := z) (k := .fam .chan g x) hB c6 (fun g' hg' => by
        simp only [famOf, Option.some.injEq] at hg'
        subst hg'
        exact ⟨c7, hgn, c3, by rintro (h | h); exact c4 h; exact absurd c2 (Nat.not_lt.2 h)⟩) hp
      have gg : Gave B φ h nx O nx φ h := ⟨Nat.le_refl _, by rw [bar_none hn], fun _ _ => rfl, fun _ _ h => .inl h, fun _ _ h => .inl h, fun _ _ => rfl⟩
      refine ⟨e, nx, h', φ, hq, gg, fun y g' hy => ?_, rel gg (by rw [bar_none hn]; exact H2)⟩
      rw [hp y] at hy
      split at hy
      · rename_i heq
        simp only [famOf, Option.some.injEq] at hy
        rw [heq, hy]; exact .inr (.inr rfl)
      · exact .inl hy
    · cases hq
theorem giveI_sound : ∀ {l : List It} {B : Nat → Prop} {φ : Loc} {e : T V} {h : Heap} {nx : Nat} {x : ItD l} {O : Nat → Prop} {q : S → Option R}, RelAt N B G (FR U nx) φ ⟨e, h, nx, pr, ks⟩ a w → (∀ x, U x → x < nx) → ItsR N a w (Excl B φ) φ l x O → (∀ b, O b → B b) → (∀ b o v, G b o v → ¬ O b) →
    (∀ i ∈ l, GiveOk U φ h nx i) → (∀ i ∈ l, ∀ z g, i = .chs z g → ∀ i' ∈ l, CrossOk z g i') → giveI l x ⟨e, h, nx, pr, ks⟩ q = some res → ∃ e' m h' φ', q ⟨e', h', m, pr, ks⟩ = some res ∧ Gave B φ h nx O m φ' h ∧ RelAt N (Bar B O) G (FR U m) φ' ⟨e', h', m, pr, ks⟩ a w
  | [], B, φ, e, h, nx, x, O, q, H, hU, hI, hO, hG, hct, hcr, hq => by
    simp only [giveI] at hq
    rw [bar_none hI]
    exact ⟨e, nx, h, φ, hq, ⟨Nat.le_refl _, by rw [bar_none hI], fun _ _ => rfl, fun _ _ h => .inl h, fun _ _ h => .inl h, fun _ _ => rfl⟩, H⟩
  | [i], B, φ, e, h, nx, x, O, q, H, hU, hI, hO, hG, hct, hcr, hq => by
    simp only [giveI] at hq
    obtain ⟨e', m, h', φ', h1, h2, _, h3⟩ := giveI1_sound H hU hI hO hG (hct i (by simp)) hq
    exact ⟨e', m, h', φ', h1, h2, h3⟩
  | i :: j :: r, B, φ, e, h, nx, x, O, q, H, hU, ⟨O1, O2, h1, h2, hd, hOO⟩, hO, hG, hct, hcr, hq => by
    simp only [giveI] at hq
    obtain ⟨e1, m1, h1', φ1, hq, g1, hf1, H1⟩ := giveI1_sound H hU h1 (fun b hb => hO b ((hOO b).2 (.inl hb))) (fun b o v hg hb => hG b o v hg ((hOO b).2 (.inl hb))) (hct i (by simp)) hq
    obtain ⟨e2, m2, h2', φ2, hq, g2, H2⟩ := giveI_sound H1 (fun y hy => Nat.lt_of_lt_of_le (hU y hy) g1.le) (by
        rw [g1.excl]
        exact h2.mono (fun _ h => h) fun n _ hf _ => g1.old n hf) (fun b hb => ⟨hO b ((hOO b).2 (.inr hb)), fun hb' => hd b hb' hb⟩) (fun b o v hg hb => hG b o v hg ((hOO b).2 (.inr hb))) (fun i' hi' => by
        have h3 := hct i' (List.mem_cons_of_mem _ hi')
        have hc : ∀ z g, i = .chs z g → CrossOk z g i' := fun z g he => hcr i (by simp) z g he i' (List.mem_cons_of_mem _ hi')
        cases i' with
        | slot _ _ _ => trivial
        | cont y _ =>
          refine ⟨Nat.lt_of_lt_of_le h3.1 g1.le, fun z hz => ?_⟩
          rcases hf1 z y hz with h5 | h5 | h5
          · exact h3.2 z h5
          · have := h3.1; omega
          · exact hc z y h5 rfl
        | chs x' g =>
          obtain ⟨c1, c2, c3, c4, c5, c6, c7⟩ := h3
          refine ⟨Nat.lt_of_lt_of_le c1 g1.le, Nat.lt_of_lt_of_le c2 g1.le, c3, c4, by rw [g1.low (g, 0) c2]; exact c5, fun z hz => ?_, fun z hzx hz => ?_⟩
          · rcases hf1 z x' hz with h5 | h5 | h5
            · exact c6 z h5
            · omega
            · exact (hc z x' h5).1 rfl
          · rcases hf1 z g hz with h5 | h5 | h5
            · exact c7 z hzx h5
            · omega
            · exact (hc z g h5).2 hzx rfl) (fun i' hi' z g he i'' hi'' => hcr i' (List.mem_cons_of_mem _ hi') z g he i'' (List.mem_cons_of_mem _ hi'')) hq
    rw [bar_bar hOO] at H2
    exact ⟨e2, m2, h2', φ2, hq, g1.trans (g2.heap (k := h)) hOO, H2⟩
theorem keepT_spec : ∀ {l : List Nat} {acc : T V} {q : T V → Option R}, keepT e l acc q = some res → ∃ e1, (∀ t c, e1.get t = some c → (t ∈ l ∧ e.get t = some c) ∨ acc.get t = some c) ∧ q e1 = some res
  | [], acc, q, hq => ⟨acc, fun t c h => .inr h, hq⟩
  | t :: r, acc, q, hq => by
    simp only [keepT] at hq
    split at hq
    · rename_i c hc
      obtain ⟨acc', hp, hq⟩ := T.putK_spec hq
      obtain ⟨e1, h1, h2⟩ := keepT_spec hq
      refine ⟨e1, fun t' c' h => ?_, h2⟩
      rcases h1 t' c' h with ⟨h3, h4⟩ | h3
      · exact .inl ⟨by simp [h3], h4⟩
      · rw [hp t'] at h3
        split at h3
        · rename_i heq
          injection h3 with h3
          subst h3
          exact .inl ⟨by simp [heq], by rw [heq]; exact hc⟩
        · exact .inr h3
    · obtain ⟨e1, h1, h2⟩ := keepT_spec hq
      refine ⟨e1, fun t' c' h => ?_, h2⟩
      rcases h1 t' c' h with ⟨h3, h4⟩ | h3
      · exact .inl ⟨by simp [h3], h4⟩
      · exact .inr h3
theorem dropK_spec : ∀ {ns : List Nat} {h : Heap} {q : Heap → Option R}, dropK h ns q = some res → ∃ h', Without h ns h' ∧ q h' = some res
  | [], h, q, hq => ⟨h, fun x => by simp, hq⟩
  | x :: ns, h, q, hq => by
    simp only [dropK] at hq
    obtain ⟨h1, hp, hq⟩ := T.putK_spec hq
    obtain ⟨h', h3, h4⟩ := dropK_spec hq
    refine ⟨h', fun y => ?_, h4⟩
    rw [h3 y, hp y]
    by_cases hy : y ∈ ns
    · simp [hy]
    · by_cases hyx : y = x
      · simp [hyx]
      · simp [hy, hyx]
structure UnOk (pr : Nat → Bool) (h : Heap) (un : List Nat) : Prop where
  pr : ∀ n ∈ un, pr n = false
  key : ∀ n ∈ un, (∃ k, h.get n = some k) ∨ ∃ x, x ∈ un ∧ famOf (h.get x) = some n
theorem UnOk.ok (H : HeapAt B G fr φ h w) {un : List Nat} (hu : UnOk pr h un) : OkNs h un := fun n hn y hy => by
  rcases hu.key n hn with ⟨k, hk⟩ | ⟨x, hx, hf⟩
  · exact absurd hy (famOf_none H hk y)
  · have := H.gen y x n hy hf
    subst this
    exact hx
theorem freeN_spec : ∀ {l : List Nat} {q : List Nat → Option R}, freeN pr h l q = some res → ∃ un, UnOk pr h un ∧ q un = some res
  | [], q, hq => ⟨[], ⟨by simp, by simp⟩, hq⟩
  | x :: r, q, hq => by
    simp only [freeN] at hq
    split at hq
    · exact freeN_spec hq
    · rename_i k g xs hs
      split at hq
      · rename_i h1 h2
        obtain ⟨un, hu, hq⟩ := freeN_spec hq
        refine ⟨_, ⟨fun n hn => ?_, fun n hn => ?_⟩, hq⟩
        · rcases List.mem_cons.1 hn with rfl | hn
          · exact h1
          · rcases List.mem_cons.1 hn with rfl | hn
            · exact h2
            · exact hu.pr n hn
        · rcases List.mem_cons.1 hn with rfl | hn
          · exact .inl ⟨_, hs⟩
          · rcases List.mem_cons.1 hn with rfl | hn
            · exact .inr ⟨x, by simp, by rw [hs]; rfl⟩
            · exact (hu.key n hn).imp id fun ⟨y, h3, h4⟩ => ⟨y, by simp [h3], h4⟩
      · exact freeN_spec hq
    · rename_i k _ hs
      split at hq
      · exact freeN_spec hq
      · rename_i h1
        obtain ⟨un, hu, hq⟩ := freeN_spec hq
        refine ⟨_, ⟨fun n hn => ?_, fun n hn => ?_⟩, hq⟩
        · rcases List.mem_cons.1 hn with rfl | hn
          · exact h1
          · exact hu.pr n hn
        · rcases List.mem_cons.1 hn with rfl | hn
          · exact .inl ⟨_, hs⟩
          · exact (hu.key n hn).imp id fun ⟨y, h3, h4⟩ => ⟨y, by simp [h3], h4⟩
theorem resolveP_spec : ∀ {p : List Nat} {c : Option V} {x : Nat}, resolveP h p c = some x → ∃ cs, h.get x = some (.box cs)
  | [], c, x, hq => by
    unfold resolveP at hq
    split at hq
    · split at hq
      · rename_i cs hs
        injection hq with hq
        subst hq
        exact ⟨cs, hs⟩
      · cases hq
    · rename_i heq; cases heq
    · cases hq
  | i :: r, c, x, hq => by
    unfold resolveP at hq
    split at hq
    · rename_i heq; cases heq
    · rename_i heq
      cases heq
      split at hq
      · exact resolveP_spec hq
      · cases hq
    · cases hq
def AtOk (h : Heap) : It → Prop
  | .slot _ _ _ => True
  | .cont y _ => ∃ cs, h.get y = some (.box cs)
  | .chs x g => ∃ xs, h.get x = some (.fam .chan g xs)
theorem resolveC_spec {c : Option V} {x g : Nat} (hq : resolveC h c = some (x, g)) : ∃ xs, h.get x = some (.fam .chan g xs) := by
  unfold resolveC at hq
  split at hq
  · split at hq
    · rename_i g' xs hs
      injection hq with hq
      injection hq with h1 h2
      subst h1; subst h2
      exact ⟨xs, hs⟩
    · cases hq
  · split at hq
    · rename_i g' xs hs
      split at hq
      · injection hq with hq
        injection hq with h1 h2
        subst h1; subst h2
        exact ⟨xs, hs⟩
      · cases hq
    · cases hq
  · cases hq
theorem resolve_spec : ∀ {l : List Ia} {its : List It}, resolve e h l = some its → ∀ i ∈ its, AtOk h i
  | [], its, hq, y, hy => by
    simp only [TM.resolve, Option.some.injEq] at hq
    subst hq
    cases hy
  | .slot t g s :: r, its, hq, y, hy => by
    simp only [TM.resolve] at hq
    split at hq
    · rename_i l hl
      injection hq with hq
      subst hq
      rcases List.mem_cons.1 hy with rfl | hy
      · trivial
      · exact resolve_spec hl y hy
    · cases hq
  | .cont t p s :: r, its, hq, y, hy => by
    simp only [TM.resolve] at hq
    split at hq
    · rename_i x l hx hl
      injection hq with hq
      subst hq
      rcases List.mem_cons.1 hy with rfl | hy
      · exact resolveP_spec hx
      · exact resolve_spec hl y hy
    · cases hq
  | .chs t p :: r, its, hq, y, hy => by
    simp only [TM.resolve] at hq
    split at hq
    · rename_i x g l hx hl
      injection hq with hq
      subst hq
      rcases List.mem_cons.1 hy with rfl | hy
      · exact resolveC_spec hx
      · exact resolve_spec hl y hy
    · cases hq
theorem shield_iff {un : List Nat} {x : Nat} : shield pr nx un x = true ↔ pr x = true ∨ (x < nx ∧ x ∉ un) := by
  unfold shield
  split
  · rename_i h; simp [h]
  · rename_i h
    split
    · rename_i h1
      have h1 : x < nx := blt_true h1
      split
      · rename_i h2; have := memN_iff.1 h2; simp [this, h]
      · rename_i h2
        have : x ∉ un := memN_not h2
        simp [h1, this]
    · rename_i h1
      have h1 : ¬ x < nx := fun hx => by
        have : Nat.blt x nx = true := Nat.ble_eq_true_of_le hx
        rw [this] at h1; cases h1
      simp [h1, h]
end
end Go.TM
namespace Go.TM
open Go.RowKit
section
variable {P : Program} {N : Nat} {B : Nat → Prop} {G : Nat → Nat → Value → Prop} {fr U : Nat → Prop} {φ : Loc} {a : Act} {w : World} {e : T V} {h : Heap} {nx : Nat} {pr ks : Nat → Bool} {R : Type} {res : R}
def MeetAt (N : Nat) (B : Nat → Prop) (G : Nat → Nat → Value → Prop) (U : Nat → Prop) (e : T V) (h : Heap) (nx : Nat) (pr ks : Nat → Bool) (φ : Loc) (a : Act) (w : World) (keep un : List Nat) (its : List It) (x : ItD its) (a' : Act) (w' : World) : Prop :=
  ∀ (R : Type) (q : S → Option R) (res : R), meet ⟨e, h, nx, pr, ks⟩ keep un its x q = some res → ∃ e2 h2 m φ2, q ⟨e2, h2, m, pr, ks⟩ = some res ∧ RelAt N B G (FR U m) φ2 ⟨e2, h2, m, pr, ks⟩ a' w' ∧ nx ≤ m ∧ Fwd (shield pr nx un) φ w φ2 w' ∧ Kept (shieldS ks keep) a a'
theorem shieldS_iff {keep : List Nat} {t : Nat} : shieldS ks keep t = true ↔ ks t = true ∨ t ∈ keep := by
  unfold shieldS
  split
  · rename_i h; simp [h]
  · rename_i h; simp [h, memN_iff]
theorem row_len {l : Lc} {sz n m : Nat} {Q Q' : Nat → List Value → Prop} {w' : World} (h : RowAt w l sz n Q) (k : RowAt w' l sz m Q') : n = m := by
  rcases h with ⟨v, h1, h2, _⟩ | ⟨b, off, cap, vs, t, z, h1, _⟩ <;> rcases k with ⟨v', k1, k2, _⟩ | ⟨b', off', cap', vs', t', z', k1, _⟩ <;> rw [h1] at k1
  · omega
  · cases k1
  · cases k1
  · injection k1
theorem usedOf_live (H : HeapAt B G fr φ h w) {φ' : Loc} {w' : World} {X : Nat → Prop} {pr' : Nat → Bool} (F : Fwd pr' φ w φ' w') {a' : Act} {i : It} (hA : AtOk h i) {x : i.D} {O : Nat → Prop} (hI : ItR N a' w' X φ' i x O) {n : Nm} (hn : usedOf i x n) : φ n ≠ .free := by
  cases i with
  | slot _ _ _ => exact hn.elim
  | cont y sh =>
    obtain ⟨cs, hs⟩ := hA
    have hn : n = (y, 0) := hn
    subst hn
    exact ((H.st y _ hs).live (n := (y, 0)) rfl).1
  | chs z g =>
    obtain ⟨xs, hs⟩ := hA
    have hB := H.st z _ hs
    obtain ⟨hB', _⟩ := hI
    have h0 := (hB.live (n := (z, 0)) (.inl rfl)).1
    have h0' := (hB'.live (n := (z, 0)) (.inl rfl)).2
    have e0 : φ' (z, 0) = φ (z, 0) := by
      rcases F.old _ h0 with h3 | ⟨h3, _⟩
      · exact h3
      · exact absurd h3 h0'
    have hlen : xs.length = x.length := row_len hB.1 (by rw [← e0]; exact hB'.1)
    rcases hn with rfl | ⟨j, hj, rfl⟩
    · exact h0
    · exact (hB.live (n := (g, j + 1)) (.inr ⟨j, by rw [hlen]; exact hj, rfl⟩)).1
theorem used_live (H : HeapAt B G fr φ h w) {φ' : Loc} {w' : World} {X : Nat → Prop} {pr' : Nat → Bool} (F : Fwd pr' φ w φ' w') {a' : Act} : ∀ {l : List It} (hA : ∀ i ∈ l, AtOk h i) {x : ItD l} {O : Nat → Prop} (hI : ItsR N a' w' X φ' l x O) {n : Nm}, used l x n → φ n ≠ .free
  | [], _, _, _, _, _, hn => hn.elim
  | [i], hA, x, O, hI, n, hn => usedOf_live H F (hA i (by simp)) hI hn
  | i :: j :: r, hA, x, O, ⟨O1, O2, h1, h2, _⟩, n, hn => by
    rcases hn with hn | hn
    · exact usedOf_live H F (hA i (by simp)) h1 hn
    · exact used_live H F (fun i' hi' => hA i' (List.mem_cons_of_mem _ hi')) h2 hn
theorem usedOf_top {i : It} (hA : AtOk h i) {x : i.D} {y : Nat} (hn : usedOf i x (y, 0)) : ∃ k, h.get y = some k := by
  cases i with
  | slot _ _ _ => exact hn.elim
  | cont z sh =>
    obtain ⟨cs, hs⟩ := hA
    have hn : (y, 0) = ((z, 0) : Nm) := hn
    injection hn with hn
    rw [hn]; exact ⟨_, hs⟩
  | chs z g =>
    obtain ⟨xs, hs⟩ := hA
    rcases hn with hn | ⟨j, _, hn⟩
    · injection hn with hn
      rw [hn]; exact ⟨_, hs⟩
    · injection hn with _ hn; omega
theorem used_top : ∀ {l : List It} (hA : ∀ i ∈ l, AtOk h i) {x : ItD l} {y : Nat}, used l x (y, 0) → ∃ k, h.get y = some k
  | [], _, _, _, hn => hn.elim
  | [i], hA, x, y, hn => usedOf_top (hA i (by simp)) hn
  | i :: j :: r, hA, x, y, hn => by
    rcases hn with hn | hn
    · exact usedOf_top (hA i (by simp)) hn
    · exact used_top (fun i' hi' => hA i' (List.mem_cons_of_mem _ hi')) hn
theorem meet_ok (H : RelAt N B G (FR U nx) φ ⟨e, h, nx, pr, ks⟩ a w) (hU : ∀ x, U x → x < nx) {un keep : List Nat} {its : List It} (hun : UnOk pr h un) (hct : ∀ i ∈ its, AtOk h i)
    {nx' : Nat} {φ' : Loc} {e' : T V} {h' : Heap} {ks' : Nat → Bool} {a' : Act} {w' : World} (H' : RelAt N B G (FR U nx') φ' ⟨e', h', nx', shield pr nx un, ks'⟩ a' w') (F : Fwd (shield pr nx un) φ w φ' w') (K : Kept (shieldS ks keep) a a') {k : ItD its → Option R}
    (hq : grabI its ⟨e', h', nx', shield pr nx un, ks'⟩ k = some res) : ∃ x, k x = some res ∧ MeetAt N B G U e h nx pr ks φ a w keep un its x a' w' := by
  obtain ⟨x, h1, B1, φ1, O, hk, H1, hI, g, hc⟩ := grabI_sound H' hq
  have hprs := grabI_pr H' hq
  refine ⟨x, hk, fun R2 q res2 hm => ?_⟩
  have hokn := hun.ok H.toHeapAt
  simp only [meet] at hm
  obtain ⟨e1, he1, hm⟩ := keepT_spec hm
  obtain ⟨h2, hw, hm⟩ := dropK_spec hm
  classical
  let φ0 : Loc := fun n => if used its x n then φ n else φ.kill un n
  have f1 : ∀ n, φ0 n = φ n ∨ (φ0 n = .dead ∧ n.1 ∈ un ∧ φ n ≠ .free) := fun n => by
    by_cases hn : used its x n
    · exact .inl (by simp [φ0, hn])
    · have e0 : φ0 n = φ.kill un n := by simp only [φ0]; rw [if_neg hn]
      rw [e0]
      by_cases hm : n.1 ∈ un
      · rcases φ.kill_in hm with h3 | ⟨h3, h4⟩
        · by_cases hf : φ n = .free
          · exact .inl (by rw [hf]; exact φ.kill_free.2 hf)
          · exact .inr ⟨h3, hm, hf⟩
        · exact .inl (h3.trans h4.symm)
      · exact .inl (φ.kill_out hm)
  have f2 : ∀ n, n.1 ∉ un → φ0 n = φ n := fun n hn => by
    rcases f1 n with h3 | ⟨_, h3, _⟩
    · exact h3
    · exact absurd h3 hn
  have f3 : ∀ n b, (φ0 n).has b → (φ n).has b ∧ (n.1 ∉ un ∨ used its x n) := fun n b hb => by
    by_cases hn : used its x n
    · have e0 : φ0 n = φ n := by simp [φ0, hn]
      exact ⟨by rw [← e0]; exact hb, .inr hn⟩
    · have e0 : φ0 n = φ.kill un n := by simp only [φ0]; rw [if_neg hn]
      rw [e0] at hb
      exact ⟨(φ.kill_has hb).2, .inl (φ.kill_has hb).1⟩
  have lt : ∀ n, φ n ≠ .free → n.1 < nx := fun n hn => by
    rcases Nat.lt_or_ge n.1 nx with h3 | h3
    · exact h3
    · exact absurd ((H.free n.1 (.inr h3)).1 n.2) hn
  have shl : ∀ n : Nm, φ n ≠ .free → n.1 ∉ un → shield pr nx un n.1 = true := fun n hn hu => shield_iff.2 (.inr ⟨lt n hn, hu⟩)
  have stay : ∀ n : Nm, φ n ≠ .free → n.1 ∉ un → φ' n = φ n := fun n hn hu => by
    rcases F.old n hn with h3 | ⟨_, h3⟩
    · exact h3
    · rw [shl n hn hu] at h3; cases h3
  have cblk : ∀ n, used its x n → φ' n = φ n ∧ φ n ≠ .free ∧ φ n ≠ .dead ∧ ∀ b, (φ n).has b → ¬ O b ∧ B1 b := fun n hn => by
    obtain ⟨h3, h4, _, h5⟩ := hc n hn
    have hl := used_live H.toHeapAt F hct hI hn
    rcases F.old n hl with h7 | ⟨h7, _⟩
    · exact ⟨h7, hl, by rw [← h7]; exact h4, fun b hb => h5 b (by rw [h7]; exact hb)⟩
    · exact absurd h7 h4
  -- blocks that were taken
  have oblk : ∀ b, O b → B1 b ∧ ¬ B b ∧ ∃ m : Nm, (φ' m).has b ∧ shield pr nx un m.1 = false := g.own
  have f4 : ∀ n b, (φ0 n).has b → ¬ O b := fun n b hb hO => by
    obtain ⟨h3, h4⟩ := f3 n b hb
    rcases h4 with h4 | h4
    · obtain ⟨_, _, m, h6, h7⟩ := oblk b hO
      have h8 := stay n (has_alive h3).1 h4
      have := H'.inj n m b (by rw [h8]; exact h3) h6
      subst this
      rw [shl n (has_alive h3).1 h4] at h7; cases h7
    · exact ((cblk n h4).2.2.2 b h3).1 hO
  let Bm : Nat → Prop := fun b => B b ∨ O b
  have hbar : Bar Bm O = B := by
    funext b
    apply propext
    constructor
    · rintro ⟨h3 | h3, h4⟩
      · exact h3
      · exact absurd h3 h4
    · intro h3
      exact ⟨.inl h3, fun hO => (oblk b hO).2.1 h3⟩
  have K0 : Keeps w (Excl B φ) φ w' (Excl Bm φ0) φ0 := ⟨fun b hb hn => F.block b hb fun n hx => absurd (.inr ⟨n, hx⟩) hn, F.size, fun b hb => by
      rcases hb with (hb | hb) | ⟨n, hb⟩
      · exact .inl (.inl hb)
      · obtain ⟨_, _, m, h6, _⟩ := oblk b hb
        rcases F.new m b h6 with ⟨m', h7, _⟩ | h7
        · exact .inl (.inr ⟨m', h7⟩)
        · exact .inr h7
      · exact .inl (.inr ⟨n, (f3 n b hb).1⟩), fun n hn => (f1 n).imp id And.left⟩
  have hfam : ∀ {x g}, famOf (h2.get x) = some g → x ∉ un ∧ famOf (h.get x) = some g := fun {x g} hx => by
    rw [hw x] at hx
    split at hx
    · cases hx
    · rename_i hx'; exact ⟨hx', hx⟩
  have H0 : HeapAt Bm G (FR U nx) φ0 h2 w' := by
    refine ⟨fun y k hk => ?_, fun y z c h3 h4 => H.gen y z c (hfam h3).2 (hfam h4).2, fun y c h3 => ?_, fun n m b h3 h4 => H.inj n m b (f3 n b h3).1 (f3 m b h4).1, fun n b hb => ⟨Nat.lt_of_lt_of_le (H.lt n b (f3 n b hb).1).1 F.size, ?_⟩, fun b hb => ?_, fun y hy => ⟨fun i => ?_, fun z hz => (H.free y hy).2 z (hfam hz).2⟩, fun b o v hg => ⟨⟨(H'.gl b o v hg).1.1, fun n hn => (H.gl b o v hg).1.2 n (f3 n b hn).1⟩, (H'.gl b o v hg).2⟩⟩
    · rw [hw y] at hk
      split at hk
      · cases hk
      · rename_i hy
        have hus : ∀ n, Uses y k n → n.1 ∉ un := fun n hu => by
          cases k with
          | fam c gg xs =>
            rcases hu with rfl | ⟨j, hj, rfl⟩
            · exact hy
            · intro hg
              exact hy (hokn gg hg y (by rw [hk]; rfl))
          | _ => rw [show n = (y, 0) from hu]; exact hy
        refine K0.blk (fun n hu => f2 n (hus n hu)) (fun n b hu hb => F.block b (H.lt n b hb).1 fun m hm => ?_) (H.st y k hk)
        have := H.inj m n b hm hb
        subst this
        exact shl m (has_alive hb).1 (hus m hu)
    · rw [hw c]
      split
      · rfl
      · exact H.gtop y c (hfam h3).2
    · rintro (h3 | h3)
      · exact (H.lt n b (f3 n b hb).1).2 h3
      · exact f4 n b hb h3
    · rcases hb with hb | hb
      · exact Nat.lt_of_lt_of_le (H.ltB b hb) F.size
      · exact H1.ltB b (oblk b hb).1
    · rcases f1 (y, i) with h3 | ⟨_, _, h3⟩
      · rw [h3]; exact (H.free y hy).1 i
      · exact absurd ((H.free y hy).1 i) h3
  have R0 : RelAt N Bm G (FR U nx) φ0 ⟨e1, h2, nx, pr, ks⟩ a' w' := { H0 with
    size := H'.size
    defers := H'.defers
    env := fun t c ht => by
      rcases he1 t c ht with ⟨h3, h4⟩ | h3
      · obtain ⟨h5, h6⟩ := H.env t c h4
        rw [K t (shieldS_iff.2 (.inr h3))]
        exact ⟨h5, K0.rep h6⟩
      · rw [T.get_e] at h3; cases h3 }
  have hI0 : ItsR N a' w' (Excl Bm φ0) φ0 its x O := hI.mono (fun b hb => by
      rcases hb with (hb | hb) | ⟨n, hb⟩
      · exact .inl (g.sub b hb)
      · exact .inl (oblk b hb).1
      · obtain ⟨h3, h4⟩ := f3 n b hb
        rcases h4 with h4 | h4
        · have h8 := stay n (has_alive h3).1 h4
          rcases g.old n with h9 | ⟨_, _, h9⟩
          · exact .inr ⟨n, by rw [h9, h8]; exact h3⟩
          · rw [shl n (has_alive h3).1 h4] at h9; cases h9
        · exact .inl ((cblk n h4).2.2.2 b h3).2) (fun n hn _ _ => by
      show (if _ then _ else _) = _
      rw [if_pos hn]
      exact (cblk n hn).1.symm)
  have hgo : ∀ i ∈ its, GiveOk U φ0 h2 nx i := fun i hi => by
    have hA := hct i hi
    cases i with
    | slot _ _ _ => trivial
    | cont y sh =>
      obtain ⟨cs, hs⟩ := hA
      exact ⟨lt (y, 0) ((H.st y _ hs).live (n := (y, 0)) rfl).1, fun z hz => famOf_none H.toHeapAt hs z (hfam hz).2⟩
    | chs z g =>
      obtain ⟨xs, hs⟩ := hA
      have hgn := H.gtop z g (by rw [hs]; rfl)
      have hfr : ¬ FR U nx g := fun hf => (H.free g hf).2 z (by rw [hs]; rfl)
      have hg : g < nx := Nat.lt_of_not_le fun h => hfr (.inr h)
      have hgu : g ∈ un := by
        have h3 := hprs z g hi
        by_cases h4 : g ∈ un
        · exact h4
        · rw [shield_iff.2 (.inr ⟨hg, h4⟩)] at h3; cases h3
      refine ⟨lt (z, 0) ((H.st z _ hs).live (n := (z, 0)) (.inl rfl)).1, hg, fun e => (by rw [e, hs] at hgn; cases hgn), fun h => hfr (.inl h), ?_, fun y hy => famOf_none H.toHeapAt hs y (hfam hy).2, fun y hyz hy => hyz (H.gen y z g (hfam hy).2 (by rw [hs]; rfl))⟩
      have hnu : ¬ used its x (g, 0) := fun hu => by
        obtain ⟨k, hk⟩ := used_top hct hu
        rw [hgn] at hk; cases hk
      show (if _ then _ else _) = _ ∨ (if _ then _ else _) = _
      rw [if_neg hnu]
      rcases φ.kill_in (n := (g, 0)) hgu with h3 | ⟨h3, _⟩
      · exact .inr h3
      · exact .inl h3
  have hcr : ∀ i ∈ its, ∀ z g, i = .chs z g → ∀ i' ∈ its, CrossOk z g i' := fun i hi z g he i' hi' => by
    subst he
    obtain ⟨xs, hs⟩ := hct _ hi
    have hgn := H.gtop z g (by rw [hs]; rfl)
    have hA := hct i' hi'
    cases i' with
    | slot _ _ _ => trivial
    | cont y sh =>
      obtain ⟨cs, hs'⟩ := hA
      exact fun e => by rw [e, hs'] at hgn; cases hgn
    | chs z' g' =>
      obtain ⟨xs', hs'⟩ := hA
      exact ⟨fun e => (by rw [e, hs'] at hgn; cases hgn), fun hz e => hz (H.gen z z' g (by rw [hs]; rfl) (by rw [hs', e]; rfl))⟩
  obtain ⟨e2, m, h3, φ2, hm, gg, R2'⟩ := giveI_sound (U := U) R0 hU hI0 (fun b hb => .inr hb) (fun b o v hg hO => by
      obtain ⟨_, _, m, h6, _⟩ := oblk b hO
      exact (H'.gl b o v hg).1.2 m h6) hgo hcr hm
  rw [hbar] at R2'
  have unsh : ∀ n : Nm, n.1 ∈ un → shield pr nx un n.1 = false := fun n hn => by
    rw [Bool.eq_false_iff]
    intro hs
    rcases shield_iff.1 hs with h4 | ⟨_, h4⟩
    · rw [hun.pr _ hn] at h4; cases h4
    · exact h4 hn
  refine ⟨e2, h3, m, φ2, hm, R2', gg.le, ⟨F.os, F.tape, F.output, F.size, F.block, fun n b hb => ?_, fun n hn => ?_⟩, K⟩
  · rcases gg.new n b hb with h4 | ⟨h4, _⟩
    · exact .inl ⟨n, (f3 n b h4).1, .inl rfl⟩
    · obtain ⟨_, _, m', h6, h7⟩ := oblk b h4
      rcases F.new m' b h6 with ⟨m'', h8, h9⟩ | h8
      · refine .inl ⟨m'', h8, .inr ?_⟩
        rcases h9 with rfl | h9
        · exact h7
        · exact h9
      · exact .inr h8
  · have h0 : φ0 n ≠ .free := by
      rcases f1 n with h4 | ⟨h4, _⟩
      · rw [h4]; exact hn
      · rw [h4]; nofun
    rw [gg.old n h0]
    rcases f1 n with h4 | ⟨h4, h5, _⟩
    · exact .inl h4
    · exact .inr ⟨h4, unsh n h5⟩
end
end Go.TM
namespace Go.TM
open Go.RowKit
section
variable {P : Program} {N : Nat} {B : Nat → Prop} {G : Nat → Nat → Value → Prop} {fr U : Nat → Prop} {φ : Loc} {a : Act} {w : World} {e : T V} {h : Heap} {nx : Nat} {pr ks : Nat → Bool} {R : Type} {res : R}
def Lift (N : Nat) (B : Nat → Prop) (G : Nat → Nat → Value → Prop) (U : Nat → Prop) (pr ks : Nat → Bool) (nx : Nat) (φ : Loc) (a : Act) (w : World) (q : Out → Option R) (res : R) : Exit → Act → World → Prop
  | .normal, a', w' => After N B G U pr ks nx φ a w (fun s => q (.normal s)) res a' w'
  | .exit id, a', w' => After N B G U pr ks nx φ a w (fun s => q (.exit id s)) res a' w'
  | .ret, a', w' => After N B G U pr ks nx φ a w (fun s => q (.ret s)) res a' w'
  | _, _, _ => False
theorem Lift.from {q : Out → Option R} {φ₁ : Loc} {a₁ : Act} {w₁ : World} {nx₁ : Nat} (F : Fwd pr φ w φ₁ w₁) (K : Kept ks a a₁) (hn : nx ≤ nx₁) {x : Exit} {a' : Act} {w' : World} (hh : Lift N B G U pr ks nx₁ φ₁ a₁ w₁ q res x a' w') : Lift N B G U pr ks nx φ a w q res x a' w' := by
  cases x <;> simp only [Lift] at hh ⊢
  all_goals exact hh.from F K hn
def CallAt (P : Program) (G : Nat → Nat → Value → Prop) (g : Nat) (args : List V) (h : Heap) (nx : Nat) (pr : Nat → Bool) (q : V → Heap → Nat → Option R) (res : R) : Prop :=
  (∃ fn, P.funcs[g]? = some fn ∧ (fn.name == "runtime.NumGoroutine") = false ∧ fn.body.isNone = false) ∧
  ∀ (B : Nat → Prop) (U : Nat → Prop) (φ : Loc) (w : World) (vals : List Value), HeapAt B G (FR U nx) φ h w → (∀ x, U x → x < nx) → args.length = vals.length →
    (∀ (i : Nat) (c : V) (v : Value), args[i]? = some c → vals[i]? = some v → Rep w (Excl B φ) φ c v) →
    Calls P g vals.toArray w fun e w' => ∃ v c φ' h' nx', e = .returned v ∧ q c h' nx' = some res ∧ HeapAt B G (FR U nx') φ' h' w' ∧ nx ≤ nx' ∧ Fwd pr φ w φ' w' ∧ Rep w' (Excl B φ') φ' c v
def TabOk (P : Program) (G : Nat → Nat → Value → Prop) (tab : List Fun) : Prop := ∀ F ∈ tab, ∀ (R : Type) (args : List V) (h : Heap) (nx : Nat) (pr : Nat → Bool) (q : V → Heap → Nat → Option R) (res : R), callT F args h nx pr q = some res → CallAt P G F.num args h nx pr q res
def CodeOk (P : Program) (G : Nat → Nat → Value → Prop) (go : An → CCode → S → (Out → Option R) → Option R) : Prop := ∀ (an : An) (N : Nat) (c : Code) (e : T V) (h : Heap) (nx : Nat) (pr ks : Nat → Bool) (q : Out → Option R) (res : R), go an (tCode P N c) ⟨e, h, nx, pr, ks⟩ q = some res →
  ∀ (B : Nat → Prop) (U : Nat → Prop) (φ : Loc) (a : Act) (w : World), (∀ x, U x → x < nx) → RelAt N B G (FR U nx) φ ⟨e, h, nx, pr, ks⟩ a w → c.wp P (Lift N B G U pr ks nx φ a w q res) a w
theorem params_spec : ∀ {args : List V} {k : Nat} {e : T V} {q : T V → Option R}, params k args e q = some res → ∃ e', (∀ t, e'.get t = if k ≤ t ∧ t < k + args.length then args[t - k]? else e.get t) ∧ q e' = some res
  | [], k, e, q, h => ⟨e, fun t => by simp; omega, h⟩
  | c :: r, k, e, q, h => by
    simp only [params, force_eq] at h
    obtain ⟨e₁, hp, h⟩ := T.putK_spec h
    obtain ⟨e', h1, h2⟩ := params_spec h
    refine ⟨e', fun t => ?_, h2⟩
    rw [h1 t]
    simp only [List.length_cons, Nat.succ_eq_add_one]
    by_cases ht : t = k
    · subst ht
      rw [if_neg (by omega), if_pos (by omega), hp, if_pos rfl]
      simp
    · by_cases h3 : k + 1 ≤ t ∧ t < k + 1 + r.length
      · rw [if_pos h3, if_pos (by omega), show t - k = (t - (k + 1)) + 1 from by omega]
        simp
      · rw [if_neg h3, if_neg (by omega), hp, if_neg ht]
def resOne (tmps : Array Value) : ResultVar → Sem Value
  | .tmp t => pure (tmps.getD t undef)
  | .cell a t => do loadVar t (← asAddr (tmps.getD a undef))
theorem res_one (H : RelAt N B G fr φ ⟨e, h, nx, pr, ks⟩ a w) {r : ResultVar} {v : V} (hr : resv e h (tRes P r) = some v) : ∃ u, (resOne a.tmps r).run P w = .ok u w ∧ Rep w (Excl B φ) φ v u := by
  cases r with
  | tmp t => exact ⟨_, rfl, (H.env t v hr).2⟩
  | cell p t =>
    simp only [tRes] at hr
    split at hr
    · rename_i agg k hg hk
      simp only [resv] at hr
      split at hr
      · rename_i x off hx
        split at hr
        · rename_i cs hs
          split at hr
          · rename_i hle
            have hle := Nat.le_of_ble_eq_true hle
            obtain ⟨b, vs, t', z, hb, hh, hz, hlen, hp⟩ := H.st x _ hs
            obtain ⟨_, _, had⟩ := rep_ptr (H.env p _ hx).2
            have hv := had b hb
            obtain ⟨u, h4, h5⟩ := load_of_cells (P := P) (w := w) (X := Excl B φ) (φ := φ) (b := b) (of := off) hg hk (cut_len hle) (fun i d hd => by
              obtain ⟨h1, h2⟩ := cut_get hd
              have hlt : off + i < vs.size := by have := (List.getElem?_eq_some_iff.1 h2).1; omega
              exact ⟨vs[off + i], by rw [cell_of_heap hh]; simp [hlt], (hp (off + i) d _ h2 (by simp [hlt])).1⟩) hr
            refine ⟨u, ?_, h5⟩
            simp only [resOne, Sem.run_bind, hv]
            simpa [asAddr] using h4 w rfl
          · cases hr
        · cases hr
      · cases hr
    · cases hr
theorem ress_run (H : RelAt N B G fr φ ⟨e, h, nx, pr, ks⟩ a w) : ∀ {l : List ResultVar} {vs : List V}, ress e h (tRess P l) = some vs → ∃ us : List Value, (l.mapM (m := Sem) (resOne a.tmps)).run P w = .ok us w ∧ vs.length = us.length ∧ ∀ (i : Nat) (c : V) (u : Value), vs[i]? = some c → us[i]? = some u → Rep w (Excl B φ) φ c u
  | [], vs, hr => by
    simp only [tRess, ress, Option.some.injEq] at hr
    subst hr
    exact ⟨[], rfl, rfl, fun i c u h => by cases h⟩
  | r :: l, vs, hr => by
    simp only [tRess, ress] at hr
    split at hr
    · rename_i v l' hv hl
      injection hr with hr
      subst hr
      obtain ⟨u, h1, h2⟩ := res_one H hv
      obtain ⟨us, h3, h4, h5⟩ := ress_run H hl
      refine ⟨u :: us, by rw [List.mapM_cons]; simp only [Sem.run_bind, h1, Result.andThen_ok, h3, Sem.run_pure], by simp [h4], fun i c x g1 g2 => ?_⟩
      cases i with
      | zero => simp at g1 g2; subst g1; subst g2; exact h2
      | succ i => exact h5 i c x (by simpa using g1) (by simpa using g2)
    · cases hr
theorem result_run (H : RelAt N B G fr φ ⟨e, h, nx, pr, ks⟩ a w) {fn : Func} {v : V} (hr : result e h (tRess P fn.results.toList) = some v) : ∃ u, (results fn a.tmps).run P w = .ok u w ∧ Rep w (Excl B φ) φ v u := by
  have hres : ∀ us : List Value, (fn.results.toList.mapM (m := Sem) (resOne a.tmps)).run P w = .ok us w → (results fn a.tmps).run P w = .ok (if h : us.toArray.size = 1 then us.toArray[0] else .tuple us.toArray) w := fun us hus => by
    have e1 : (fn.results.mapM (m := Sem) (resOne a.tmps)).run P w = .ok us.toArray w := by
      rw [Array.mapM_eq_mapM_toList]
      simp [hus]
    show ((fn.results.mapM (m := Sem) (resOne a.tmps)) >>= fun vs => pure (if h : vs.size = 1 then vs[0] else .tuple vs)).run P w = _
    simp only [Sem.run_bind, e1, Result.andThen_ok, Sem.run_pure]
  unfold result at hr
  split at hr
  · rename_i v' hv
    injection hr with hr
    subst hr
    obtain ⟨us, h1, h2, h3⟩ := ress_run H hv
    match us, h2 with
    | [u], _ => exact ⟨u, by rw [hres _ h1]; simp, h3 0 v' u rfl rfl⟩
  · rename_i vs hne hv
    injection hr with hr
    subst hr
    obtain ⟨us, h1, h2, h3⟩ := ress_run H hv
    refine ⟨.tuple us.toArray, ?_, .tup vs us h2 h3⟩
    rw [hres _ h1, dif_neg]
    intro h
    have : vs.length = 1 := by rw [h2]; simpa using h
    match vs, this with
    | [v'], _ => exact hne v' rfl
  · cases hr
theorem enter_ok {go : An → CCode → S → (Out → Option R) → Option R} (hgo : CodeOk P G go) {an : An} {g : Nat} {args : List V} {h : Heap} {nx : Nat} {pr : Nat → Bool} {q : V → Heap → Nat → Option R} (hq : enter (go an) args h nx pr q (fnOf P P.funcs[g]?) = some res) : CallAt P G g args h nx pr q res := by
  cases hf : P.funcs[g]? with
  | none => rw [hf] at hq; cases hq
  | some fn =>
  rw [hf] at hq
  simp only [fnOf, tFn] at hq
  split at hq
  · rename_i c hb hname
    refine ⟨⟨fn, hf, hname, by rw [hb]; rfl⟩, fun B U φ w vals H hU hlen hargs => ?_⟩
    simp only [enter] at hq
    split at hq
    · rename_i hle
      have hle := Nat.le_of_ble_eq_true hle
      obtain ⟨e, he, hq⟩ := params_spec hq
      refine calls_of_wp hf hb ?_
      have R0 : RelAt fn.ntmps B G (FR U nx) φ ⟨e, h, nx, pr, noK⟩ { tmps := vals.toArray ++ Array.replicate (fn.ntmps - vals.toArray.size) undef, defers := [] } w :=
        { H with
          size := by simp; omega
          defers := rfl
          env := fun t c' ht => by
            have ht : e.get t = some c' := ht
            rw [he t] at ht
            split at ht
            · rename_i hlt
              rw [Nat.sub_zero] at ht
              have hlv : t < vals.length := by omega
              refine ⟨by omega, hargs t c' _ ht ?_⟩
              simp only [Array.getD]
              split
              · rw [List.getElem?_eq_getElem hlv]
                simp [Array.getElem_append, hlv]
              · rename_i hn; simp at hn; omega
            · rw [T.get_e] at ht; cases ht }
      refine wp_mono (hgo an fn.ntmps c e h nx pr noK _ res hq B U φ _ w hU R0) fun x a' w' hh => ?_
      have fin : ∀ {s' : S} {φ' : Loc}, RelAt fn.ntmps B G (FR U s'.nx) φ' s' a' w' → nx ≤ s'.nx → Fwd pr φ w φ' w' → (match result s'.env s'.h (tRess P fn.results.toList) with | some v => force v fun v => q v s'.h s'.nx | none => none) = some res →
          a'.defers = [] ∧ ∃ v, (results fn a'.tmps).run P w' = .ok v w' ∧ ∃ v' c φ' h' nx', Ending.returned v = .returned v' ∧ q c h' nx' = some res ∧ HeapAt B G (FR U nx') φ' h' w' ∧ nx ≤ nx' ∧ Fwd pr φ w φ' w' ∧ Rep w' (Excl B φ') φ' c v' := by
        rintro ⟨e', h', nx', pr', ks'⟩ φ' R' hn F hk
        dsimp only at hk
        split at hk
        · rename_i v hv
          rw [force_eq] at hk
          obtain ⟨u, hu, hrep⟩ := result_run R' hv
          exact ⟨R'.defers, u, hu, u, v, φ', h', nx', rfl, hk, R'.toHeapAt, hn, F, hrep⟩
        · cases hk
      cases x <;> simp only [Lift, bodyPost] at hh ⊢
      · obtain ⟨s', φ', h1, h2, h3, h3', h4, h5, _⟩ := hh
        exact fin h2 h4 h5 h1
      · obtain ⟨s', φ', h1, _⟩ := hh
        cases h1
      · obtain ⟨s', φ', h1, h2, h3, h3', h4, h5, _⟩ := hh
        exact fin h2 h4 h5 h1
    · cases hq
  · cases hq
theorem findF_spec {g : Nat} : ∀ {tab : List Fun} {F : Fun}, findF g tab = some F → F ∈ tab ∧ F.num = g
  | [], F, h => by cases h
  | F' :: r, F, h => by
    simp only [findF] at h
    split at h
    · rename_i hb
      injection h with h
      subst h
      exact ⟨by simp, beq_true hb⟩
    · obtain ⟨h1, h2⟩ := findF_spec h
      exact ⟨by simp [h1], h2⟩
theorem callF_ok {tab : List Fun} (hp : TabOk P G tab) {marks : Nat → An} {go : An → CCode → S → (Out → Option R) → Option R} (hgo : CodeOk P G go) : CallOk P G (callF P tab marks go) := by
  intro g args h nx pr q res hq
  simp only [callF] at hq
  split at hq
  · rename_i F hF
    obtain ⟨h1, h2⟩ := findF_spec hF
    have := hp F h1 R args h nx pr q res hq
    rw [h2] at this
    exact this
  · exact enter_ok hgo hq
theorem RelAt.drew (H : RelAt N B G fr φ ⟨e, h, nx, pr, ks⟩ a w) : RelAt N B G fr φ ⟨e, h, nx, pr, ks⟩ a w.drew ∧ Fwd pr φ w φ w.drew := by
  have M : More w w.drew := ⟨Nat.le_refl _, fun _ _ => rfl, rfl, rfl, rfl⟩
  exact ⟨H.step (pr'' := pr) (ks' := ks) (nx' := nx) (M.fwd (pr := pr)) (H.toHeapAt.same M), M.fwd⟩
theorem region_ok (call : Calling R) (hcall : CallOk P G call) {id : Nat} {ops : Array Oper} {q : Out → Option R} (hq : runRegion call (tOpers P N ops ops.toList) q ⟨e, h, nx, pr, ks⟩ = some res) (hU : ∀ x, U x → x < nx) (H : RelAt N B G (FR U nx) φ ⟨e, h, nx, pr, ks⟩ a w) :
    (Code.region id ops false).wp P (Lift N B G U pr ks nx φ a w q res) a w := by
  simp only [runRegion, forceN_eq, tOpers_len] at hq
  refine wp_regionC ?_
  have hlen : ops.toList.length = ops.size := by simp
  rw [hlen] at hq
  have hq : evR call (nx + 2 * 0) (tOpers P N ops ops.toList) ⟨e, h, nx + 2 * ops.size, pr, ks⟩ (fun s => q (.normal s)) = some res := hq
  have := sound_evR (U := U) (Q := Lift N B G U pr ks nx φ a w q res) call hcall (base := nx) (n := ops.size) (nx₀ := nx + 2 * ops.size) (φ₀ := φ) (a₀ := a) (w₀ := w) hU (Nat.le_refl _) (fun a' w' hA => hA.from (Fwd.refl _ _ _) (Kept.refl _ _) (by omega)) ops.toList 0 e h (nx + 2 * ops.size) φ a w (fun i => by simp) (by simp) hq (Nat.le_refl _) (H.less fun x hx => by
    rcases hx with (hx | hx) | hx
    · exact .inl hx
    · exact .inr (by omega)
    · exact .inr (by omega)) (Fwd.refl _ _ _) (Kept.refl _ _)
  rw [hlen] at this
  rw [List.range_eq_range']
  exact this
theorem drawn_ok (call : Calling R) (hcall : CallOk P G call) {id : Nat} {ops : Array Oper} (hm : P.follows .mixedOrders = true) (hsel : Region.noSelect ops = true) {q : Out → Option R} (hq : runDrawn call (tROps P N ops (tLooks ops ops.toList) (closeR 0 (tLooks ops ops.toList) []) 0 ops.toList) q ⟨e, h, nx, pr, ks⟩ = some res) (hU : ∀ x, U x → x < nx) (H : RelAt N B G (FR U nx) φ ⟨e, h, nx, pr, ks⟩ a w) :
    (Code.region id ops true).wp P (Lift N B G U pr ks nx φ a w q res) a w := by
  have hlen : (tROps P N ops (tLooks ops ops.toList) (closeR 0 (tLooks ops ops.toList) []) 0 ops.toList).length = ops.size := by
    have : ∀ (ks : List (Option Nat × List Nat × Nat)) (ts : List Nat) (l : List Oper) (k : Nat), (tROps P N ops ks ts k l).length = l.length := fun ks ts l => by
      induction l with
      | nil => intro k; rfl
      | cons o r ih => intro k; simp [tROps, ih]
    rw [this]; simp
  simp only [runDrawn, forceN_eq, hlen] at hq
  obtain ⟨R', F⟩ := H.drew
  refine wp_region_any hm (wpAny_of_E _ [] _ _ _ ?_)
  exact sound_evD (U := U) (Q := Lift N B G U pr ks nx φ a w q res) call hcall hsel (fun c a w h => h) (base := nx) (nx₀ := nx + 2 * ops.size) (K := fun s => q (.normal s)) (φ₀ := φ) (a₀ := a) (w₀ := w.drew) hU (Nat.le_refl _) (fun a' w' hA => hA.from F (Kept.refl _ _) (by omega))
    ops.size 0 [] [] _ e h (nx + 2 * ops.size) φ a w.drew hq (by simp) (fun i hi => by simp [Array.getD, hi]) (fun i hi => by simp at hi) (fun j i hj => by simp [Array.getD] at hj) (Nat.le_refl _) (R'.less fun x hx => by
      rcases hx with (hx | hx) | hx
      · exact .inl hx
      · exact .inr (by omega)
      · exact .inr (by omega)) (Fwd.refl _ _ _) (Kept.refl _ _) (fun p hp => by cases hp)
theorem shield_mono {un : List Nat} {x : Nat} (h : pr x = true) : shield pr nx un x = true := shield_iff.2 (.inl h)
theorem Kept.mono {ks ks' : Nat → Bool} {a a' : Act} (h : Kept ks' a a') (hk : ∀ t, ks t = true → ks' t = true) : Kept ks a a' := fun t ht => h t (hk t ht)
def PieceOk (P : Program) (G : Nat → Nat → Value → Prop) (N : Nat) (c : Code) (go : (R : Type) → S → (Out → Option R) → Option R) : Prop := ∀ (R : Type) (e : T V) (h : Heap) (nx : Nat) (pr ks : Nat → Bool) (q : Out → Option R) (res : R), go R ⟨e, h, nx, pr, ks⟩ q = some res →
  ∀ (B : Nat → Prop) (U : Nat → Prop) (φ : Loc) (a : Act) (w : World), (∀ x, U x → x < nx) → RelAt N B G (FR U nx) φ ⟨e, h, nx, pr, ks⟩ a w → c.wp P (Lift N B G U pr ks nx φ a w q res) a w
theorem MeetAt.go {keep un : List Nat} {its : List It} {x : ItD its} {a' : Act} {w' : World} (hm : MeetAt N B G U e h nx pr ks φ a w keep un its x a' w') {q : S → Option R} (hq : meet ⟨e, h, nx, pr, ks⟩ keep un its x q = some res) : After N B G U pr ks nx φ a w q res a' w' := by
  obtain ⟨e2, h2, m, φ2, h3, h4, h5, F, K⟩ := hm R q res hq
  exact ⟨_, φ2, h3, h4, rfl, rfl, h5, F.mono fun x hx => shield_mono hx, K.mono fun t ht => shieldS_iff.2 (.inl ht)⟩
theorem After.back {un keep : List Nat} {q : S → Option R} {a' : Act} {w' : World} {K : S → Option R} (hK : ∀ s, K s = some res → q (back pr ks s) = some res) (h : After N B G U (shield pr nx un) (shieldS ks keep) nx φ a w K res a' w') : After N B G U pr ks nx φ a w q res a' w' := by
  obtain ⟨⟨e', h', nx', pr', ks'⟩, φ', h1, h2, h3, h3', h4, h5, h6⟩ := h
  exact ⟨_, φ', hK _ h1, h2.less (fun x hx => hx), rfl, rfl, h4, h5.mono fun x hx => shield_mono hx, h6.mono fun t ht => shieldS_iff.2 (.inl ht)⟩
theorem scope_ok {c : Code} {go : (R : Type) → S → (Out → Option R) → Option R} (hgo : PieceOk P G N c go) {j : Option J} {q : Out → Option R} (hq : scope ⟨e, h, nx, pr, ks⟩ go q j = some res) (hU : ∀ x, U x → x < nx) (H : RelAt N B G (FR U nx) φ ⟨e, h, nx, pr, ks⟩ a w) :
    c.wp P (Lift N B G U pr ks nx φ a w q res) a w := by
  unfold scope at hq
  split at hq
  · exact hgo R e h nx pr ks q res hq B U φ a w hU H
  · rename_i j
    split at hq
    · rename_i its hits
      have hct := resolve_spec hits
      obtain ⟨un, hun, hq⟩ := freeN_spec hq
      have H' : RelAt N B G (FR U nx) φ ⟨e, h, nx, shield pr nx un, shieldS ks j.keep⟩ a w := H.less fun x hx => hx
      cases he : j.early with
      | true =>
        -- it may be left
        rw [he] at hq
        simp only [scope3] at hq
        obtain ⟨r, hr, hq⟩ := bindO_some hq
        refine wp_mono (hgo _ e h nx _ _ _ r hr B U φ a w hU H') fun x a' w' hh => ?_
        cases x with
        | normal =>
          obtain ⟨⟨e', h', nx', pr', ks'⟩, φ', h1, h2, h3, h3', h4, F, K⟩ := hh
          have h3 : pr' = shield pr nx un := h3
          subst h3
          obtain ⟨x, hx, hM⟩ := meet_ok H hU hun hct h2 F K h1
          injection hx with hx
          subst hx
          exact hM.go hq
        | exit id =>
          obtain ⟨⟨e', h', nx', pr', ks'⟩, φ', h1, h2, h3, h3', h4, F, K⟩ := hh
          obtain ⟨r1, hr1, h5⟩ := bindO_some h1
          injection h5 with h5
          subst h5
          have hq : some r1 = some res := hq
          injection hq with hq
          subst hq
          exact ⟨⟨e', h', nx', pr, ks⟩, φ', hr1, h2.less (fun x hx => hx), rfl, rfl, h4, F.mono fun x hx => shield_mono hx, K.mono fun t ht => shieldS_iff.2 (.inl ht)⟩
        | ret =>
          obtain ⟨⟨e', h', nx', pr', ks'⟩, φ', h1, h2, h3, h3', h4, F, K⟩ := hh
          obtain ⟨r1, hr1, h5⟩ := bindO_some h1
          injection h5 with h5
          subst h5
          have hq : some r1 = some res := hq
          injection hq with hq
          subst hq
          exact ⟨⟨e', h', nx', pr, ks⟩, φ', hr1, h2.less (fun x hx => hx), rfl, rfl, h4, F.mono fun x hx => shield_mono hx, K.mono fun t ht => shieldS_iff.2 (.inl ht)⟩
        | goto l => exact hh
        | panic ch => exact hh
        | outgrown => exact hh
      | false =>
        rw [he] at hq
        simp only [scope2] at hq
        obtain ⟨x, hx, hq⟩ := bindO_some hq
        refine wp_mono (hgo _ e h nx _ _ _ x hx B U φ a w hU H') fun x' a' w' hh => ?_
        cases x' with
        | normal =>
          obtain ⟨⟨e', h', nx', pr', ks'⟩, φ', h1, h2, h3, h3', h4, F, K⟩ := hh
          have h3 : pr' = shield pr nx un := h3
          subst h3
          obtain ⟨x', hx', hM⟩ := meet_ok H hU hun hct h2 F K h1
          injection hx' with hx'
          subst hx'
          exact hM.go hq
        | exit id => obtain ⟨s', φ', h1, _⟩ := hh; cases h1
        | ret => obtain ⟨s', φ', h1, _⟩ := hh; cases h1
        | goto l => exact hh
        | panic ch => exact hh
        | outgrown => exact hh
    · cases hq
theorem rounds_mono {c : Code} {Q Q' : Exit → Act → World → Prop} (hQ : ∀ x a w, x ≠ .normal → Q x a w → Q' x a w) : ∀ (m : Nat) (a : Act) (w : World), Code.rounds P c Q m a w → Code.rounds P c Q' m a w
  | 0, _, _, h => h
  | m + 1, a, w, h => by
    rw [rounds_succ] at h ⊢
    refine wp_mono h fun x a₂ w₂ hh => ?_
    cases x with
    | normal => exact rounds_mono hQ m _ _ hh
    | _ => exact hQ _ _ _ nofun hh
theorem lift_then {c : Code} {q : Out → Option R} {k : S → (Out → Option R) → Option R} {next : Act → World → Prop}
    (h : c.wp P (Lift N B G U pr ks nx φ a w (thenK k q) res) a w)
    (hk : ∀ (e' : T V) (h' : Heap) (nx' : Nat) (φ' : Loc) (a' : Act) (w' : World), k ⟨e', h', nx', pr, ks⟩ q = some res → RelAt N B G (FR U nx') φ' ⟨e', h', nx', pr, ks⟩ a' w' → nx ≤ nx' → Fwd pr φ w φ' w' → Kept ks a a' → next a' w') :
    c.wp P (Exit.then next (Lift N B G U pr ks nx φ a w q res)) a w := by
  refine wp_mono h fun x a' w' hh => ?_
  cases x with
  | normal =>
    obtain ⟨⟨e', h', nx', pr', ks'⟩, φ', h1, h2, h3, h3', h4, h5, h6⟩ := hh
    have h3 : pr' = pr := h3
    subst h3
    have h3' : ks' = ks := h3'
    subst h3'
    exact hk e' h' nx' φ' a' w' h1 h2 h4 h5 h6
  | exit id => exact hh
  | ret => exact hh
  | goto l => exact hh
  | panic ch => exact hh
  | outgrown => exact hh
theorem loopJ_ok {c : Code} {go : S → (Out → Option R) → Option R} (hgo : ∀ (e : T V) (h : Heap) (nx : Nat) (pr ks : Nat → Bool) (q : Out → Option R) (res : R), go ⟨e, h, nx, pr, ks⟩ q = some res →
      ∀ (B : Nat → Prop) (U : Nat → Prop) (φ : Loc) (a : Act) (w : World), (∀ x, U x → x < nx) → RelAt N B G (FR U nx) φ ⟨e, h, nx, pr, ks⟩ a w → c.wp P (Lift N B G U pr ks nx φ a w q res) a w)
    {fl : Nat} {j : J} {q : Out → Option R} (hq : loopJ fl ⟨e, h, nx, pr, ks⟩ go q j = some res) (hU : ∀ x, U x → x < nx) (H : RelAt N B G (FR U nx) φ ⟨e, h, nx, pr, ks⟩ a w) :
    Code.rounds P c (Lift N B G U pr ks nx φ a w q res) fl a w := by
  unfold loopJ at hq
  split at hq
  · rename_i its hits
    have hct := resolve_spec hits
    obtain ⟨un, hun, hq⟩ := freeN_spec hq
    simp only [loop2] at hq
    obtain ⟨x0, hx0, hM0⟩ := meet_ok (keep := j.keep) H hU hun hct (ks' := ks) (H.less fun x hx => hx) (Fwd.refl _ _ _) (Kept.refl _ _) hq
    have key : ∀ (n : Nat) (x : ItD its) (a' : Act) (w' : World), iter (fun x rec => meet ⟨e, h, nx, pr, ks⟩ j.keep un its x fun s => match s with
        | ⟨e', h', nx', _, _⟩ => go ⟨e', h', nx', shield pr nx un, shieldS ks j.keep⟩ fun o => match o with
          | .normal s' => grabI its s' rec
          | .exit id s' => q (.exit id (back pr ks s'))
          | .ret s' => q (.ret (back pr ks s'))) n x = some res → MeetAt N B G U e h nx pr ks φ a w j.keep un its x a' w' → Code.rounds P c (Lift N B G U pr ks nx φ a w q res) n a' w' := by
      intro n
      induction n with
      | zero => intro x a' w' hi; cases hi
      | succ n ih =>
        intro x a' w' hi hM
        simp only [iter] at hi
        obtain ⟨e2, h2, m, φ2, hgo2, H2, hm, F2, K2⟩ := hM R _ res hi
        dsimp only at hgo2
        rw [rounds_succ]
        refine wp_mono (hgo e2 h2 m _ _ _ res hgo2 B U φ2 a' w' (fun x hx => Nat.lt_of_lt_of_le (hU x hx) hm) (H2.less fun x hx => hx)) fun ex a'' w'' hh => ?_
        cases ex with
        | normal =>
          obtain ⟨⟨e3, h3, nx3, pr3, ks3⟩, φ3, g1, g2, g3, g3', g4, F3, K3⟩ := hh
          have g3 : pr3 = shield pr nx un := g3
          subst g3
          obtain ⟨x', hx', hM'⟩ := meet_ok H hU hun hct g2 (F2.trans F3) (K2.trans K3) g1
          exact ih x' a'' w'' hx' hM'
        | exit id =>
          obtain ⟨⟨e3, h3, nx3, pr3, ks3⟩, φ3, g1, g2, g3, g3', g4, F3, K3⟩ := hh
          exact ⟨⟨e3, h3, nx3, pr, ks⟩, φ3, g1, g2.less (fun x hx => hx), rfl, rfl, Nat.le_trans hm g4, (F2.trans F3).mono fun x hx => shield_mono hx, (K2.trans K3).mono fun t ht => shieldS_iff.2 (.inl ht)⟩
        | ret =>
          obtain ⟨⟨e3, h3, nx3, pr3, ks3⟩, φ3, g1, g2, g3, g3', g4, F3, K3⟩ := hh
          exact ⟨⟨e3, h3, nx3, pr, ks⟩, φ3, g1, g2.less (fun x hx => hx), rfl, rfl, Nat.le_trans hm g4, (F2.trans F3).mono fun x hx => shield_mono hx, (K2.trans K3).mono fun t ht => shieldS_iff.2 (.inl ht)⟩
        | goto l => exact hh
        | panic ch => exact hh
        | outgrown => exact hh
    exact key fl x0 a w hx0 hM0
  · cases hq
theorem code_ok {tab : List Fun} (hp : TabOk P G tab) {marks : Nat → An} {fl : Nat} : ∀ (n : Nat) (R : Type), CodeOk P G (run P tab marks fl n R) ∧ ∀ (an : An) (N : Nat) (c : Code) (e : T V) (h : Heap) (nx : Nat) (pr ks : Nat → Bool) (q : Out → Option R) (res : R), an.meet = none → run P tab marks fl n R an (.loop (tCode P N c)) ⟨e, h, nx, pr, ks⟩ q = some res →
    ∀ (B : Nat → Prop) (U : Nat → Prop) (φ : Loc) (a : Act) (w : World), (∀ x, U x → x < nx) → RelAt N B G (FR U nx) φ ⟨e, h, nx, pr, ks⟩ a w → Code.rounds P c (Lift N B G U pr ks nx φ a w q res) n a w
  | 0, R => ⟨fun an N c e h nx pr ks q res hq => absurd hq (by simp [run]), fun an N c e h nx pr ks q res _ hq => absurd hq (by simp [run])⟩
  | n + 1, R => by
    have ih := fun R => (code_ok hp (marks := marks) (fl := fl) n R).1
    have il := (code_ok hp (marks := marks) (fl := fl) n R).2
    have hL : ∀ (an : An) (N : Nat) (c : Code) (e : T V) (h : Heap) (nx : Nat) (pr ks : Nat → Bool) (q : Out → Option R) (res : R), an.meet = none → run P tab marks fl (n + 1) R an (.loop (tCode P N c)) ⟨e, h, nx, pr, ks⟩ q = some res →
        ∀ (B : Nat → Prop) (U : Nat → Prop) (φ : Loc) (a : Act) (w : World), (∀ x, U x → x < nx) → RelAt N B G (FR U nx) φ ⟨e, h, nx, pr, ks⟩ a w → Code.rounds P c (Lift N B G U pr ks nx φ a w q res) (n + 1) a w := by
      intro an N c e h nx pr ks q res hnone hq B U φ a w hU H
      simp only [run, hnone] at hq
      rw [rounds_succ]
      refine lift_then (k := run P tab marks fl n R an (.loop (tCode P N c))) (ih R _ N c e h nx pr ks _ res hq B U φ a w hU H) fun e' h' nx' φ' a' w' hq' R' hn F K => ?_
      refine rounds_mono (fun x a w hx hh => ?_) n a' w' (il an N c e' h' nx' pr ks q res hnone hq' B U φ' a' w' (fun x hx => Nat.lt_of_lt_of_le (hU x hx) hn) R')
      exact Lift.from F K hn hh
    refine ⟨fun an N c e h nx pr ks q res hq B U φ a w hU H => ?_, hL⟩
    cases c with
    | skip => exact wp_skip ⟨_, φ, hq, H, rfl, rfl, Nat.le_refl _, Fwd.refl _ _ _, Kept.refl _ _⟩
    | exit id => exact wp_exit ⟨_, φ, hq, H, rfl, rfl, Nat.le_refl _, Fwd.refl _ _ _, Kept.refl _ _⟩
    | ret => exact wp_ret ⟨_, φ, hq, H, rfl, rfl, Nat.le_refl _, Fwd.refl _ _ _, Kept.refl _ _⟩
    | seq x y =>
      refine wp_seq (lift_then (k := run P tab marks fl n R an.right (tCode P N y)) (ih R _ N x e h nx pr ks _ res hq B U φ a w hU H) fun e' h' nx' φ' a' w' hq' R' hn F K => ?_)
      exact wp_mono (ih R _ N y e' h' nx' pr ks q res hq' B U φ' a' w' (fun x hx => Nat.lt_of_lt_of_le (hU x hx) hn) R') fun x a w hh => Lift.from F K hn hh
    | cond x y z =>
      refine scope_ok (go := fun R' s q => condK (run P tab marks fl n R' an.left (tCode P N y) s q) (run P tab marks fl n R' an.right (tCode P N z) s q) (TM.opd s.env (tOpd x))) (fun R e h nx pr ks q res hq B U φ a w hU H => ?_) hq hU H
      dsimp only at hq
      unfold condK at hq
      split at hq
      · rename_i b hx
        rcases ask_some hq with ⟨rfl, hq⟩ | ⟨rfl, hq⟩
        · exact wp_cond_true (rep_b (H.opd hx)) (ih R _ N y e h nx pr ks q res hq B U φ a w hU H)
        · exact wp_cond_false (rep_b (H.opd hx)) (ih R _ N z e h nx pr ks q res hq B U φ a w hU H)
      · cases hq
    | block id c =>
      refine scope_ok (go := fun R' s q => run P tab marks fl n R' an.left (tCode P N c) s (blockK id q)) (fun R e h nx pr ks q res hq B U φ a w hU H => ?_) hq hU H
      refine wp_block (wp_mono (ih R _ N c e h nx pr ks _ res hq B U φ a w hU H) fun x a' w' hh => ?_)
      cases x with
      | normal => exact hh
      | exit id' =>
        obtain ⟨s', φ', h1, h2⟩ := hh
        simp only [blockK] at h1
        split at h1
        · rename_i hb
          have hb := Nat.eq_of_beq_eq_true hb
          subst hb
          show ite _ _ _
          rw [if_pos rfl]
          exact ⟨s', φ', h1, h2⟩
        · rename_i hb
          have hb := Nat.ne_of_beq_eq_false hb
          show ite _ _ _
          rw [if_neg hb]
          exact ⟨s', φ', h1, h2⟩
      | ret => exact hh
      | goto l => exact hh
      | panic ch => exact hh
      | outgrown => exact hh
    | loop c =>
      cases hm : an.meet with
      | none => exact wp_loop_rounds (n + 1) (hL an N c e h nx pr ks q res hm hq B U φ a w hU H)
      | some j =>
        have hq : run P tab marks fl (n + 1) R an (.loop (tCode P N c)) ⟨e, h, nx, pr, ks⟩ q = some res := hq
        simp only [run, hm] at hq
        exact wp_loop_rounds fl (loopJ_ok (fun e h nx pr ks q res hq => ih R _ N c e h nx pr ks q res hq) hq hU H)
    | scope c =>
      have hq : run P tab marks fl (n + 1) R an (.seq .skip (tCode P N c)) ⟨e, h, nx, pr, ks⟩ q = some res := hq
      simp only [run] at hq
      cases n with
      | zero => simp [run] at hq
      | succ n =>
        have hq : run P tab marks fl (n + 1) R an.right (tCode P N c) ⟨e, h, nx, pr, ks⟩ q = some res := hq
        refine wp_scope_straight (wp_mono (ih R _ N c e h nx pr ks q res hq B U φ a w hU H) fun x a' w' hh => ?_)
        cases x <;> exact hh
    | label l => exact wp_label ⟨_, φ, hq, H, rfl, rfl, Nat.le_refl _, Fwd.refl _ _ _, Kept.refl _ _⟩
    | region id ops d =>
      cases d with
      | false => exact scope_ok (go := fun R' s q => runRegion (callF P tab marks (run P tab marks fl n R')) (tOpers P N ops ops.toList) q s) (fun R e h nx pr ks q res hq B U φ a w hU H => region_ok _ (callF_ok hp (ih R)) hq hU H) hq hU H
      | true =>
        simp only [tCode] at hq
        split at hq
        · rename_i hm
          rw [Bool.and_eq_true] at hm
          exact scope_ok (go := fun R' s q => runDrawn (callF P tab marks (run P tab marks fl n R')) (tROps P N ops (tLooks ops ops.toList) (closeR 0 (tLooks ops ops.toList) []) 0 ops.toList) q s) (fun R e h nx pr ks q res hq B U φ a w hU H => drawn_ok _ (callF_ok hp (ih R)) hm.1 hm.2 hq hU H) hq hU H
        · cases hq
    | _ => cases hq
end
end Go.TM
namespace Go.TM
open Go.RowKit
inductive Pairs (Q : Nat → Nat → Prop) : List Nat → List Nat → Prop
  | nil : Pairs Q [] []
  | cons {a b : Nat} {l m : List Nat} (h : Q a b) (t : Pairs Q l m) : Pairs Q (a :: l) (b :: m)
theorem Pairs.imp {Q Q' : Nat → Nat → Prop} (f : ∀ a b, Q a b → Q' a b) {l m : List Nat} (h : Pairs Q l m) : Pairs Q' l m := by
  induction h with
  | nil => exact .nil
  | cons h _ ih => exact .cons (f _ _ h) ih
def BoxR (w : World) (X : Nat → Prop) (s : Sh) (x : s.D) (b : Nat) (O : Nat → Prop) : Prop := ∃ (cs : Array Value) (t : TypeId) (z : Nat × Nat) (us : List Value), w.heap[b]? = some (.cells cs t z) ∧ Open cs z ∧ us.length ≤ cs.size ∧ (∀ (i : Nat) (v : Value), us[i]? = some v → cs[i]? = some v) ∧ SR w X s x us O
def LsR (w : World) (X : Nat → Prop) : (l : List (Bool × Sh)) → ShsD l → List Value → (Nat → Prop) → Prop
  | [], _, vs, O => vs = [] ∧ ∀ b, ¬ O b
  | [s], x, vs, O => ∃ v us, vs = [v] ∧ CellsOf s.1 v us ∧ SR w X s.2 x us O
  | s :: s' :: r, x, vs, O => ∃ v us vs' O1 O2, vs = v :: vs' ∧ CellsOf s.1 v us ∧ SR w X s.2 x.1 us O1 ∧ LsR w X (s' :: r) x.2 vs' O2 ∧ Disj O1 O2 ∧ ∀ b, O b ↔ O1 b ∨ O2 b
def VR (w : World) (X : Nat → Prop) : (o : VS) → o.D → Value → (Nat → Prop) → Prop
  | .one g s, x, v, O => ∃ us, CellsOf g v us ∧ SR w X s x us O
  | .tup l, x, v, O => ∃ vs : List Value, v = .tuple vs.toArray ∧ LsR w X l x vs O
def MutR (w : World) (X : Nat → Prop) : (l : List Sh) → ShL l → List Nat → (Nat → Prop) → Prop
  | [], _, bs, O => bs = [] ∧ ∀ b, ¬ O b
  | [s], x, bs, O => ∃ b, bs = [b] ∧ BoxR w X s x b O
  | s :: s' :: r, x, bs, O => ∃ b bs' O1 O2, bs = b :: bs' ∧ BoxR w X s x.1 b O1 ∧ MutR w X (s' :: r) x.2 bs' O2 ∧ Disj O1 O2 ∧ ∀ b, O b ↔ O1 b ∨ O2 b
def ArgR (w : World) (X : Nat → Prop) : (a : Arg) → a.D → Value → (Nat → Prop) → List Nat → Prop
  | .val g t, x, v, T, bs => ∃ us, CellsOf g v us ∧ RT w X t x us ∧ (∀ b, ¬ T b) ∧ bs = []
  | .mut s, x, v, T, bs => ∃ b O', v = .pointer (some ⟨b, 0, none⟩) ∧ BoxR w X s x b O' ∧ ¬ O' b ∧ bs = [b] ∧ ∀ c, T c ↔ c = b ∨ O' c
def ArgsR (w : World) (X : Nat → Prop) : (l : List Arg) → ArgsD l → List Value → (Nat → Prop) → List Nat → Prop
  | [], _, vs, T, bs => vs = [] ∧ (∀ b, ¬ T b) ∧ bs = []
  | [a], x, vs, T, bs => ∃ v, vs = [v] ∧ ArgR w X a x v T bs
  | a :: a' :: r, x, vs, T, bs => ∃ v vs' T1 T2 bs1 bs2, vs = v :: vs' ∧ bs = bs1 ++ bs2 ∧ ArgR w X a x.1 v T1 bs1 ∧ ArgsR w X (a' :: r) x.2 vs' T2 bs2 ∧ Disj T1 T2 ∧ ∀ b, T b ↔ T1 b ∨ T2 b
section
variable {P : Program} {N : Nat} {B : Nat → Prop} {G : Nat → Nat → Value → Prop} {fr U : Nat → Prop} {φ : Loc} {a : Act} {w : World} {e : T V} {h : Heap} {nx : Nat} {pr ks : Nat → Bool} {R : Type} {res : R}
theorem BoxR.mono {X X' : Nat → Prop} (hx : ∀ b, X' b → X b) {s : Sh} {x : s.D} {b : Nat} {O : Nat → Prop} : BoxR w X s x b O → BoxR w X' s x b O
  | ⟨cs, t, z, us, h1, h2, h3, h4, h5⟩ => ⟨cs, t, z, us, h1, h2, h3, h4, h5.mono hx⟩
theorem LsR.mono {X X' : Nat → Prop} (hx : ∀ b, X' b → X b) : ∀ {l : List (Bool × Sh)} {x : ShsD l} {vs : List Value} {O : Nat → Prop}, LsR w X l x vs O → LsR w X' l x vs O
  | [], _, _, _, h => h
  | [s], _, _, _, ⟨v, us, h1, h2, h3⟩ => ⟨v, us, h1, h2, h3.mono hx⟩
  | s :: s' :: r, _, _, _, ⟨v, us, vs', O1, O2, h1, h2, h3, h4, h5⟩ => ⟨v, us, vs', O1, O2, h1, h2, h3.mono hx, h4.mono hx, h5⟩
theorem VR.mono {X X' : Nat → Prop} (hx : ∀ b, X' b → X b) : ∀ {o : VS} {x : o.D} {v : Value} {O : Nat → Prop}, VR w X o x v O → VR w X' o x v O
  | .one g s, _, _, _, ⟨us, h1, h2⟩ => ⟨us, h1, h2.mono hx⟩
  | .tup l, _, _, _, ⟨vs, h1, h2⟩ => ⟨vs, h1, h2.mono hx⟩
theorem MutR.mono {X X' : Nat → Prop} (hx : ∀ b, X' b → X b) : ∀ {l : List Sh} {x : ShL l} {bs : List Nat} {O : Nat → Prop}, MutR w X l x bs O → MutR w X' l x bs O
  | [], _, _, _, h => h
  | [s], _, _, _, ⟨b, h1, h2⟩ => ⟨b, h1, h2.mono hx⟩
  | s :: s' :: r, _, _, _, ⟨b, bs', O1, O2, h1, h2, h3, h4⟩ => ⟨b, bs', O1, O2, h1, h2.mono hx, h3.mono hx, h4⟩
theorem ArgR.mono {X X' : Nat → Prop} (hx : ∀ b, X' b → X b) : ∀ {a : Arg} {x : a.D} {v : Value} {T : Nat → Prop} {bs : List Nat}, ArgR w X a x v T bs → ArgR w X' a x v T bs
  | .val g t, _, _, _, _, ⟨us, h1, h2, h3⟩ => ⟨us, h1, RT.mono hx h2, h3⟩
  | .mut s, _, _, _, _, ⟨b, O', h1, h2, h3⟩ => ⟨b, O', h1, h2.mono hx, h3⟩
theorem ArgsR.mono {X X' : Nat → Prop} (hx : ∀ b, X' b → X b) : ∀ {l : List Arg} {x : ArgsD l} {vs : List Value} {T : Nat → Prop} {bs : List Nat}, ArgsR w X l x vs T bs → ArgsR w X' l x vs T bs
  | [], _, _, _, _, h => h
  | [a], _, _, _, _, ⟨v, h1, h2⟩ => ⟨v, h1, h2.mono hx⟩
  | a :: a' :: r, _, _, _, _, ⟨v, vs', T1, T2, bs1, bs2, h1, h2, h3, h4, h5⟩ => ⟨v, vs', T1, T2, bs1, bs2, h1, h2, h3.mono hx, h4.mono hx, h5⟩
def RW (w : World) (X : Nat → Prop) (φ : Loc) (cs : List V) (vs : List Value) : Prop := cs.length = vs.length ∧ ∀ (i : Nat) (c : V) (v : Value), cs[i]? = some c → vs[i]? = some v → Rep w X φ c v
theorem RW.uncons {X : Nat → Prop} {c : V} {cs : List V} {vs : List Value} (h : RW w X φ (c :: cs) vs) : ∃ v us, vs = v :: us ∧ Rep w X φ c v ∧ RW w X φ cs us := by
  cases vs with
  | nil => cases h.1
  | cons v us => exact ⟨v, us, rfl, h.2 0 c v rfl rfl, by have := h.1; simpa using this, fun i d u g1 g2 => h.2 (i + 1) d u (by simpa using g1) (by simpa using g2)⟩
theorem RW.cons {X : Nat → Prop} {c : V} {v : Value} {cs : List V} {vs : List Value} (h1 : Rep w X φ c v) (h : RW w X φ cs vs) : RW w X φ (c :: cs) (v :: vs) := ⟨by simp [h.1], fun i d u g1 g2 => by
  cases i with
  | zero => simp at g1 g2; subst g1; subst g2; exact h1
  | succ i => exact h.2 i d u (by simpa using g1) (by simpa using g2)⟩
theorem RW.nil {X : Nat → Prop} : RW w X φ [] [] := ⟨rfl, fun i c v h => by cases h⟩
theorem RW.mono {X X' : Nat → Prop} {φ' : Loc} {w' : World} (hr : ∀ c v, Rep w X φ c v → Rep w' X' φ' c v) {cs : List V} {vs : List Value} (h : RW w X φ cs vs) : RW w' X' φ' cs vs := ⟨h.1, fun i c v g1 g2 => hr _ _ (h.2 i c v g1 g2)⟩
theorem grab_all {s : Sh} {cs : List V} {us : List Value} {q : s.D → Heap → Option R} (H : HeapAt B G fr φ h w) (hl : LW w (Excl B φ) φ cs us) (hq : (grabS pr s h cs fun x h l => match l with | [] => q x h | _ => none) = some res) :
    ∃ x h1 B1 φ1 O, q x h1 = some res ∧ HeapAt B1 G fr φ1 h1 w ∧ SR w (Excl B1 φ1) s x us O ∧ Grabbed pr B φ h B1 φ1 h1 O := by
  obtain ⟨x, h1, rest, B1, φ1, us1, ws, O, hq, h2, H1, hl1, hS, g⟩ := grabS_sound H hl hq
  split at hq
  · have : ws = [] := List.eq_nil_of_length_eq_zero hl1.1.symm
    subst this
    rw [List.append_nil] at h2
    subst h2
    exact ⟨x, h1, B1, φ1, O, hq, H1, hS, g⟩
  · cases hq
theorem grabL_sound : ∀ {l : List (Bool × Sh)} {B : Nat → Prop} {φ : Loc} {h : Heap} {cs : List V} {vs : List Value} {q : ShsD l → Heap → Option R}, HeapAt B G fr φ h w → RW w (Excl B φ) φ cs vs → grabL pr l h cs q = some res →
    ∃ x h1 B1 φ1 O, q x h1 = some res ∧ HeapAt B1 G fr φ1 h1 w ∧ LsR w (Excl B1 φ1) l x vs O ∧ Grabbed pr B φ h B1 φ1 h1 O
  | [], B, φ, h, cs, vs, q, H, hv, hq => by
    cases cs with
    | nil =>
      simp only [grabL] at hq
      exact ⟨(), h, B, φ, _, hq, H, ⟨List.eq_nil_of_length_eq_zero hv.1.symm, fun b h => h⟩, Grabbed.refl⟩
    | cons c r => simp only [grabL] at hq; cases hq
  | [s], B, φ, h, cs, vs, q, H, hv, hq => by
    match cs, hv, hq with
    | [c], hv, hq =>
      simp only [grabL] at hq
      split at hq
      · rename_i us' hcs
        obtain ⟨v, ws, rfl, hr, hv⟩ := hv.uncons
        have : ws = [] := List.eq_nil_of_length_eq_zero hv.1.symm
        subst this
        obtain ⟨us, h1, h2⟩ := cellsG_spec hcs hr
        obtain ⟨x, h1', B1, φ1, O, hq, H1, hS, g⟩ := grab_all H h2 hq
        exact ⟨x, h1', B1, φ1, O, hq, H1, ⟨v, us, rfl, h1, hS⟩, g⟩
      · cases hq
    | [], _, hq => simp only [grabL] at hq; cases hq
    | _ :: _ :: _, _, hq => simp only [grabL] at hq; cases hq
  | s :: s' :: r, B, φ, h, cs, vs, q, H, hv, hq => by
    match cs, hv, hq with
    | [], _, hq => simp only [grabL] at hq; cases hq
    | c :: cs, hv, hq =>
      simp only [grabL] at hq
      split at hq
      · rename_i us' hcs
        obtain ⟨v, ws, rfl, hr, hv⟩ := hv.uncons
        obtain ⟨us, h1, h2⟩ := cellsG_spec hcs hr
        obtain ⟨x, h1', B1, φ1, O1, hq, H1, hS, g1⟩ := grab_all (q := fun x h => grabL pr (s' :: r) h cs fun y h => q (x, y) h) H h2 hq
        obtain ⟨y, h2', B2, φ2, O2, hq, H2, hS2, g2⟩ := grabL_sound H1 (RW.mono (fun c v h => (g1.keeps w).rep h) hv) hq
        obtain ⟨g, hd⟩ := g1.trans g2
        exact ⟨(x, y), h2', B2, φ2, _, hq, H2, ⟨v, us, ws, O1, O2, rfl, h1, hS.mono (fun b hb => g2.excl hb), hS2, hd, fun b => Iff.rfl⟩, g⟩
      · cases hq
theorem grabV_sound {o : VS} {c : V} {v : Value} {q : o.D → Heap → Option R} (H : HeapAt B G fr φ h w) (hr : Rep w (Excl B φ) φ c v) (hq : grabV pr o h c q = some res) :
    ∃ x h1 B1 φ1 O, q x h1 = some res ∧ HeapAt B1 G fr φ1 h1 w ∧ VR w (Excl B1 φ1) o x v O ∧ Grabbed pr B φ h B1 φ1 h1 O := by
  cases o with
  | one g s =>
    simp only [grabV] at hq
    split at hq
    · rename_i us' hcs
      obtain ⟨us, h1, h2⟩ := cellsG_spec hcs hr
      obtain ⟨x, h1', B1, φ1, O, hq, H1, hS, g⟩ := grab_all H h2 hq
      exact ⟨x, h1', B1, φ1, O, hq, H1, ⟨us, h1, hS⟩, g⟩
    · cases hq
  | tup l =>
    cases c with
    | tup cs =>
      simp only [grabV] at hq
      obtain ⟨vs, rfl, hl, hv⟩ := rep_tup hr
      obtain ⟨x, h1', B1, φ1, O, hq, H1, hS, g⟩ := grabL_sound H ⟨hl, hv⟩ hq
      exact ⟨x, h1', B1, φ1, O, hq, H1, ⟨vs, rfl, hS⟩, g⟩
    | _ => simp only [grabV] at hq; cases hq
theorem giveL_sound : ∀ {l : List (Bool × Sh)} {B : Nat → Prop} {φ : Loc} {h : Heap} {nx : Nat} {x : ShsD l} {vs : List Value} {O : Nat → Prop} {q : List V → Nat → Heap → Option R}, HeapAt B G (FR U nx) φ h w → (∀ x, U x → x < nx) → LsR w (Excl B φ) l x vs O → (∀ b, O b → B b) → (∀ b o v, G b o v → ¬ O b) → giveL l x nx h q = some res →
    ∃ cs m h' φ', q cs m h' = some res ∧ Gave B φ h nx O m φ' h' ∧ HeapAt (Bar B O) G (FR U m) φ' h' w ∧ RW w (Excl B φ) φ' cs vs
  | [], B, φ, h, nx, x, vs, O, q, H, hU, ⟨hv, hn⟩, hO, hG, hq => by
    subst hv
    simp only [giveL] at hq
    refine ⟨[], nx, h, φ, hq, ⟨Nat.le_refl _, by rw [bar_none hn], fun _ _ => rfl, fun _ _ h => .inl h, fun _ _ h => .inl h, fun _ _ => rfl⟩, by rw [bar_none hn]; exact H, .nil⟩
  | [s], B, φ, h, nx, x, vs, O, q, H, hU, ⟨v, us, hvs, hv, hS⟩, hO, hG, hq => by
    subst hvs
    simp only [giveL] at hq
    obtain ⟨l, m, h', φ', hq, gg, H', hl⟩ := giveS_sound H hU hS hO hG hq
    split at hq
    · rename_i c hc
      exact ⟨[c], m, h', φ', hq, gg, H', .cons (ofCells_spec hv hl hc) .nil⟩
    · cases hq
  | s :: s' :: r, B, φ, h, nx, x, vs, O, q, H, hU, ⟨v, us, vs', O1, O2, hvs, hv, hS, hL, hd, hOO⟩, hO, hG, hq => by
    subst hvs
    simp only [giveL] at hq
    obtain ⟨l, m, h', φ', hq, g1, H', hl⟩ := giveS_sound H hU hS (fun b hb => hO b ((hOO b).2 (.inl hb))) (fun b o v hg hb => hG b o v hg ((hOO b).2 (.inl hb))) hq
    split at hq
    · rename_i c hc
      obtain ⟨cs, m2, h2, φ2, hq, g2, H2, hl2⟩ := giveL_sound H' (fun y hy => Nat.lt_of_lt_of_le (hU y hy) g1.le) (by rw [g1.excl]; exact hL) (fun b hb => ⟨hO b ((hOO b).2 (.inr hb)), fun hb' => hd b hb' hb⟩) (fun b o v hg hb => hG b o v hg ((hOO b).2 (.inr hb))) hq
      rw [bar_bar hOO] at H2
      rw [g1.excl] at hl2
      have K := g2.keeps w
      rw [g1.excl] at K
      exact ⟨c :: cs, m2, h2, φ2, hq, g1.trans g2 hOO, H2, .cons (K.rep (ofCells_spec hv hl hc)) hl2⟩
    · cases hq
theorem giveV_sound {o : VS} {x : o.D} {v : Value} {O : Nat → Prop} {q : V → Nat → Heap → Option R} (H : HeapAt B G (FR U nx) φ h w) (hU : ∀ x, U x → x < nx) (hS : VR w (Excl B φ) o x v O) (hO : ∀ b, O b → B b) (hG : ∀ b o v, G b o v → ¬ O b) (hq : giveV o x nx h q = some res) :
    ∃ c m h' φ', q c m h' = some res ∧ Gave B φ h nx O m φ' h' ∧ HeapAt (Bar B O) G (FR U m) φ' h' w ∧ Rep w (Excl B φ) φ' c v := by
  cases o with
  | one g s =>
    obtain ⟨us, hv, hS⟩ := hS
    simp only [giveV] at hq
    obtain ⟨l, m, h', φ', hq, gg, H', hl⟩ := giveS_sound H hU hS hO hG hq
    split at hq
    · rename_i c hc
      exact ⟨c, m, h', φ', hq, gg, H', ofCells_spec hv hl hc⟩
    · cases hq
  | tup l =>
    obtain ⟨vs, rfl, hS⟩ := hS
    simp only [giveV] at hq
    obtain ⟨cs, m, h', φ', hq, gg, H', hl⟩ := giveL_sound H hU hS hO hG hq
    exact ⟨_, m, h', φ', hq, gg, H', .tup cs vs hl.1 hl.2⟩
theorem grabBox_sound {s : Sh} {y : Nat} {cs : List V} {q : s.D → Heap → Option R} (H : HeapAt B G fr φ h w) (hs : h.get y = some (.box cs)) (hpr : pr y = false) {h0 : Heap} (hp : Put h y none h0) (hq : (grabS pr s h0 cs fun x h l => match l with | [] => q x h | _ => none) = some res) :
    ∃ x h1 B1 φ1 O b, q x h1 = some res ∧ HeapAt B1 G fr φ1 h1 w ∧ φ (y, 0) = .blk b ∧ BoxR w (Excl B1 φ1) s x b O ∧ ¬ O b ∧ B1 b ∧ Grabbed pr B φ h B1 φ1 h1 fun c => c = b ∨ O c := by
  have hw : Without h [y] h0 := without1 hp
  have hpn : ∀ n ∈ [y], pr n = false := fun n hn => by simp only [List.mem_singleton] at hn; subst hn; exact hpr
  obtain ⟨b, vs, t, z, hb, hh, hop, hle, hv⟩ := H.st y _ hs
  have H0 := H.lend (okns_top H hs) hw
  have g0 := grabbed_lend (O := fun c => c = b) H hpn hw (fun c hc => ⟨(y, 0), by simp, by rw [hb, hc]; rfl⟩)
  have hl1 : LW w (Excl B φ) φ cs (vs.toList.take cs.length) := by
    refine ⟨by simp; omega, fun i c u h3 h4 => ?_⟩
    have hi : i < cs.length := (List.getElem?_eq_some_iff.1 h3).1
    rw [List.getElem?_take, if_pos hi] at h4
    exact hv i c u h3 (by simpa using h4)
  obtain ⟨x, h1, B1, φ1, O, hq, H1, hS, g⟩ := grab_all H0 (g0.lw hl1) hq
  obtain ⟨gg, hd⟩ := g0.trans g
  refine ⟨x, h1, B1, φ1, O, b, hq, H1, hb, ⟨vs, t, z, _, hh, hop, by simp; omega, fun i u hi => ?_, hS⟩, fun hO => hd b rfl hO, gg.own b (.inl rfl) |>.1, gg⟩
  rw [List.getElem?_take] at hi
  split at hi
  · simpa using hi
  · cases hi
theorem grabM_sound : ∀ {l : List Sh} {B : Nat → Prop} {φ : Loc} {h : Heap} {ys : List Nat} {q : ShL l → Option R}, HeapAt B G fr φ h w → grabM l ys h q = some res →
    ∃ x h1 B1 φ1 O bs, q x = some res ∧ HeapAt B1 G fr φ1 h1 w ∧ MutR w (Excl B1 φ1) l x bs O ∧ Pairs (fun y b => φ (y, 0) = .blk b) ys bs ∧ (∀ b ∈ bs, ¬ O b) ∧ Grabbed noK B φ h B1 φ1 h1 fun c => c ∈ bs ∨ O c
  | [], B, φ, h, ys, q, H, hq => by
    cases ys with
    | nil =>
      simp only [grabM] at hq
      exact ⟨(), h, B, φ, fun _ => False, [], hq, H, ⟨rfl, fun b h => h⟩, .nil, by simp, Grabbed.refl.iff fun b hb => (by simp at hb)⟩
    | cons y r => simp only [grabM] at hq; cases hq
  | [s], B, φ, h, ys, q, H, hq => by
    match ys, hq with
    | [y], hq =>
      simp only [grabM] at hq
      split at hq
      · rename_i cs hs
        obtain ⟨h0, hp, hq⟩ := T.putK_spec hq
        obtain ⟨x, h1, B1, φ1, O, b, hq, H1, hb, hB, hn, _, g⟩ := grabBox_sound (pr := noK) (q := fun x _ => q x) H hs rfl hp hq
        exact ⟨x, h1, B1, φ1, O, [b], hq, H1, ⟨b, rfl, hB⟩, .cons hb .nil, by simpa using hn, g.iff fun c hc => by simpa using hc⟩
      · cases hq
    | [], hq => simp only [grabM] at hq; cases hq
    | _ :: _ :: _, hq => simp only [grabM] at hq; cases hq
  | s :: s' :: r, B, φ, h, ys, q, H, hq => by
    match ys, hq with
    | [], hq => simp only [grabM] at hq; cases hq
    | y :: ys, hq =>
      simp only [grabM] at hq
      split at hq
      · rename_i cs hs
        obtain ⟨h0, hp, hq⟩ := T.putK_spec hq
        obtain ⟨x, h1, B1, φ1, O1, b, hq, H1, hb, hB, hn, hB1, g1⟩ := grabBox_sound (pr := noK) (q := fun x h => grabM (s' :: r) ys h fun m => q (x, m)) H hs rfl hp hq
        obtain ⟨m, h2, B2, φ2, O2, bs, hq, H2, hM, hF, hn2, g2⟩ := grabM_sound H1 hq
        obtain ⟨g, hd⟩ := g1.trans g2
        refine ⟨(x, m), h2, B2, φ2, fun c => O1 c ∨ O2 c, b :: bs, hq, H2, ⟨b, bs, O1, O2, rfl, hB.mono (fun c hc => g2.excl hc), hM, fun c h3 h4 => hd c (.inr h3) (.inr h4), fun c => Iff.rfl⟩, .cons hb (hF.imp fun y b hy => ?_), fun c hc => ?_, g.iff fun c hc => ?_⟩
        · rcases g1.old (y, 0) with h3 | ⟨h3, _⟩
          · rw [← h3]; exact hy
          · rw [h3] at hy; cases hy
        · rcases List.mem_cons.1 hc with rfl | hc
          · rintro (h3 | h3)
            · exact hn h3
            · exact hd c (.inl rfl) (.inr h3)
          · rintro (h3 | h3)
            · exact hd c (.inr h3) (.inl hc)
            · exact hn2 c hc h3
        · rcases hc with hc | hc | hc
          · rcases List.mem_cons.1 hc with hc | hc
            · exact .inl (.inl hc)
            · exact .inr (.inl hc)
          · exact .inl (.inr hc)
          · exact .inr (.inr hc)
      · cases hq
theorem giveBox_sound {s : Sh} {x : s.D} {y b : Nat} {O : Nat → Prop} {q : Nat → Heap → Option R} (H : HeapAt B G (FR U nx) φ h w) (hU : ∀ x, U x → x < nx) (hy : φ (y, 0) = .blk b) (hyn : y < nx) (hct : ∀ z, famOf (h.get z) ≠ some y) (hS : BoxR w (Excl B φ) s x b O) (hO : ∀ b, O b → B b) (hG : ∀ b o v, G b o v → ¬ O b)
    (hq : (giveS s x nx h fun cs nx h => forceBlk (.box cs) fun b => T.putK (some b) deep h y fun h => q nx h) = some res) : ∃ m h' φ', q m h' = some res ∧ Gave B φ h nx O m φ' h' ∧ HeapAt (Bar B O) G (FR U m) φ' h' w := by
  obtain ⟨cs, t, z, us, hh, hop, hle, hcs, hS⟩ := hS
  obtain ⟨l, m, h', φ', hq, gg, H', hl⟩ := giveS_sound H hU hS hO hG hq
  simp only [forceBlk_eq] at hq
  obtain ⟨h2, hp, hq⟩ := T.putK_spec hq
  have hφ : φ' (y, 0) = .blk b := by rw [gg.old _ (by rw [hy]; nofun)]; exact hy
  have H2 := H'.add (x := y) (k := .box l) ⟨b, cs, t, z, hφ, hh, hop, by rw [hl.1]; exact hle, fun i c v h3 h4 => by
      have hi : i < us.length := by rw [← hl.1]; exact (List.getElem?_eq_some_iff.1 h3).1
      have h5 : us[i]? = some us[i] := by simp [hi]
      have h6 := hcs i _ h5
      rw [h4] at h6
      injection h6 with h6
      have := hl.2 i c _ h3 h5
      rw [← h6] at this
      rw [gg.excl]
      exact this⟩ rfl (fun z hz => by
      rcases gg.fam z y hz with h3 | h3
      · exact hct z h3
      · omega) hp
  have g2 : Gave B φ h nx O m φ' h2 := { gg with
    fam := fun z g hz => by
      rw [hp z] at hz
      split at hz
      · cases hz
      · exact gg.fam z g hz }
  exact ⟨m, h2, φ', hq, g2, H2⟩
theorem giveM_sound : ∀ {l : List Sh} {B : Nat → Prop} {φ : Loc} {h : Heap} {nx : Nat} {x : ShL l} {ys bs : List Nat} {O : Nat → Prop} {q : Nat → Heap → Option R}, HeapAt B G (FR U nx) φ h w → (∀ x, U x → x < nx) → Pairs (fun y b => φ (y, 0) = .blk b ∧ y < nx ∧ ∀ z, famOf (h.get z) ≠ some y) ys bs → MutR w (Excl B φ) l x bs O → (∀ b, O b → B b) → (∀ b o v, G b o v → ¬ O b) →
    giveM l x ys nx h q = some res → ∃ m h' φ', q m h' = some res ∧ Gave B φ h nx O m φ' h' ∧ HeapAt (Bar B O) G (FR U m) φ' h' w
  | [], B, φ, h, nx, x, ys, bs, O, q, H, hU, hP, ⟨hb, hn⟩, hO, hG, hq => by
    subst hb
    cases hP
    simp only [giveM] at hq
    exact ⟨nx, h, φ, hq, ⟨Nat.le_refl _, by rw [bar_none hn], fun _ _ => rfl, fun _ _ h => .inl h, fun _ _ h => .inl h, fun _ _ => rfl⟩, by rw [bar_none hn]; exact H⟩
  | [s], B, φ, h, nx, x, ys, bs, O, q, H, hU, hP, ⟨b, hb, hS⟩, hO, hG, hq => by
    subst hb
    cases hP with
    | cons hy ht =>
      cases ht
      simp only [giveM] at hq
      exact giveBox_sound H hU hy.1 hy.2.1 hy.2.2 hS hO hG hq
  | s :: s' :: r, B, φ, h, nx, x, ys, bs, O, q, H, hU, hP, ⟨b, bs', O1, O2, hb, hS, hM, hd, hOO⟩, hO, hG, hq => by
    subst hb
    cases hP with
    | cons hy ht =>
      simp only [giveM] at hq
      obtain ⟨m, h1, φ1, hq, g1, H1⟩ := giveBox_sound (q := fun nx h => giveM (s' :: r) x.2 _ nx h q) H hU hy.1 hy.2.1 hy.2.2 hS (fun b hb => hO b ((hOO b).2 (.inl hb))) (fun b o v hg hb => hG b o v hg ((hOO b).2 (.inl hb))) hq
      obtain ⟨m2, h2, φ2, hq, g2, H2⟩ := giveM_sound H1 (fun y hy => Nat.lt_of_lt_of_le (hU y hy) g1.le) (ht.imp fun y b ⟨k1, k2, k3⟩ => ⟨by rw [g1.old _ (by rw [k1]; nofun)]; exact k1, Nat.lt_of_lt_of_le k2 g1.le, fun z hz => by
        rcases g1.fam z y hz with h5 | h5
        · exact k3 z h5
        · omega⟩) (by rw [g1.excl]; exact hM) (fun b hb => ⟨hO b ((hOO b).2 (.inr hb)), fun hb' => hd b hb' hb⟩) (fun b o v hg hb => hG b o v hg ((hOO b).2 (.inr hb))) hq
      rw [bar_bar hOO] at H2
      exact ⟨m2, h2, φ2, hq, g1.trans g2 hOO, H2⟩
def LentTo (φ : Loc) (y b : Nat) : Prop := φ (y, 0) ≠ .free ∧ ∀ b', φ (y, 0) = .blk b' → b' = b
theorem giveA1_sound {ar : Arg} {x : ar.D} {v : Value} {Tt : Nat → Prop} {bs : List Nat} {q : V → List Nat → Nat → Heap → Option R} (H : HeapAt B G (FR U nx) φ h w) (hU : ∀ x, U x → x < nx) (hS : ArgR w (Excl B φ) ar x v Tt bs) (hO : ∀ b, Tt b → B b) (hG : ∀ b o v, G b o v → ¬ Tt b) (hq : giveA1 ar x nx h q = some res) :
    ∃ c ms m h' φ', q c ms m h' = some res ∧ Gave B φ h nx Tt m φ' h' ∧ HeapAt (Bar B Tt) G (FR U m) φ' h' w ∧ Rep w (Excl B φ) φ' c v ∧ Pairs (LentTo φ') ms bs := by
  cases ar with
  | val g t =>
    obtain ⟨us, hv, hrt, hn, rfl⟩ := hS
    simp only [giveA1] at hq
    split at hq
    · rename_i c hc
      exact ⟨c, [], nx, h, φ, hq, ⟨Nat.le_refl _, by rw [bar_none hn], fun _ _ => rfl, fun _ _ h => .inl h, fun _ _ h => .inl h, fun _ _ => rfl⟩, by rw [bar_none hn]; exact H, ofCells_spec hv (RT.cells hrt) hc, .nil⟩
    · cases hq
  | «mut» s =>
    obtain ⟨b, O', rfl, ⟨cs, t, z, us, hh, hop, hle, hcs, hS⟩, hnb, rfl, hT⟩ := hS
    have hbox : SR w (Excl B φ) (.box s) x [.pointer (some ⟨b, 0, none⟩)] Tt := ⟨b, cs, t, z, us, O', rfl, hh, hop, hle, hcs, hS, hnb, hT⟩
    have hq' : giveS (.box s) x nx h (fun l m h => match l with | [.ptr y 0] => q (.ptr y 0) [y] m h | _ => none) = some res := by
      simp only [giveA1] at hq
      simp only [giveS]
      exact hq
    obtain ⟨l, m, h', φ', hq, gg, H', hl⟩ := giveS_sound H hU hbox hO hG hq'
    split at hq
    · rename_i y
      have hr := (hl.2 0 _ _ rfl rfl).1
      obtain ⟨_, h1, h2⟩ := rep_ptr hr
      refine ⟨_, [y], m, h', φ', hq, gg, H', hr, .cons ⟨h1, fun b' hb' => ?_⟩ .nil⟩
      have := h2 b' hb'
      injection this with this
      injection this with this
      injection this with this
      exact this.symm
    · cases hq
theorem Pairs.append {Q : Nat → Nat → Prop} {l l' m m' : List Nat} (h : Pairs Q l m) (k : Pairs Q l' m') : Pairs Q (l ++ l') (m ++ m') := by
  induction h with
  | nil => exact k
  | cons h _ ih => exact .cons h ih
theorem giveArgs_sound : ∀ {ins : List Arg} {B : Nat → Prop} {φ : Loc} {h : Heap} {nx : Nat} {x : ArgsD ins} {vs : List Value} {Tt : Nat → Prop} {bs : List Nat} {q : List V → List Nat → Nat → Heap → Option R}, HeapAt B G (FR U nx) φ h w → (∀ x, U x → x < nx) → ArgsR w (Excl B φ) ins x vs Tt bs → (∀ b, Tt b → B b) → (∀ b o v, G b o v → ¬ Tt b) → giveArgs ins x nx h q = some res →
    ∃ cs ms m h' φ', q cs ms m h' = some res ∧ Gave B φ h nx Tt m φ' h' ∧ HeapAt (Bar B Tt) G (FR U m) φ' h' w ∧ RW w (Excl B φ) φ' cs vs ∧ Pairs (LentTo φ') ms bs
  | [], B, φ, h, nx, x, vs, Tt, bs, q, H, hU, ⟨hv, hn, hb⟩, hO, hG, hq => by
    subst hv
    subst hb
    simp only [giveArgs] at hq
    exact ⟨[], [], nx, h, φ, hq, ⟨Nat.le_refl _, by rw [bar_none hn], fun _ _ => rfl, fun _ _ h => .inl h, fun _ _ h => .inl h, fun _ _ => rfl⟩, by rw [bar_none hn]; exact H, .nil, .nil⟩
  | [a], B, φ, h, nx, x, vs, Tt, bs, q, H, hU, ⟨v, hv, hS⟩, hO, hG, hq => by
    subst hv
    simp only [giveArgs] at hq
    obtain ⟨c, ms, m, h', φ', hq, gg, H', hr, hP⟩ := giveA1_sound (q := fun c ms nx h => q [c] ms nx h) H hU hS hO hG hq
    exact ⟨[c], ms, m, h', φ', hq, gg, H', .cons hr .nil, hP⟩
  | a :: a' :: r, B, φ, h, nx, x, vs, Tt, bs, q, H, hU, ⟨v, vs', T1, T2, bs1, bs2, hv, hb, hS, hL, hd, hTT⟩, hO, hG, hq => by
    subst hv
    subst hb
    simp only [giveArgs] at hq
    obtain ⟨c, ms, m, h1, φ1, hq, g1, H1, hr, hP⟩ := giveA1_sound (q := fun c ms nx h => giveArgs (a' :: r) x.2 nx h fun cs ms' nx h => q (c :: cs) (ms ++ ms') nx h) H hU hS (fun b hb => hO b ((hTT b).2 (.inl hb))) (fun b o v hg hb => hG b o v hg ((hTT b).2 (.inl hb))) hq
    obtain ⟨cs, ms', m2, h2, φ2, hq, g2, H2, hr2, hP2⟩ := giveArgs_sound H1 (fun y hy => Nat.lt_of_lt_of_le (hU y hy) g1.le) (by rw [g1.excl]; exact hL) (fun b hb => ⟨hO b ((hTT b).2 (.inr hb)), fun hb' => hd b hb' hb⟩) (fun b o v hg hb => hG b o v hg ((hTT b).2 (.inr hb))) hq
    rw [bar_bar hTT] at H2
    have K := g2.keeps w
    rw [g1.excl] at K hr2
    exact ⟨c :: cs, ms ++ ms', m2, h2, φ2, hq, g1.trans g2 hTT, H2, .cons (K.rep hr) hr2, (hP.imp fun y b ⟨k1, k2⟩ => ⟨by rw [g2.old _ k1]; exact k1, fun b' hb' => k2 b' (by rw [← g2.old _ k1]; exact hb')⟩).append hP2⟩
end
end Go.TM
namespace Go.TM
open Go.RowKit
section
variable {P : Program} {N : Nat} {B : Nat → Prop} {G : Nat → Nat → Value → Prop} {fr U : Nat → Prop} {φ : Loc} {a : Act} {w : World} {e : T V} {h : Heap} {nx : Nat} {pr ks : Nat → Bool} {R : Type} {res : R}
theorem Grabbed.weak {pr' : Nat → Bool} (hp : ∀ x, pr x = true → pr' x = true) {B1 : Nat → Prop} {φ1 : Loc} {h1 : Heap} {O : Nat → Prop} (g : Grabbed pr' B φ h B1 φ1 h1 O) : Grabbed pr B φ h B1 φ1 h1 O := by
  have hn : ∀ {x}, pr' x = false → pr x = false := fun {x} hx => by
    cases hh : pr x with
    | false => rfl
    | true => rw [hp x hh] at hx; cases hx
  exact ⟨g.sub, fun b hb => (g.own b hb).imp id fun h => h.imp id fun ⟨n, h1, h2⟩ => ⟨n, h1, hn h2⟩, fun n => (g.old n).imp id fun ⟨h1, h2, h3⟩ => ⟨h1, h2, hn h3⟩, fun b hb => (g.b1 b hb).imp id fun ⟨n, h1, h2⟩ => ⟨n, h1, hn h2⟩, g.hs⟩
def LendBy (pr : Nat → Bool) (φ : Loc) (h : Heap) (y b : Nat) : Prop := φ (y, 0) = .blk b ∧ pr y = false ∧ ∃ cs, h.get y = some (.box cs)
theorem grabA1_sound {ar : Arg} {c : V} {v : Value} {q : ar.D → List Nat → List Nat → Heap → Option R} (H : HeapAt B G fr φ h w) (hr : Rep w (Excl B φ) φ c v) (hq : grabA1 pr h ar c q = some res) :
    ∃ x ms ns h1 B1 φ1 Tt bs, q x ms ns h1 = some res ∧ HeapAt B1 G fr φ1 h1 w ∧ ArgR w (Wo B1 φ1 ns) ar x v Tt bs ∧ Grabbed pr B φ h B1 φ1 h1 Tt ∧ OkNs h1 ns ∧ Pairs (LendBy pr φ h) ms bs ∧ ∀ b ∈ bs, Tt b := by
  cases ar with
  | val g t =>
    simp only [grabA1] at hq
    split at hq
    · rename_i us' hcs
      obtain ⟨us, hv, hl⟩ := cellsG_spec hcs hr
      split at hq
      · rename_i p x ns hg
        obtain ⟨hp0, hq2⟩ := need_some hq
        clear hq
        subst hp0
        obtain ⟨hrt, hok⟩ := grabT_all H hg hl
        exact ⟨x, [], ns, h, B, φ, fun _ => False, [], hq2, H, ⟨us, hv, hrt, fun b h => h, rfl⟩, Grabbed.refl, hok, .nil, by simp⟩
      · cases hq
    · cases hq
  | «mut» s =>
    cases c with
    | ptr y off =>
      cases off with
      | zero =>
        simp only [grabA1] at hq
        split at hq
        · rename_i cs hs hpr
          obtain ⟨h0, hp, hq⟩ := T.putK_spec hq
          obtain ⟨x, h1, B1, φ1, O, b, hq, H1, hb, hB, hn, hB1, g⟩ := grabBox_sound (q := fun x h => q x [y] [] h) H hs hpr hp hq
          refine ⟨x, [y], [], h1, B1, φ1, _, [b], hq, H1, ⟨b, O, (rep_ptr hr).2.2 b hb, hB.mono (fun c hc => ?_), hn, rfl, fun c => Iff.rfl⟩, g, fun n hn => by simp at hn, .cons ⟨hb, hpr, cs, hs⟩ .nil, fun b' hb' => ?_⟩
          · rw [wo_nil] at hc; exact hc
          · simp only [List.mem_singleton] at hb'; exact .inl hb'
        · cases hq
      | succ n => simp only [grabA1] at hq; cases hq
    | _ => simp only [grabA1] at hq; cases hq
theorem pushPr_iff {ns : List Nat} {x : Nat} : pushPr pr ns x = true ↔ x ∈ ns ∨ pr x = true := by
  unfold pushPr
  split
  · rename_i h; simp [memN_iff.1 h]
  · rename_i h; simp [memN_not h]
theorem grabArgs_sound : ∀ {ins : List Arg} {pr : Nat → Bool} {B : Nat → Prop} {φ : Loc} {h : Heap} {cs : List V} {vs : List Value} {q : ArgsD ins → List Nat → List Nat → Heap → Option R}, HeapAt B G fr φ h w → RW w (Excl B φ) φ cs vs → grabArgs pr h ins cs q = some res →
    ∃ x ms ns h1 B1 φ1 Tt bs, q x ms ns h1 = some res ∧ HeapAt B1 G fr φ1 h1 w ∧ ArgsR w (Wo B1 φ1 ns) ins x vs Tt bs ∧ Grabbed pr B φ h B1 φ1 h1 Tt ∧ OkNs h1 ns ∧ Pairs (LendBy pr φ h) ms bs ∧ ∀ b ∈ bs, Tt b
  | [], pr, B, φ, h, cs, vs, q, H, hv, hq => by
    cases cs with
    | nil =>
      simp only [grabArgs] at hq
      exact ⟨(), [], [], h, B, φ, fun _ => False, [], hq, H, ⟨List.eq_nil_of_length_eq_zero hv.1.symm, fun b h => h, rfl⟩, Grabbed.refl, fun n hn => by simp at hn, .nil, by simp⟩
    | cons c r => simp only [grabArgs] at hq; cases hq
  | [a], pr, B, φ, h, cs, vs, q, H, hv, hq => by
    match cs, hv, hq with
    | [c], hv, hq =>
      simp only [grabArgs] at hq
      obtain ⟨v, ws, hvs, hr, hv⟩ := hv.uncons
      have : ws = [] := List.eq_nil_of_length_eq_zero hv.1.symm
      subst this
      obtain ⟨x, ms, ns, h1, B1, φ1, Tt, bs, k1, k2, k3, k4⟩ := grabA1_sound H hr hq
      exact ⟨x, ms, ns, h1, B1, φ1, Tt, bs, k1, k2, ⟨v, hvs, k3⟩, k4⟩
    | [], _, hq => simp only [grabArgs] at hq; cases hq
    | _ :: _ :: _, _, hq => simp only [grabArgs] at hq; cases hq
  | a :: a' :: r, pr, B, φ, h, cs, vs, q, H, hv, hq => by
    match cs, hv, hq with
    | [], _, hq => simp only [grabArgs] at hq; cases hq
    | c :: cs, hv, hq =>
      simp only [grabArgs] at hq
      obtain ⟨v, ws, hvs, hr, hv⟩ := hv.uncons
      obtain ⟨x, ms, ns, h1, B1, φ1, T1, bs1, hq, H1, hA, g1, hok1, hP1, hT1⟩ := grabA1_sound H hr hq
      obtain ⟨y, ms', ns', h2, B2, φ2, T2, bs2, hq, H2, hL, g2', hok2, hP2, hT2⟩ := grabArgs_sound H1 (RW.mono (fun c v h => (g1.keeps w).rep h) hv) hq
      have g2 := g2'.weak (pr := pr) fun x hx => pushPr_iff.2 (.inr hx)
      obtain ⟨g, hd⟩ := g1.trans g2
      have hP2' : Pairs (LendBy pr φ h) ms' bs2 := hP2.imp fun y b hk => by
        obtain ⟨k1, k2, cs, k3⟩ := hk
        refine ⟨?_, ?_, cs, g1.hs y _ k3⟩
        · rcases g1.old (y, 0) with h3 | ⟨h3, _⟩
          · rw [← h3]; exact k1
          · rw [h3] at k1; cases k1
        · cases hh : pr y with
          | false => rfl
          | true => rw [pushPr_iff.2 (.inr hh)] at k2; cases k2
      refine ⟨(x, y), ms ++ ms', ns ++ ns', h2, B2, φ2, fun b => T1 b ∨ T2 b, bs1 ++ bs2, hq, H2, ⟨v, ws, T1, T2, bs1, bs2, hvs, rfl, hA.mono (fun b hb => ?_), hL.mono (fun b hb => wo_mono (fun n hn => List.mem_append.2 (.inr hn)) hb), hd, fun b => Iff.rfl⟩, g, fun n hn z hz => ?_, hP1.append hP2', fun b hb => ?_⟩
      · rcases hb with hb | ⟨n, hb, hn⟩
        · rcases g2'.b1 b hb with h3 | ⟨n, h3, h4⟩
          · exact .inl h3
          · refine .inr ⟨n, h3, fun hn => ?_⟩
            rw [pushPr_iff.2 (.inl hn)] at h4; cases h4
        · exact .inr ⟨n, g2.alive hb, fun h => hn (List.mem_append.2 (.inl h))⟩
      · rcases List.mem_append.1 hn with hn | hn
        · refine List.mem_append.2 (.inl (hok1 n hn z ?_))
          cases hk : h2.get z with
          | none => rw [hk] at hz; cases hz
          | some k => rw [g2.hs z k hk]; rw [hk] at hz; exact hz
        · exact List.mem_append.2 (.inr (hok2 n hn z hz))
      · rcases List.mem_append.1 hb with hb | hb
        · exact .inl (hT1 b hb)
        · exact .inr (hT2 b hb)
theorem flat_and {a b : Bool} (h : (a && b) = true) : a = true ∧ b = true := by rwa [Bool.and_eq_true] at h
theorem RT.flat {X X' : Nat → Prop} : ∀ {t : TC} {x : t.D} {vs : List Value}, t.flat = true → RT w X t x vs → RT w X' t x vs
  | .int _, _, _, _, h => h
  | .bool, _, _, _, h => h
  | .str, _, _, _, h => h
  | .unit, _, _, _, h => h
  | .opq, _, _, hf, _ => by cases hf
  | .sl _, _, _, hf, _ => by cases hf
  | .pt _, _, _, hf, _ => by cases hf
  | .pair a b, _, _, hf, ⟨us, ws, h1, h2, h3⟩ => ⟨us, ws, h1, RT.flat (flat_and hf).1 h2, RT.flat (flat_and hf).2 h3⟩
theorem SR.flat {X X' : Nat → Prop} : ∀ {s : Sh} {x : s.D} {vs : List Value} {O : Nat → Prop}, s.flat = true → SR w X s x vs O → SR w X' s x vs O
  | .v t, _, _, _, hf, ⟨h1, h2⟩ => ⟨RT.flat hf h1, h2⟩
  | .own e, _, _, _, hf, ⟨v, l, h1, h2, h3, h4⟩ => ⟨v, l, h1, h2, RowAt.same (fun _ _ => rfl) (fun j us _ h x hx => RT.flat hf (h x hx)) h3, h4⟩
  | .fam .chan, _, _, _, _, ⟨v, h1, l, Ls, h2, h3, h4, h5⟩ => ⟨v, h1, l, Ls, h2, h3, h4, h5⟩
  | .fam (.row _), _, _, _, hf, _ => by cases hf
  | .box s, _, _, _, hf, ⟨b, cs, t, z, us, O', h1, h2, h3, h4, h5, h6, h7⟩ => ⟨b, cs, t, z, us, O', h1, h2, h3, h4, h5, h6.flat hf, h7⟩
  | .chan, _, _, _, _, h => h
  | .map m, _, _, _, hf, ⟨b, mes, clock, h1, h2, h3, h4⟩ => ⟨b, mes, clock, h1, h2, ⟨⟨h3.1.1, fun i d e g1 g2 => ⟨(h3.1.2 i d e g1 g2).1, RT.flat hf (h3.1.2 i d e g1 g2).2⟩⟩, h3.2⟩, h4⟩
  | .iter _, _, _, _, hf, _ => by cases hf
  | .unit, _, _, _, _, h => h
  | .pair a b, _, _, _, hf, ⟨us, ws, O1, O2, h1, h2, h3, h4⟩ => ⟨us, ws, O1, O2, h1, h2.flat (flat_and hf).1, h3.flat (flat_and hf).2, h4⟩
theorem LsR.flat {X X' : Nat → Prop} : ∀ {l : List (Bool × Sh)} {x : ShsD l} {vs : List Value} {O : Nat → Prop}, (l.all fun s => s.2.flat) = true → LsR w X l x vs O → LsR w X' l x vs O
  | [], _, _, _, _, h => h
  | [s], _, _, _, hf, ⟨v, us, h1, h2, h3⟩ => ⟨v, us, h1, h2, h3.flat (by simpa using hf)⟩
  | s :: s' :: r, _, _, _, hf, ⟨v, us, vs', O1, O2, h1, h2, h3, h4, h5⟩ => by
    rw [List.all_cons, Bool.and_eq_true] at hf
    exact ⟨v, us, vs', O1, O2, h1, h2, h3.flat hf.1, h4.flat hf.2, h5⟩
theorem VR.flat {X X' : Nat → Prop} : ∀ {o : VS} {x : o.D} {v : Value} {O : Nat → Prop}, o.flat = true → VR w X o x v O → VR w X' o x v O
  | .one g s, _, _, _, hf, ⟨us, h1, h2⟩ => ⟨us, h1, h2.flat hf⟩
  | .tup l, _, _, _, hf, ⟨vs, h1, h2⟩ => ⟨vs, h1, h2.flat hf⟩
theorem BoxR.flat {X X' : Nat → Prop} {s : Sh} {x : s.D} {b : Nat} {O : Nat → Prop} (hf : s.flat = true) : BoxR w X s x b O → BoxR w X' s x b O
  | ⟨cs, t, z, us, h1, h2, h3, h4, h5⟩ => ⟨cs, t, z, us, h1, h2, h3, h4, h5.flat hf⟩
theorem MutR.flat {X X' : Nat → Prop} : ∀ {l : List Sh} {x : ShL l} {bs : List Nat} {O : Nat → Prop}, (l.all Sh.flat) = true → MutR w X l x bs O → MutR w X' l x bs O
  | [], _, _, _, _, h => h
  | [s], _, _, _, hf, ⟨b, h1, h2⟩ => ⟨b, h1, h2.flat (by simpa using hf)⟩
  | s :: s' :: r, _, _, _, hf, ⟨b, bs', O1, O2, h1, h2, h3, h4⟩ => by
    rw [List.all_cons, Bool.and_eq_true] at hf
    exact ⟨b, bs', O1, O2, h1, h2.flat hf.1, h3.flat hf.2, h4⟩
def GAt (G : Nat → Nat → Value → Prop) (w : World) : Prop := ∀ b o v, G b o v → b < w.heap.size ∧ w.cell? ⟨b, o, none⟩ = some v
def ContractAt (P : Program) (G : Nat → Nat → Value → Prop) (k : Nat) (ins : List Arg) (out : VS) (x : ArgsD ins) (r : out.D) (m : ShL (mutsOf ins)) : Prop :=
  ∀ (w : World) (X : Nat → Prop) (vals : List Value) (Tt : Nat → Prop) (bs : List Nat), (∀ b, X b → b < w.heap.size) → (∀ b, Tt b → X b) → GAt G w → (∀ b o v, G b o v → ¬ Tt b) → ArgsR w X ins x vals Tt bs →
    Calls P k vals.toArray w fun e w' => ∃ v Ov Om, e = .returned v ∧ w.heap.size ≤ w'.heap.size ∧ w'.os = w.os ∧ w'.tape = w.tape ∧ w'.output = w.output ∧ (∀ b, b < w.heap.size → ¬ Tt b → w'.heap[b]? = w.heap[b]?) ∧ GAt G w' ∧
      VR w' (fun b => (X b ∧ ¬ Tt b) ∨ Ov b ∨ Om b ∨ b ∈ bs) out r v Ov ∧ MutR w' (fun b => (X b ∧ ¬ Tt b) ∨ Ov b ∨ Om b ∨ b ∈ bs) (mutsOf ins) m bs Om ∧ Disj Ov Om ∧ ∀ b, Ov b ∨ Om b → ((Tt b ∧ b ∉ bs) ∨ w.heap.size ≤ b) ∧ b < w'.heap.size
def FnAt (P : Program) (g : Nat) : Prop := ∃ fn, P.funcs[g]? = some fn ∧ (fn.name == "runtime.NumGoroutine") = false ∧ fn.body.isNone = false
def FunOk (P : Program) (G : Nat → Nat → Value → Prop) : Fun → Prop
  | .p k ins out f => FnAt P k ∧ ∀ x r, f x = some r → ∀ m, ContractAt P G k ins out x r m
  | .m k ins out f => FnAt P k ∧ ∀ x r, f x = some r → ContractAt P G k ins out x r.1 r.2
theorem pairs_mem {Q : Nat → Nat → Prop} {l m : List Nat} (h : Pairs Q l m) : (∀ a ∈ l, ∃ b ∈ m, Q a b) ∧ ∀ b ∈ m, ∃ a ∈ l, Q a b := by
  induction h with
  | nil => exact ⟨by simp, by simp⟩
  | cons h _ ih =>
    refine ⟨fun a ha => ?_, fun b hb => ?_⟩
    · rcases List.mem_cons.1 ha with rfl | ha
      · exact ⟨_, by simp, h⟩
      · obtain ⟨b, h1, h2⟩ := ih.1 a ha; exact ⟨b, by simp [h1], h2⟩
    · rcases List.mem_cons.1 hb with rfl | hb
      · exact ⟨_, by simp, h⟩
      · obtain ⟨a, h1, h2⟩ := ih.2 b hb; exact ⟨a, by simp [h1], h2⟩
theorem HeapAt.after (H : HeapAt B G fr φ h w) {B1 : Nat → Prop} {φ1 : Loc} {h1 : Heap} {Tt : Nat → Prop} (H1 : HeapAt B1 G fr φ1 h1 w) (g : Grabbed pr B φ h B1 φ1 h1 Tt) {ms bs : List Nat} (hP : Pairs (LendBy pr φ h) ms bs) (hbs : ∀ b ∈ bs, Tt b)
    {w' : World} (hs : w.heap.size ≤ w'.heap.size) (ho : w'.os = w.os) (ht : w'.tape = w.tape) (hu : w'.output = w.output) (hb : ∀ b, b < w.heap.size → ¬ Tt b → w'.heap[b]? = w.heap[b]?) (hG : GAt G w') {Ob : Nat → Prop} (hOb : ∀ b, Ob b → ((Tt b ∧ b ∉ bs) ∨ w.heap.size ≤ b) ∧ b < w'.heap.size) :
    ∃ φ0, HeapAt (fun b => B b ∨ Ob b) G fr φ0 h1 w' ∧ Fwd pr φ w φ0 w' ∧ (∀ b, Excl (fun b => B b ∨ Ob b) φ0 b → (Excl B1 φ1 b ∧ ¬ Tt b) ∨ Ob b ∨ b ∈ bs) ∧ (∀ y ∈ ms, φ0 (y, 0) = φ (y, 0)) ∧ ∀ b, Ob b → ¬ B b ∧ ∀ o v, ¬ G b o v := by
  classical
  let φ0 : Loc := fun n => if n.2 = 0 ∧ n.1 ∈ ms then φ n else φ1 n
  have f1 : ∀ n, φ0 n = φ n ∨ (φ0 n = .dead ∧ φ n ≠ .free ∧ pr n.1 = false) := fun n => by
    by_cases hn : n.2 = 0 ∧ n.1 ∈ ms
    · exact .inl (by simp [φ0, hn])
    · have e0 : φ0 n = φ1 n := by simp only [φ0]; rw [if_neg hn]
      rw [e0]; exact g.old n
  have f2 : ∀ n, φ1 n ≠ .dead → φ0 n = φ n := fun n hn => by
    by_cases hm : n.2 = 0 ∧ n.1 ∈ ms
    · simp [φ0, hm]
    · have e0 : φ0 n = φ1 n := by simp only [φ0]; rw [if_neg hm]
      rw [e0]
      rcases g.old n with h3 | ⟨h3, _⟩
      · exact h3
      · exact absurd h3 hn
  have f3 : ∀ n b, (φ0 n).has b → (φ n).has b ∧ ((φ1 n).has b ∨ b ∈ bs) := fun n b hh => by
    by_cases hm : n.2 = 0 ∧ n.1 ∈ ms
    · have e0 : φ0 n = φ n := by simp [φ0, hm]
      rw [e0] at hh
      refine ⟨hh, .inr ?_⟩
      obtain ⟨b', h3, h4, _⟩ := (pairs_mem hP).1 n.1 hm.2
      have e1 : n = (n.1, 0) := by rw [← hm.1]
      rw [e1, h4] at hh
      have : b' = b := hh
      exact this ▸ h3
    · have e0 : φ0 n = φ1 n := by simp only [φ0]; rw [if_neg hm]
      rw [e0] at hh
      exact ⟨g.alive hh, .inl hh⟩
  have notT : ∀ n b, (φ1 n).has b → ¬ Tt b := fun n b hh hT => (H1.lt n b hh).2 (g.own b hT).1
  have obs : ∀ b, Ob b → (Tt b ∧ b ∉ bs) ∨ w.heap.size ≤ b := fun b hb => (hOb b hb).1
  have K0 : Keeps w (Excl B φ) φ w' (Excl (fun b => B b ∨ Ob b) φ0) φ0 := ⟨fun b hlt hn => hb b hlt fun hT => by
      obtain ⟨_, _, n, h3, _⟩ := g.own b hT
      exact hn (.inr ⟨n, h3⟩), hs, fun b hh => by
      rcases hh with (hh | hh) | ⟨n, hh⟩
      · exact .inl (.inl hh)
      · rcases obs b hh with ⟨h3, _⟩ | h3
        · obtain ⟨_, _, n, h4, _⟩ := g.own b h3
          exact .inl (.inr ⟨n, h4⟩)
        · exact .inr h3
      · exact .inl (.inr ⟨n, (f3 n b hh).1⟩), fun n _ => (f1 n).imp id And.left⟩
  refine ⟨φ0, ⟨fun x k hk => ?_, H1.gen, H1.gtop, fun n m b h3 h4 => H.inj n m b (f3 n b h3).1 (f3 m b h4).1, fun n b hh => ⟨Nat.lt_of_lt_of_le (H.lt n b (f3 n b hh).1).1 hs, ?_⟩, fun b hh => ?_, fun x hx => ⟨fun i => ?_, (H1.free x hx).2⟩, fun b o v hg => ⟨⟨(hG b o v hg).1, fun n hn => (H.gl b o v hg).1.2 n (f3 n b hn).1⟩, (hG b o v hg).2⟩⟩,
    ⟨ho, ht, hu, hs, fun b hlt hn => hb b hlt fun hT => ?_, fun n b hh => .inl ⟨n, (f3 n b hh).1, .inl rfl⟩, fun n _ => (f1 n).imp id fun ⟨h3, _, h4⟩ => ⟨h3, h4⟩⟩, fun b hh => ?_, fun y hy => by simp [φ0, hy], fun b hh => ?_⟩
  · have hlive : ∀ n, Uses x k n → φ0 n = φ n := fun n hu => f2 n ((H1.st x k hk).live hu).2
    have hal : ∀ n, Uses x k n → φ1 n = φ n := fun n hu => by
      rcases g.old n with h3 | ⟨h3, _⟩
      · exact h3
      · exact absurd h3 ((H1.st x k hk).live hu).2
    exact K0.blk hlive (fun n b hu hh => hb b (H.lt n b hh).1 (notT n b (by rw [hal n hu]; exact hh))) (H.st x k (g.hs x k hk))
  · rintro (h3 | h3)
    · exact (H.lt n b (f3 n b hh).1).2 h3
    · rcases obs b h3 with ⟨h4, h5⟩ | h4
      · rcases (f3 n b hh).2 with h6 | h6
        · exact notT n b h6 h4
        · exact h5 h6
      · have := (H.lt n b (f3 n b hh).1).1; omega
  · rcases hh with hh | hh
    · exact Nat.lt_of_lt_of_le (H.ltB b hh) hs
    · exact (hOb b hh).2
  · rcases f1 (x, i) with h3 | ⟨_, h3, _⟩
    · rw [h3]; exact (H.free x hx).1 i
    · exact absurd ((H.free x hx).1 i) h3
  · obtain ⟨_, _, n, h3, h4⟩ := g.own b hT
    rw [hn n h3] at h4; cases h4
  · rcases hh with (hh | hh) | ⟨n, hh⟩
    · exact .inl ⟨.inl (g.sub b hh), fun hT => (g.own b hT).2.1 hh⟩
    · exact .inr (.inl hh)
    · rcases (f3 n b hh).2 with h3 | h3
      · exact .inl ⟨.inr ⟨n, h3⟩, notT n b h3⟩
      · exact .inr (.inr h3)
  · rcases obs b hh with ⟨h3, _⟩ | h3
    · obtain ⟨_, h4, n, h5, _⟩ := g.own b h3
      exact ⟨h4, fun o v hg => (H.gl b o v hg).1.2 n h5⟩
    · exact ⟨fun h4 => by have := H.ltB b h4; omega, fun o v hg => by have := (H.gl b o v hg).1.1; omega⟩
end
end Go.TM
namespace Go.TM
open Go.RowKit
section
variable {P : Program} {N : Nat} {B : Nat → Prop} {G : Nat → Nat → Value → Prop} {fr U : Nat → Prop} {φ : Loc} {a : Act} {w : World} {e : T V} {h : Heap} {nx : Nat} {pr ks : Nat → Bool} {R : Type} {res : R}
theorem call_core {k : Nat} {ins : List Arg} {out : VS} {x : ArgsD ins} {r : out.D} {m : ShL (mutsOf ins)} (H : HeapAt B G (FR U nx) φ h w) (hU : ∀ x, U x → x < nx) {B1 : Nat → Prop} {φ1 : Loc} {h1 : Heap} {Tt : Nat → Prop} (H1 : HeapAt B1 G (FR U nx) φ1 h1 w) (g : Grabbed pr B φ h B1 φ1 h1 Tt)
    {ms bs : List Nat} (hP : Pairs (LendBy pr φ h) ms bs) (hbs : ∀ b ∈ bs, Tt b) {X : Nat → Prop} (hX : ∀ b, X b → b < w.heap.size) (hTX : ∀ b, Tt b → X b) {vals : List Value} (hA : ArgsR w X ins x vals Tt bs) (hC : ContractAt P G k ins out x r m)
    (hXe : (out.flat && (mutsOf ins).all Sh.flat) = true ∨ ∀ b, Excl B1 φ1 b → X b) {q : V → Heap → Nat → Option R} (hq : giveV out r nx h1 (fun v nx h => giveM (mutsOf ins) m ms nx h fun nx h => q v h nx) = some res) :
    Calls P k vals.toArray w fun e w' => ∃ v c φ' h' nx', e = .returned v ∧ q c h' nx' = some res ∧ HeapAt B G (FR U nx') φ' h' w' ∧ nx ≤ nx' ∧ Fwd pr φ w φ' w' ∧ Rep w' (Excl B φ') φ' c v := by
  refine (hC w X vals Tt bs hX hTX (fun b o v hg => ⟨(H.gl b o v hg).1.1, (H.gl b o v hg).2⟩) (fun b o v hg hT => ?_) hA).mono ?_
  · obtain ⟨_, _, n, h3, _⟩ := g.own b hT
    exact (H.gl b o v hg).1.2 n h3
  · rintro e w' ⟨v, Ov, Om, rfl, hs, ho, ht, hu, hb, hG, hV, hM, hd, hO⟩
    obtain ⟨φ0, H0, F0, hex, hms, hob⟩ := H.after H1 g hP hbs hs ho ht hu hb hG (Ob := fun b => Ov b ∨ Om b) hO
    have key : ∀ {Y : Nat → Prop}, (∀ b, Y b → Excl (fun b => B b ∨ (Ov b ∨ Om b)) φ0 b) → VR w' Y out r v Ov ∧ MutR w' Y (mutsOf ins) m bs Om := fun {Y} hY => by
      rcases hXe with hf | hXe
      · rw [Bool.and_eq_true] at hf
        exact ⟨hV.flat hf.1, hM.flat hf.2⟩
      · have : ∀ b, Y b → (X b ∧ ¬ Tt b) ∨ Ov b ∨ Om b ∨ b ∈ bs := fun b hb => by
          rcases hex b (hY b hb) with ⟨h3, h4⟩ | (h3 | h3) | h3
          · exact .inl ⟨hXe b h3, h4⟩
          · exact .inr (.inl h3)
          · exact .inr (.inr (.inl h3))
          · exact .inr (.inr (.inr h3))
        exact ⟨hV.mono this, hM.mono this⟩
    obtain ⟨hV', hM'⟩ := key (Y := Excl (fun b => B b ∨ (Ov b ∨ Om b)) φ0) fun b hb => hb
    obtain ⟨c, m1, h2, φ2, hq, g1, H2, hr⟩ := giveV_sound H0 hU hV' (fun b hb => .inr (.inl hb)) (fun b o v hg hb => (hob b (.inl hb)).2 o v hg) hq
    have hP2 : Pairs (fun y b => φ2 (y, 0) = .blk b ∧ y < m1 ∧ ∀ z, famOf (h2.get z) ≠ some y) ms bs := by
      have hmem : ∀ {l l' : List Nat}, Pairs (LendBy pr φ h) l l' → (∀ y ∈ l, y ∈ ms) → Pairs (fun y b => φ2 (y, 0) = .blk b ∧ y < m1 ∧ ∀ z, famOf (h2.get z) ≠ some y) l l' := fun {l l'} hp => by
        induction hp with
        | nil => exact fun _ => .nil
        | @cons y b l l' hy _ ih =>
          intro hm
          obtain ⟨k1, k2, cs, k3⟩ := hy
          have hyn : y < nx := by
            rcases Nat.lt_or_ge y nx with h | h
            · exact h
            · have := (H.free y (.inr h)).1 0
              rw [k1] at this; cases this
          refine .cons ⟨?_, Nat.lt_of_lt_of_le hyn g1.le, fun z hz => ?_⟩ (ih fun y hy => hm y (by simp [hy]))
          · have : φ0 (y, 0) = .blk b := by rw [hms y (hm y (by simp))]; exact k1
            rw [g1.old _ (by rw [this]; nofun)]; exact this
          · rcases g1.fam z y hz with h5 | h5
            · cases hk : h1.get z with
              | none => rw [hk] at h5; cases h5
              | some kk =>
                have := g.hs z kk hk
                rw [hk] at h5
                exact famOf_none H k3 z (by rw [this]; exact h5)
            · omega
      exact hmem hP fun y hy => hy
    obtain ⟨m2, h3, φ3, hq, g2, H3⟩ := giveM_sound H2 (fun y hy => Nat.lt_of_lt_of_le (hU y hy) g1.le) hP2 (by rw [g1.excl]; exact hM') (fun b hb => ⟨.inr (.inr hb), fun hb' => hd b hb' hb⟩) (fun b o v hg hb => (hob b (.inr hb)).2 o v hg) hq
    have gg := g1.trans g2 (O := fun b => Ov b ∨ Om b) (fun b => Iff.rfl)
    have hB : Bar (fun b => B b ∨ (Ov b ∨ Om b)) (fun b => Ov b ∨ Om b) = B := by
      funext b
      apply propext
      constructor
      · rintro ⟨h3 | h3, h4⟩
        · exact h3
        · exact absurd h3 h4
      · intro h3
        exact ⟨.inl h3, fun h4 => (hob b h4).1 h3⟩
    rw [bar_bar (O := fun b => Ov b ∨ Om b) (fun b => Iff.rfl), hB] at H3
    have hgx := gg.excl
    rw [hB] at hgx
    refine ⟨v, c, φ3, h3, m2, rfl, hq, H3, gg.le, ⟨ho, ht, hu, hs, F0.block, fun n b hb => ?_, fun n hn => ?_⟩, ?_⟩
    · rcases gg.new n b hb with h4 | ⟨h4, _⟩
      · exact F0.new n b h4
      · rcases (hO b h4).1 with ⟨h5, _⟩ | h5
        · obtain ⟨_, _, n', h6, h7⟩ := g.own b h5
          exact .inl ⟨n', h6, .inr h7⟩
        · exact .inr h5
    · rcases F0.old n hn with h4 | ⟨h4, h5⟩
      · rw [gg.old n (by rw [h4]; exact hn)]; exact .inl h4
      · rw [gg.old n (by rw [h4]; nofun)]; exact .inr ⟨h4, h5⟩
    · have K := g2.keeps w'
      rw [g1.excl] at K
      rw [hgx]
      exact K.rep hr
theorem noMut_bs : ∀ {ins : List Arg} {X : Nat → Prop} {x : ArgsD ins} {vs : List Value} {Tt : Nat → Prop} {bs : List Nat}, mutsOf ins = [] → ArgsR w X ins x vs Tt bs → bs = []
  | [], _, _, _, _, _, _, h => h.2.2
  | [.val g t], _, _, _, _, _, _, ⟨v, _, us, _, _, _, h⟩ => h
  | [.mut s], _, _, _, _, _, hm, _ => by cases hm
  | .val g t :: a :: r, _, _, _, _, _, hm, ⟨v, vs', T1, T2, bs1, bs2, h1, h2, ⟨us, _, _, _, h3⟩, h4, _⟩ => by
    have h5 := noMut_bs (ins := a :: r) hm h4
    rw [h2, h3, h5]; rfl
  | .mut s :: a :: r, _, _, _, _, _, hm, _ => by cases hm
theorem giveM_nil {l : List Sh} {m : ShL l} (hl : l = []) {q : Nat → Heap → Option R} : giveM l m [] nx h q = q nx h := by
  subst hl; rfl
theorem wo_lt (H : HeapAt B G fr φ h w) {ns : List Nat} {b : Nat} (hb : Wo B φ ns b) : b < w.heap.size := by
  rcases hb with hb | ⟨n, hb, _⟩
  · exact H.ltB b hb
  · exact (H.lt n b hb).1
theorem tabOk {tab : List Fun} (h : ∀ F ∈ tab, FunOk P G F) : TabOk P G tab := by
  intro F hF R args h0 nx pr q res hq
  have hk := h F hF
  cases F with
  | p k ins out f =>
    obtain ⟨hfn, hk⟩ := hk
    refine ⟨hfn, fun B U φ w vals H hU hlen hargs => ?_⟩
    simp only [callT, callP] at hq
    split at hq
    · rename_i hm
      obtain ⟨x, ms, ns, h1, B1, φ1, Tt, bs, hq, H1, hA, g, hok, hP, hbs⟩ := grabArgs_sound H ⟨hlen, hargs⟩ hq
      have hbn := noMut_bs hm hA
      subst hbn
      cases hP
      have mm : ShL (mutsOf ins) := by rw [hm]; exact ()
      split at hq
      · rename_i hf
        obtain ⟨r, hr, hq⟩ := bindO_some hq
        refine call_core (ms := []) H hU H1 g .nil hbs (fun b hb => wo_lt H1 hb) (fun b hT => .inl (g.own b hT).1) hA (hk x r hr mm) (.inl (by rw [hf, hm]; rfl)) (q := q) ?_
        rw [← hq]
        congr 1
        funext v nx h
        exact giveM_nil hm
      · obtain ⟨hpn, h2, hw, hq⟩ := dropN_spec hq
        obtain ⟨r, hr, hq⟩ := bindO_some hq
        obtain ⟨_, H2⟩ := H1.kill hpn hok hw
        have g2 := (g.trans (grabbed_kill H1 hpn hw)).1
        refine call_core (ms := []) (X := Wo B1 φ1 ns) H hU H2 (g2.iff (fun b hb => .inl hb)) .nil hbs (fun b hb => wo_lt H1 hb) (fun b hT => .inl (g.own b hT).1) hA (hk x r hr mm) (.inr fun b hb => by rw [excl_kill] at hb; exact hb) (q := q) ?_
        rw [← hq]
        congr 1
        funext v nx h
        exact giveM_nil hm
    · cases hq
  | m k ins out f =>
    obtain ⟨hfn, hk⟩ := hk
    refine ⟨hfn, fun B U φ w vals H hU hlen hargs => ?_⟩
    simp only [callT, callM] at hq
    obtain ⟨x, ms, ns, h1, B1, φ1, Tt, bs, hq, H1, hA, g, hok, hP, hbs⟩ := grabArgs_sound H ⟨hlen, hargs⟩ hq
    split at hq
    · rename_i hf
      obtain ⟨r, hr, hq⟩ := bindO_some hq
      exact call_core H hU H1 g hP hbs (fun b hb => wo_lt H1 hb) (fun b hT => .inl (g.own b hT).1) hA (hk x r hr) (.inl hf) hq
    · obtain ⟨hpn, h2, hw, hq⟩ := dropN_spec hq
      obtain ⟨r, hr, hq⟩ := bindO_some hq
      obtain ⟨_, H2⟩ := H1.kill hpn hok hw
      have g2 := (g.trans (grabbed_kill H1 hpn hw)).1
      exact call_core (X := Wo B1 φ1 ns) H hU H2 (g2.iff (fun b hb => .inl hb)) hP hbs (fun b hb => wo_lt H1 hb) (fun b hT => .inl (g.own b hT).1) hA (hk x r hr) (.inr fun b hb => by rw [excl_kill] at hb; exact hb) hq
theorem pairs_eq {Q Q' : Nat → Nat → Prop} (hf : ∀ y b b', Q y b → Q' y b' → b' = b) {ms bs bs' : List Nat} (h : Pairs Q ms bs) (h' : Pairs Q' ms bs') : bs' = bs := by
  induction h generalizing bs' with
  | nil => cases h'; rfl
  | cons h _ ih =>
    cases h' with
    | cons h2 t2 => rw [hf _ _ _ h h2, ih t2]
theorem nothing {X : Nat → Prop} (hX : ∀ b, X b → b < w.heap.size) (hG : GAt G w) : HeapAt X G (FR (fun _ => False) 0) (fun _ => .free) .e w :=
  { st := fun x k h => by rw [T.get_e] at h; cases h
    gen := fun x y g h => by rw [T.get_e] at h; cases h
    gtop := fun x g h => by rw [T.get_e] at h; cases h
    inj := fun n m b h => h.elim
    lt := fun n b h => h.elim
    ltB := hX
    free := fun x h => ⟨fun _ => rfl, fun y hy => by rw [T.get_e] at hy; cases hy⟩
    gl := fun b o v h => ⟨⟨(hG b o v h).1, fun n hn => hn⟩, (hG b o v h).2⟩ }
theorem excl_nothing {X : Nat → Prop} : Excl X (fun _ => Lc.free) = X := by
  funext b
  exact propext ⟨by rintro (h | ⟨n, h⟩); exact h; exact h.elim, .inl⟩
theorem contract_of {tab : List Fun} (hp : TabOk P G tab) {marks : Nat → An} {fl n k : Nat} {ins : List Arg} {out : VS} {x : ArgsD ins} {r : out.D} {m : ShL (mutsOf ins)}
    (hq : (giveArgs ins x 0 .e fun args ms nx h => enter (run P tab marks fl n (out.D × ShL (mutsOf ins)) (marks k)) args h nx noK (fun v h _ => grabV noK out h v fun r h => grabM (mutsOf ins) ms h fun m => some (r, m)) (fnOf P P.funcs[k]?)) = some (r, m)) : ContractAt P G k ins out x r m := by
  intro w X vals Tt bs hX hTX hG hGT hA
  obtain ⟨args, ms, m0, h1, φ1, hq, gg, H1, hv, hP⟩ := giveArgs_sound (nothing hX hG) (fun x h => h.elim) (by rw [excl_nothing]; exact hA) hTX hGT hq
  have hex := gg.excl
  rw [excl_nothing] at hex hv
  refine ((enter_ok (code_ok hp n _).1 hq).2 _ (fun _ => False) φ1 w vals H1 (fun x h => h.elim) hv.1 (by rw [hex]; exact hv.2)).mono ?_
  rintro e w' ⟨v, c, φ', h', nx', rfl, hq, H', hle, F, hr⟩
  obtain ⟨r', h2, B2, φ2, Ov, hq, H2, hV, g2⟩ := grabV_sound H' hr hq
  obtain ⟨m', h3, B3, φ3, Om, bs', hq, H3, hM, hP', hn, g3⟩ := grabM_sound H2 hq
  injection hq with hq
  injection hq with hq1 hq2
  subst hq1
  subst hq2
  have hbb : bs' = bs := pairs_eq (fun y b b' hl hb => by
    have h4 : φ' (y, 0) = .blk b' := by
      rcases g2.old (y, 0) with h5 | ⟨h5, _⟩
      · rw [← h5]; exact hb
      · rw [h5] at hb; cases hb
    rcases F.old (y, 0) hl.1 with h5 | ⟨h5, _⟩
    · exact hl.2 b' (by rw [← h5]; exact h4)
    · rw [h5] at h4; cases h4) hP hP'
  subst hbb
  have new : ∀ n b, (φ' n).has b → Tt b ∨ w.heap.size ≤ b := fun n b hb => by
    rcases F.new n b hb with ⟨n', h4, _⟩ | h4
    · rcases gg.new n' b h4 with h5 | ⟨h5, _⟩
      · exact h5.elim
      · exact .inl h5
    · exact .inr h4
  refine ⟨v, Ov, Om, rfl, F.size, F.os, F.tape, F.output, fun b hb hT => F.block b hb fun n hn => ?_, fun b o v hg => ⟨(H'.gl b o v hg).1.1, (H'.gl b o v hg).2⟩, hV.mono fun b hb => ?_, hM.mono fun b hb => ?_, fun b h4 h5 => (g3.own b (.inr h5)).2.1 (g2.own b h4).1, fun b hb => ?_⟩
  · rcases gg.new n b hn with h5 | ⟨h5, _⟩
    · exact h5.elim
    · exact absurd h5 hT
  · rcases hb with hb | hb | hb | hb
    · exact .inl (g2.sub b hb)
    · exact .inl (g2.own b hb).1
    · obtain ⟨_, _, n, h4, _⟩ := g3.own b (.inr hb)
      exact .inr ⟨n, h4⟩
    · obtain ⟨_, _, n, h4, _⟩ := g3.own b (.inl hb)
      exact .inr ⟨n, h4⟩
  · rcases hb with hb | hb | hb | hb
    · exact .inl (g3.sub b (g2.sub b hb))
    · exact .inl (g3.sub b (g2.own b hb).1)
    · exact .inl (g3.own b (.inr hb)).1
    · exact .inl (g3.own b (.inl hb)).1
  · rcases hb with hb | hb
    · obtain ⟨h4, _, n, h5, _⟩ := g2.own b hb
      refine ⟨?_, (H'.lt n b h5).1⟩
      rcases new n b h5 with h6 | h6
      · exact .inl ⟨h6, fun h7 => (g3.own b (.inl h7)).2.1 h4⟩
      · exact .inr h6
    · obtain ⟨_, _, n, h5, _⟩ := g3.own b (.inr hb)
      have h5' := g2.alive h5
      refine ⟨?_, (H'.lt n b h5').1⟩
      rcases new n b h5' with h6 | h6
      · exact .inl ⟨h6, fun h7 => hn b h7 hb⟩
      · exact .inr h6
theorem fnAt_of {g : Nat} (h : (fnOf P P.funcs[g]?).isSome = true) : FnAt P g := by
  cases hf : P.funcs[g]? with
  | none => rw [hf] at h; cases h
  | some fn =>
    rw [hf] at h
    simp only [fnOf, tFn] at h
    split at h
    · rename_i c hb hn
      exact ⟨fn, hf, hn, by rw [hb]; rfl⟩
    · cases h
theorem funM {tab : List Fun} (hp : ∀ F ∈ tab, FunOk P G F) (marks : Nat → An) (fl : Nat) {k : Nat} {ins : List Arg} {out : VS} {f : ArgsD ins → Option (out.D × ShL (mutsOf ins))} (hfn : (fnOf P P.funcs[k]?).isSome = true) (h : ∀ x, evalM P tab marks fl k ins out x = f x) : FunOk P G (.m k ins out f) :=
  ⟨fnAt_of hfn, fun x r hr => contract_of (tabOk hp) (by rw [← h x] at hr; exact hr)⟩
theorem mutR_nil {X : Nat → Prop} {l : List Sh} (hl : l = []) (m : ShL l) : MutR w X l m [] fun _ => False := by
  subst hl
  exact ⟨rfl, fun b h => h⟩
theorem contract_ofP {tab : List Fun} (hp : TabOk P G tab) {marks : Nat → An} {fl n k : Nat} {ins : List Arg} {out : VS} (hmut : mutsOf ins = []) {x : ArgsD ins} {r : out.D}
    (hq : (giveArgs ins x 0 .e fun args _ nx h => enter (run P tab marks fl n out.D (marks k)) args h nx noK (fun v h _ => grabV noK out h v fun r _ => some r) (fnOf P P.funcs[k]?)) = some r) (m : ShL (mutsOf ins)) : ContractAt P G k ins out x r m := by
  intro w X vals Tt bs hX hTX hG hGT hA
  obtain ⟨args, ms, m0, h1, φ1, hq, gg, H1, hv, hP⟩ := giveArgs_sound (q := fun args _ nx h => enter (run P tab marks fl n out.D (marks k)) args h nx noK (fun v h _ => grabV noK out h v fun r _ => some r) (fnOf P P.funcs[k]?)) (nothing hX hG) (fun x h => h.elim) (by rw [excl_nothing]; exact hA) hTX hGT hq
  have hex := gg.excl
  rw [excl_nothing] at hex hv
  have hbn := noMut_bs hmut hA
  subst hbn
  refine ((enter_ok (code_ok hp n _).1 hq).2 _ (fun _ => False) φ1 w vals H1 (fun x h => h.elim) hv.1 (by rw [hex]; exact hv.2)).mono ?_
  rintro e w' ⟨v, c, φ', h', nx', rfl, hq', H', hle, F, hr⟩
  obtain ⟨r', h2, B2, φ2, Ov, hq, H2, hV, g2⟩ := grabV_sound (q := fun r _ => some r) H' hr hq'
  injection hq with hq
  subst hq
  have new : ∀ n b, (φ' n).has b → Tt b ∨ w.heap.size ≤ b := fun n b hb => by
    rcases F.new n b hb with ⟨n', h4, _⟩ | h4
    · rcases gg.new n' b h4 with h5 | ⟨h5, _⟩
      · exact h5.elim
      · exact .inl h5
    · exact .inr h4
  refine ⟨v, Ov, fun _ => False, rfl, F.size, F.os, F.tape, F.output, fun b hb hT => F.block b hb fun n hn => ?_, fun b o v hg => ⟨(H'.gl b o v hg).1.1, (H'.gl b o v hg).2⟩, hV.mono fun b hb => ?_, mutR_nil hmut m, fun b h4 h5 => h5, fun b hb => ?_⟩
  · rcases gg.new n b hn with h5 | ⟨h5, _⟩
    · exact h5.elim
    · exact absurd h5 hT
  · rcases hb with hb | hb | hb | hb
    · exact .inl (g2.sub b hb)
    · exact .inl (g2.own b hb).1
    · exact hb.elim
    · simp at hb
  · rcases hb with hb | hb
    · obtain ⟨h4, _, n, h5, _⟩ := g2.own b hb
      refine ⟨?_, (H'.lt n b h5).1⟩
      rcases new n b h5 with h6 | h6
      · exact .inl ⟨h6, by simp⟩
      · exact .inr h6
    · exact hb.elim
theorem funP {tab : List Fun} (hp : ∀ F ∈ tab, FunOk P G F) (marks : Nat → An) (fl : Nat) {k : Nat} {ins : List Arg} {out : VS} {f : ArgsD ins → Option out.D} (hfn : (fnOf P P.funcs[k]?).isSome = true) (hm : mutsOf ins = []) (h : ∀ x, evalP P tab marks fl k ins out x = f x) : FunOk P G (.p k ins out f) :=
  ⟨fnAt_of hfn, fun x r hr m => contract_ofP (tabOk hp) hm (by rw [← h x] at hr; exact hr) m⟩
theorem funPd {tab : List Fun} (hp : ∀ F ∈ tab, FunOk P G F) (marks : Nat → An) (fl d : Nat) {k : Nat} {ins : List Arg} {out : VS} {f : ArgsD ins → Option out.D} (hfn : (fnOf P P.funcs[k]?).isSome = true) (hm : mutsOf ins = []) (h : ∀ x, evalPd P tab marks fl d k ins out x = f x) : FunOk P G (.p k ins out f) :=
  ⟨fnAt_of hfn, fun x r hr m => contract_ofP (tabOk hp) hm (by rw [← h x] at hr; exact hr) m⟩
theorem funMi {tab : List Fun} (hp : ∀ F ∈ tab, FunOk P G F) (marks : Nat → An) (fl : Nat) {k : Nat} {ins : List Arg} {out : VS} {f : ArgsD ins → Option (out.D × ShL (mutsOf ins))} (hfn : (fnOf P P.funcs[k]?).isSome = true) (h : ∀ x r, f x = some r → evalM P tab marks fl k ins out x = some r) : FunOk P G (.m k ins out f) :=
  ⟨fnAt_of hfn, fun x r hr => contract_of (tabOk hp) (h x r hr)⟩
theorem law_call {k : Nat} {ins : List Arg} {f : ArgsD ins → Option Bool} (hF : FunOk P G (.p k ins (.one false (.v .bool)) f)) {x : ArgsD ins} (hx : f x = some true) (hG : GAt G w) {vals : List Value} (hA : ArgsR w (fun _ => False) ins x vals (fun _ => False) []) (m : ShL (mutsOf ins)) :
    Calls P k vals.toArray w fun e w' => e = .returned (.bool true) ∧ Below w.heap.size w w' := by
  refine (hF.2 x true hx m w (fun _ => False) vals (fun _ => False) [] (fun b h => h.elim) (fun b h => h) hG (fun b o v _ h => h) hA).mono ?_
  rintro e w' ⟨v, Ov, Om, rfl, hs, ho, ht, hu, hb, _, ⟨us, hv, hrt, _⟩, _⟩
  obtain ⟨h1, _⟩ := (show us = [v] ∧ v.oneCell' = true from hv)
  have h2 : us = [.bool true] := hrt
  rw [h1] at h2
  injection h2 with h2
  subst h2
  exact ⟨rfl, ho, ht, hu, hs, fun b hlt => hb b hlt fun h => h⟩
def picksB : List Bool → List (Bool × List Bool)
  | [] => []
  | c :: r => (c, r) :: (picksB r).map fun p => (p.1, c :: p.2)
noncomputable def permsR {R : Type} (r : Option R) : Nat → List Bool → Option R
  | 0, _ => r
  | n + 1, cs => allR (fun p => need p.1 (permsR r n p.2)) (picksB cs)
theorem picksB_all : ∀ (cs : List Bool) (p : Bool × List Bool), p ∈ picksB cs → (∀ c ∈ cs, c = true) → p.1 = true ∧ (∀ c ∈ p.2, c = true) ∧ p.2.length + 1 = cs.length
  | [], p, h, _ => by cases h
  | c :: r, p, h, hc => by
    rcases List.mem_cons.mp h with rfl | h
    · exact ⟨hc c (List.mem_cons_self ..), fun d hd => hc d (List.mem_cons_of_mem _ hd), rfl⟩
    · obtain ⟨q, hq, rfl⟩ := List.mem_map.mp h
      obtain ⟨h1, h2, h3⟩ := picksB_all r q hq fun d hd => hc d (List.mem_cons_of_mem _ hd)
      refine ⟨h1, fun d hd => ?_, by simp [← h3]⟩
      rcases List.mem_cons.mp hd with rfl | hd
      · exact hc d (List.mem_cons_self ..)
      · exact h2 d hd
theorem allR_same {A R : Type} {p : A → Option R} {r : Option R} : ∀ (l : List A), l ≠ [] → (∀ a ∈ l, p a = r) → allR p l = r
  | [], h, _ => absurd rfl h
  | [a], _, h => h a (List.mem_cons_self ..)
  | a :: b :: l, _, h => by
    show both (p a) (allR p (b :: l)) = r
    rw [allR_same (b :: l) (by simp) fun c hc => h c (List.mem_cons_of_mem _ hc), h a (List.mem_cons_self ..), both_self]
theorem permsR_eq {R : Type} {r : Option R} : ∀ (n : Nat) (cs : List Bool), cs.length = n → (∀ c ∈ cs, c = true) → permsR r n cs = r
  | 0, _, _, _ => rfl
  | n + 1, cs, hn, hc => by
    unfold permsR
    refine allR_same _ ?_ fun p hp => ?_
    · cases cs with
      | nil => cases hn
      | cons c r => simp [picksB]
    · obtain ⟨h1, h2, h3⟩ := picksB_all cs p hp hc
      rw [h1, permsR_eq n p.2 (by omega) h2]
      rfl
end
end Go.TM
namespace Go.Proofs.YtfbipcdllbdijaaGreat
open Go Go.TM Go.Proofs
noncomputable section
theorem fn {P : Go.Program} {G : Nat → Nat → Go.Value → Prop} : ∀ F ∈ ([] : List Fun), FunOk P G F := fun _ h => by cases h
theorem fc {P : Go.Program} {G : Nat → Nat → Go.Value → Prop} {F : Fun} {l : List Fun} (h : FunOk P G F) (t : ∀ F ∈ l, FunOk P G F) : ∀ F' ∈ F :: l, FunOk P G F' := fun F' hm => by
  rcases List.mem_cons.mp hm with rfl | hm
  · exact h
  · exact t F' hm
variable {G : Nat → Nat → Go.Value → Prop}
abbrev HG (G : Nat → Nat → Go.Value → Prop) : Prop := ∃ m, G 0 0 (.int .i64 m)
abbrev tI : TC := (.int .i64)
abbrev tDecl : TC := (.pair tI (.pair .str (.pair tI tI)))
abbrev tTerm : TC := (.pair tI (.pair .str (.pair tI (.pair tI (.pair tI tI)))))
abbrev tInst : TC := (.pair tI (.pair tI (.pair tI (.pair tI (.pair tI (.pair tI tI))))))
abbrev tTurn : TC := (.pair tI (.pair tI tI))
abbrev tFlat : TC := (.pair tI (.pair (.sl tDecl) (.pair (.sl tTerm) (.pair (.sl (.sl tInst)) tI))))
abbrev tState : TC := (.pair (.sl tI) (.pair (.sl .bool) (.pair (.sl .bool) (.pair (.sl tI) (.pair (.sl tI) (.pair (.sl (.sl tI)) .bool))))))
abbrev tMach : TC := (.pair tFlat (.pair tState (.sl tI)))
abbrev tStmt : TC := (.pair tI (.pair .str (.pair .str (.pair (.sl (.pair tI (.pair .str (.pair tI (.pair .str (.pair (.sl .unit) tI)))))) (.pair (.sl .unit) (.pair (.sl .unit) tI))))))
abbrev tProc : TC := (.pair .str (.pair (.sl tStmt) tI))
abbrev tProg : TC := (.pair tI (.pair (.sl tDecl) (.sl tProc)))
abbrev shS : Sh := .pair (.own tI) (.pair (.own .bool) (.pair (.own .bool) (.pair (.own tI) (.pair (.own tI) (.pair (.fam (.row tI)) (.v .bool))))))
abbrev shM : Sh := .pair (.v tFlat) (.pair shS (.v (.sl tI)))
abbrev shB : Sh := .pair (.own tI) (.pair (.own .bool) (.pair (.own .bool) (.pair (.own tI) (.pair (.own tI) (.pair (.own (.sl tI)) (.v .bool))))))
abbrev shC : Sh := .pair (.v tProg) (.pair (.v tI) (.pair (.map .bool) (.pair (.v tI) (.v tI))))
def an7 : An := (.seq .o (.seq (.seq (.reg ⟨[.slot 21 false (.v (TC.bool))], [1], false⟩) .o) (.seq (.seq .o (.blk none (.loop ⟨[.slot 3 false (.v tI)], [1], false⟩ .o))) (.seq (.seq .o (.blk none (.loop ⟨[.slot 4 false (.v tI)], [1], false⟩ .o))) (.seq (.seq .o (.blk none (.loop ⟨[.slot 5 false (.v tI)], [1], false⟩ .o))) .o)))))
def an8 : An := (.seq .o (.seq (.seq .o (.blk none (.loop ⟨[.slot 3 false (.v tI)], [1], false⟩ (.seq (.seq (.reg ⟨[.slot 12 false (.v (TC.bool))], [1, 3], false⟩) .o) .o)))) (.seq (.reg ⟨[.slot 2 false (.v (TC.bool))], [], false⟩) .o)))
def an11 : An := (.seq .o (.seq (.reg ⟨[.slot 2 false (.v (TC.bool))], [], false⟩) .o))
def an12 : An := (.seq .o (.seq .o (.seq (.seq (.reg ⟨[.slot 59 false (.v (TC.bool))], [2, 3, 5], false⟩) .o) (.seq (.seq .o (.blk none (.loop ⟨[.slot 6 false (.v tI)], [2, 3, 5], false⟩ (.seq .o (.seq (.blk none (.seq (.reg ⟨[.slot 84 false (.v (TC.bool))], [2, 3, 5, 6], false⟩) .o)) .o))))) (.seq (.seq .o (.blk none (.loop ⟨[.slot 7 false (.v tI)], [2, 3, 5], false⟩ .o))) (.seq (.seq .o (.blk none (.loop ⟨[.slot 8 false (.v tI)], [2, 3, 5], false⟩ (.seq .o (.seq (.blk none (.seq .o (.seq .o (.seq (.seq .o (.cond (some ⟨[.slot 10 false (.v tI)], [2, 3, 5, 8, 9], false⟩) .o .o)) (.seq .o (.seq (.seq .o (.blk none (.loop ⟨[.slot 11 false (.v tI)], [2, 3, 5, 8, 9], false⟩ .o))) (.seq (.reg ⟨[.slot 195 false (.v (TC.bool))], [2, 3, 5, 8], false⟩) .o))))))) .o))))) .o))))))
def an14 : An := (.seq .o (.seq (.reg ⟨[.slot 4 false (.v (TC.bool))], [], false⟩) .o))
def an17 : An := (.seq .o (.seq (.seq (.reg ⟨[.slot 32 false (.v (TC.bool))], [2, 3, 4], false⟩) .o) (.seq .o (.seq (.seq .o (.blk none (.loop ⟨[.slot 8 false (.v tI)], [2, 3, 7], false⟩ .o))) .o))))
def an18 : An := (.seq .o (.seq .o (.seq (.seq .o (.blk none (.loop ⟨[.slot 5 false (.own tTurn), .slot 6 false (.v tI)], [2, 3], false⟩ (.seq .o (.seq (.blk none (.seq .o (.blk none (.loop ⟨[.slot 5 false (.own tTurn), .slot 7 false (.v tI)], [2, 3, 6], false⟩ (.seq .o (.seq (.blk none (.seq .o (.cond (some ⟨[.slot 5 false (.own tTurn)], [2, 3, 6, 7], false⟩) .o .o))) .o)))))) .o))))) .o)))
def an19 : An := (.seq .o (.seq .o (.seq (.seq .o (.blk none (.loop ⟨[.slot 5 false (.v tI)], [0, 1], false⟩ .o))) .o)))
def an20 : An := (.seq .o (.seq .o (.seq (.seq .o (.blk none (.loop ⟨[.slot 5 false (.v tI)], [0, 1], false⟩ .o))) .o)))
def an21 : An := (.seq .o (.seq .o (.seq .o (.seq (.seq .o (.blk none (.loop ⟨[.slot 5 false (.own tI), .slot 7 false (.v tI)], [2, 3, 6], false⟩ (.seq .o (.seq (.blk none (.seq .o (.seq (.seq .o (.blk none (.loop ⟨[.slot 8 false (.v (TC.bool)), .slot 9 false (.v tI)], [2, 3, 5, 6, 7], false⟩ (.seq .o (.seq (.blk none (.reg ⟨[.slot 8 false (.v (TC.bool))], [2, 3, 5, 6, 7, 9], false⟩)) .o))))) (.seq .o (.cond (some ⟨[.slot 5 false (.own tI)], [2, 3, 6, 7], false⟩) .o .o))))) .o))))) .o))))
def an22 : An := (.seq .o (.seq .o (.seq .o (.seq .o (.seq (.seq .o (.cond (some ⟨[.slot 9 false (.v tI)], [3, 4, 5, 6, 7, 8], false⟩) .o .o)) (.seq .o (.seq .o (.seq .o (.seq (.seq .o (.cond (some ⟨[.slot 11 false (.v tI)], [3, 4, 5, 6, 8, 9, 10], false⟩) .o .o)) (.seq (.seq .o (.blk none (.seq (.seq .o (.cond (some ⟨[.slot 61 false (.v (TC.bool))], [3, 4, 5, 6, 8, 9, 10, 11, 60], false⟩) .o .o)) (.cond (some ⟨[.cont 10 [] (.v tState)], [6, 10], false⟩) .o (.seq .o (.cond (some ⟨[.cont 10 [] (.v tState)], [6, 10], false⟩) .o (.seq .o (.cond (some ⟨[.cont 10 [] (.v tState)], [6, 10], false⟩) (.seq .o (.seq .o (.cond (some ⟨[.cont 10 [] (.v tState)], [6, 10], false⟩) .o .o))) (.seq (.seq .o (.cond (some ⟨[.slot 114 false (.v (TC.bool))], [3, 4, 5, 6, 8, 9, 10, 60], false⟩) .o .o)) (.cond (some ⟨[.cont 10 [] (.v tState)], [6, 10], false⟩) .o (.seq .o (.cond (some ⟨[.cont 10 [] (.v tState)], [6, 10], false⟩) .o (.seq .o (.cond (some ⟨[.cont 10 [] (.v tState)], [6, 10], false⟩) .o (.seq .o (.cond (some ⟨[.cont 10 [] (.v tState)], [6, 10], false⟩) (.seq .o (.cond (some ⟨[.cont 10 [] (.v tState)], [6, 10], false⟩) .o .o)) (.seq .o (.cond (some ⟨[.cont 10 [] (.v tState)], [6, 10], false⟩) .o (.seq .o (.cond (some ⟨[.cont 10 [] (.v tState)], [6, 10], false⟩) .o (.seq .o (.cond (some ⟨[.cont 10 [] (.v tState)], [6, 10], false⟩) .o (.seq .o (.cond (some ⟨[.cont 10 [] (.v tState)], [6, 10], false⟩) .o .o)))))))))))))))))))))))) .o))))))))))
def an25 : An := (.seq .o (.seq (.seq .o (.blk none (.loop ⟨[.slot 5 false (.v tI)], [0, 1], false⟩ .o))) .o))
def an35 : An := (.seq .o (.seq (.seq (.reg ⟨[.slot 18 false (.v (TC.bool))], [0, 1], false⟩) .o) (.seq (.seq .o (.blk none (.loop ⟨[.slot 5 false (.v tI)], [0, 1], false⟩ (.seq .o (.seq (.blk none (.seq .o (.seq (.seq (.reg ⟨[.slot 79 false (.v (TC.bool))], [0, 1, 5, 6], false⟩) .o) (.seq .o (.blk none (.loop ⟨[.slot 7 false (.v tI)], [0, 1, 5, 6], false⟩ .o)))))) .o))))) .o)))
def an36 : An := (.seq .o (.seq (.seq (.reg ⟨[.slot 16 false (.v (TC.bool))], [0, 1], false⟩) .o) (.seq (.seq .o (.blk none (.loop ⟨[.slot 5 false (.v tI)], [0, 1], false⟩ .o))) .o)))
def an37 : An := (.seq .o (.seq (.seq (.reg ⟨[.slot 38 false (.v (TC.bool))], [1], false⟩) .o) (.seq .o (.seq .o (.seq .o (.seq (.seq .o (.blk none (.loop ⟨[.slot 3 false (.v tI), .slot 4 false (.own tI), .slot 5 false (.own tI), .slot 6 false (.v tI)], [1], false⟩ (.seq .o (.seq (.blk none (.seq .o (.seq .o (.blk none (.loop ⟨[.slot 4 false (.own tI), .slot 5 false (.own tI), .slot 7 false (.v tI)], [1, 3, 6], false⟩ (.seq (.seq (.reg ⟨[.slot 67 false (.v (TC.bool))], [1, 3, 4, 5, 6, 7], false⟩) .o) (.seq (.blk none (.seq .o (.seq .o (.seq (.seq .o (.cond (some ⟨[.slot 4 false (.own tI)], [1, 3, 5, 6, 7, 8], false⟩) .o .o)) (.seq .o (.cond (some ⟨[.slot 5 false (.own tI)], [1, 3, 4, 6, 7], false⟩) .o .o)))))) .o))))))) .o))))) (.seq (.seq .o (.blk none (.loop ⟨[.slot 9 false (.v tI)], [1, 3, 4, 5], false⟩ (.seq .o (.seq (.blk none (.seq (.reg ⟨[.slot 123 false (.v (TC.bool))], [1, 3, 4, 5, 9], false⟩) .o)) .o))))) (.seq (.seq .o (.blk none (.loop ⟨[.slot 10 false (.v tI)], [1, 3, 5], false⟩ .o))) (.seq (.reg ⟨[.slot 2 false (.v (TC.bool))], [], false⟩) .o)))))))))
def an38 : An := (.seq .o (.seq (.reg ⟨[.slot 4 false (.v (TC.bool))], [], false⟩) .o))
def an40 : An := (.seq .o (.seq .o (.seq (.seq .o (.blk none (.loop ⟨[.slot 5 false (.v tI)], [0, 1], false⟩ .o))) .o)))
def an41 : An := (.seq .o (.seq .o (.seq (.seq .o (.blk none (.loop ⟨[.slot 5 false (.v tI)], [0, 1], false⟩ .o))) .o)))
def an44 : An := (.seq .o (.seq .o (.seq (.seq .o (.blk none (.loop ⟨[.slot 7 false (.own tI), .slot 8 false (.v tI)], [0, 1, 2], false⟩ (.seq .o (.seq (.blk none (.seq .o (.seq .o (.seq (.seq .o (.cond (some ⟨[.slot 10 false (.v tI)], [0, 1, 2, 7, 8, 9], false⟩) .o .o)) (.seq (.seq (.reg ⟨[.slot 36 false (.v (TC.bool))], [0, 1, 2, 7, 8, 9, 10], false⟩) (.cond (some ⟨[.slot 10 false (.v tI)], [0, 1, 2, 7, 8, 9], false⟩) .o .o)) (.seq (.seq .o (.cond (some ⟨[.slot 10 false (.v tI)], [0, 1, 2, 7, 8, 9], false⟩) .o .o)) (.seq (.seq .o (.cond (some ⟨[.slot 10 false (.v tI)], [0, 1, 2, 7, 8, 9], false⟩) .o .o)) (.seq (.seq (.reg ⟨[.slot 83 false (.v (TC.bool))], [0, 1, 2, 7, 8, 9, 10], false⟩) (.cond (some ⟨[.slot 10 false (.v tI)], [0, 1, 2, 7, 8, 9], false⟩) .o .o)) (.seq (.seq (.reg ⟨[.slot 99 false (.v (TC.bool))], [0, 1, 2, 7, 8, 9, 10], false⟩) (.cond (some ⟨[.slot 10 false (.v tI)], [0, 1, 2, 7, 8], false⟩) .o .o)) .o))))))))) .o))))) .o)))
def an45 : An := (.seq .o (.seq .o (.seq .o (.seq (.seq (.reg ⟨[.slot 30 false (.v (TC.bool))], [2, 3, 4, 5, 9], false⟩) (.cond none (.seq (.seq (.reg ⟨[.slot 37 false (.v (TC.bool))], [3, 4, 5, 9], false⟩) .o) (.seq .o (.seq (.reg ⟨[.slot 8 false (.v (TC.bool))], [], false⟩) .o))) .o)) (.seq .o (.seq .o (.seq .o (.seq (.reg ⟨[.slot 8 false (.v (TC.bool))], [], false⟩) .o))))))))
def an46 : An := .o
def an47 : An := .o
def an48 : An := (.seq .o (.seq (.seq .o (.blk none (.seq .o (.cond none .o (.seq .o (.cond none .o (.seq .o (.cond none .o (.seq .o (.cond none .o (.seq .o (.cond none .o (.seq .o (.cond none .o (.seq .o (.cond none .o (.seq .o (.cond none .o (.seq .o (.cond none .o (.seq .o (.cond none .o (.seq .o (.cond none .o (.seq .o (.cond none .o (.seq .o (.cond none .o (.seq .o (.cond none .o (.seq .o (.cond none .o (.seq .o (.cond none .o (.seq .o (.cond none (.seq (.reg ⟨[.slot 8 false (.v tI)], [], false⟩) .o) (.seq .o (.cond none (.seq (.reg ⟨[.slot 8 false (.v tI)], [], false⟩) .o) .o)))))))))))))))))))))))))))))))))))))) .o))
def an49 : An := .o
def an50 : An := .o
def an62 : An := (.seq .o (.seq (.seq .o (.blk none (.loop ⟨[.slot 3 false (.v tI)], [0], false⟩ (.seq .o (.seq (.blk none (.seq (.reg ⟨[.slot 25 false (.v (TC.bool))], [0, 3], false⟩) .o)) .o))))) (.seq (.reg ⟨[.slot 2 false (.v (TC.bool))], [], false⟩) .o)))
def an63 : An := (.seq .o (.seq (.reg ⟨[.slot 7 false (.v (TC.bool))], [1, 5], false⟩) (.seq (.reg ⟨[.slot 8 false (.v (TC.bool))], [1, 5, 7], false⟩) (.seq (.reg ⟨[.slot 9 false (.v (TC.bool))], [1, 5, 7, 8], false⟩) (.seq (.reg ⟨[.slot 10 false (.v (TC.bool))], [1, 5, 7, 8, 9], false⟩) (.seq (.reg ⟨[.slot 11 false (.v (TC.bool))], [7, 8, 9, 10], false⟩) (.seq (.reg ⟨[.slot 6 false (.v (TC.bool))], [], false⟩) .o)))))))
def an64 : An := (.seq .o (.seq .o (.seq .o (.seq (.seq (.reg ⟨[.slot 41 false (.v (TC.bool))], [1, 2, 3, 7, 8], false⟩) .o) (.seq (.seq (.reg ⟨[.slot 68 false (.v (TC.bool))], [2, 3, 7, 8], false⟩) .o) (.seq (.seq .o (.seq (.reg ⟨[.slot 99 false (.v (TC.bool))], [2, 3, 7, 8], false⟩) .o)) (.seq .o (.seq (.seq (.reg ⟨[.slot 152 false (.v (TC.bool))], [2, 3, 7, 8], false⟩) .o) (.seq (.seq (.reg ⟨[.slot 178 false (.v (TC.bool))], [2, 7, 8], false⟩) .o) (.seq .o (.seq (.seq (.reg ⟨[.slot 213 false (.v (TC.bool))], [2, 7, 8], false⟩) .o) (.seq (.seq .o (.blk none (.loop ⟨[.slot 11 false (.v tI)], [2, 7, 8], false⟩ (.seq .o (.seq (.blk none (.seq (.reg ⟨[.slot 237 false (.v (TC.bool))], [2, 7, 8, 11], false⟩) .o)) .o))))) .o))))))))))))
def an65 : An := (.seq .o (.seq .o (.seq (.seq .o (.blk none (.loop ⟨[.slot 4 false (.v tI)], [1, 3], false⟩ (.seq .o (.seq (.blk none (.seq .o (.seq .o (.blk none (.loop ⟨[.slot 5 false (.own TC.bool), .slot 6 false (.v tI)], [1, 3, 4], false⟩ (.seq .o (.seq (.blk none (.seq .o (.seq (.seq .o (.blk none (.loop ⟨[.slot 8 false (.v tI)], [1, 3, 4, 5, 6, 7], false⟩ (.seq .o (.seq (.blk none (.seq .o (.seq (.reg ⟨[.slot 88 false (.v (TC.bool))], [1, 3, 4, 5, 6, 7, 8], false⟩) .o))) .o))))) (.seq .o (.cond (some ⟨[.slot 5 false (.own TC.bool)], [1, 3, 4, 6], false⟩) .o .o))))) .o))))))) .o))))) .o)))
def an67 : An := (.seq .o (.seq .o (.seq (.seq .o (.cond (some ⟨[.slot 5 false (.v tI)], [], false⟩) .o .o)) .o)))
def an68 : An := .o
def an69 : An := .o
def an70 : An := .o
def an71 : An := .o
def an72 : An := .o
def an73 : An := .o
def an74 : An := (.seq .o (.seq .o (.seq (.seq .o (.blk none (.loop ⟨[.slot 9 false (.v tI), .slot 10 false (.v tI)], [0, 1, 2], false⟩ (.seq .o (.seq (.blk none (.seq .o (.seq .o (.seq (.seq (.reg ⟨[.slot 52 false (.v (TC.bool))], [0, 1, 2, 9, 10, 13], false⟩) (.cond (some ⟨[.slot 13 false (.v tI)], [0, 1, 2, 9, 10], false⟩) .o .o)) .o)))) .o))))) .o)))
def an75 : An := .o
def an91 : An := (.seq .o (.seq (.reg ⟨[.slot 2 false (.v (TC.bool))], [], false⟩) .o))
def an92 : An := (.seq .o (.seq (.reg ⟨[.slot 2 false (.v (TC.bool))], [], false⟩) .o))
def an93 : An := (.seq .o (.seq .o (.seq (.seq .o (.blk none (.loop ⟨[.slot 4 false (.v tI)], [0, 3], false⟩ .o))) .o)))
def an94 : An := .o
def an95 : An := (.seq .o (.seq (.reg ⟨[.slot 4 false (.v (TC.bool))], [], false⟩) .o))
def an96 : An := (.seq .o (.seq .o (.seq (.seq .o (.blk none (.loop ⟨[.slot 4 false (.v tI)], [0, 3], false⟩ (.seq .o (.seq (.blk none (.seq .o (.blk none (.loop ⟨[.slot 5 false (.v tI)], [0, 3, 4], false⟩ .o)))) .o))))) .o)))
def an97 : An := .o
def an98 : An := (.seq .o (.seq .o (.seq (.seq (.reg ⟨[.slot 22 false (.v (TC.bool))], [], false⟩) .o) .o)))
def an99 : An := (.seq .o (.seq (.reg ⟨[.slot 2 false (.v (TC.bool))], [], false⟩) .o))
def an100 : An := (.seq .o (.seq .o (.seq (.seq .o (.blk none (.loop ⟨[.slot 3 false (.own (TC.sl TC.bool)), .slot 4 false (.v tI)], [0], false⟩ (.seq .o (.seq (.blk none (.seq .o (.seq .o (.seq (.seq .o (.cond (some ⟨[.slot 5 false (.own TC.bool)], [0, 3, 4, 6], false⟩) .o .o)) (.seq (.seq .o (.cond (some ⟨[.slot 6 false (.own tI)], [0, 3, 4, 5], false⟩) .o .o)) (.seq (.seq .o (.cond (some ⟨[.slot 6 false (.own tI)], [0, 3, 4, 5], false⟩) .o .o)) (.seq (.seq .o (.cond (some ⟨[.slot 6 false (.own tI)], [0, 3, 4, 5], false⟩) .o .o)) (.seq (.seq .o (.blk none (.loop ⟨[.slot 5 false (.own TC.bool), .slot 7 false (.v tI)], [0, 3, 4, 6], false⟩ (.seq .o (.seq (.blk none (.seq .o (.blk none (.loop ⟨[.slot 5 false (.own TC.bool), .slot 8 false (.v tI)], [0, 3, 4, 6, 7], false⟩ .o)))) .o))))) .o)))))))) .o))))) .o)))
def an101 : An := (.seq .o (.seq (.seq .o (.blk none (.loop ⟨[.slot 0 false (.v tI), .slot 5 false (.v tI)], [1], false⟩ .o))) .o))
def an114 : An := .o
def an31 : An := .o
def an80 : An := (.seq .o (.seq (.seq (.reg ⟨[.slot 14 false (.v (TC.bool))], [0, 1], false⟩) .o) (.seq (.seq .o (.blk none (.loop ⟨[.slot 17 false (.v tI)], [0, 15, 16], false⟩ .o))) .o)))
def an81 : An := (.seq .o (.seq .o (.seq (.seq .o (.blk none (.loop ⟨[.slot 3 false (.own tI), .slot 8 false (.v tI)], [0, 6, 7], false⟩ (.seq .o (.seq .o (.seq (.blk none (.seq .o (.seq .o (.blk none (.seq .o (.cond (some ⟨[.slot 3 false (.own tI)], [0, 6, 7, 8], true⟩) .o (.seq .o (.cond (some ⟨[.slot 3 false (.own tI)], [0, 6, 7, 8], true⟩) (.seq (.blk none (.loop ⟨[.slot 3 false (.own tI)], [0, 5, 6, 7, 8], false⟩ (.seq (.seq (.reg ⟨[.slot 36 false (.v (TC.bool))], [0, 3, 5, 6, 7, 8], false⟩) .o) .o))) (.seq (.seq (.reg ⟨[.slot 55 false (.v (TC.bool))], [0, 3, 6, 7, 8], false⟩) .o) .o)) .o)))))))) .o)))))) .o)))
def an82 : An := (.seq .o (.seq (.seq (.reg ⟨[.slot 21 false (.v (TC.bool))], [3, 5], false⟩) .o) (.seq (.seq (.reg ⟨[.slot 47 false (.v (TC.bool))], [3, 5], false⟩) .o) (.seq (.reg ⟨[.slot 6 false (.v (TC.bool))], [], false⟩) .o))))
def an83 : An := (.seq .o (.seq .o (.seq (.seq .o (.blk none (.loop ⟨[.slot 3 false (.own (.int .u64)), .slot 9 false (.v tI)], [7, 8], false⟩ (.seq .o (.seq .o (.seq (.blk none (.seq .o (.seq .o (.seq (.seq .o (.blk none (.seq .o (.cond (some ⟨[.slot 6 false (.v (.int .u64))], [3, 7, 8, 9], false⟩) .o (.seq .o (.cond (some ⟨[.slot 6 false (.v (.int .u64))], [3, 7, 8, 9], false⟩) .o (.seq .o (.cond (some ⟨[.slot 6 false (.v (.int .u64))], [3, 7, 8, 9], false⟩) .o (.seq .o (.cond (some ⟨[.slot 6 false (.v (.int .u64))], [3, 7, 8, 9], false⟩) .o .o)))))))))) .o)))) .o)))))) .o)))
def an84 : An := (.seq .o (.seq .o (.seq (.seq .o (.blk none (.loop ⟨[.slot 5 false (.v (.int .u64)), .slot 11 false (.v tI)], [1, 9, 10], false⟩ (.seq .o (.seq .o (.seq (.blk none (.seq .o (.seq .o (.seq (.seq .o (.cond (some ⟨[.slot 8 false (.v (.int .u64))], [1, 5, 7, 9, 10, 11], false⟩) .o .o)) (.seq (.seq .o (.cond (some ⟨[.slot 8 false (.v (.int .u64))], [1, 5, 7, 9, 10, 11], false⟩) .o .o)) (.seq .o (.seq .o (.cond (some ⟨[.slot 5 false (.v (.int .u64))], [1, 9, 10, 11], false⟩) .o .o)))))))) .o)))))) .o)))
def an54 : An := (.seq .o (.seq .o (.seq .o (.seq (.seq .o (.blk none (.loop ⟨[.slot 7 false (.own tI), .slot 17 false (.v tI)], [0, 2, 15, 16], false⟩ (.seq .o (.seq .o (.seq (.blk none (.seq .o (.seq .o (.seq (.seq .o (.blk none (.seq .o (.cond (some ⟨[.slot 10 false (.v tI)], [0, 2, 7, 15, 16, 17], false⟩) .o (.seq .o (.cond (some ⟨[.slot 10 false (.v tI)], [0, 2, 7, 15, 16, 17], false⟩) (.seq .o (.cond (some ⟨[.slot 10 false (.v tI)], [0, 2, 7, 15, 16, 17], false⟩) .o .o)) (.seq .o (.cond (some ⟨[.slot 10 false (.v tI)], [0, 2, 7, 15, 16, 17], false⟩) .o (.seq .o (.cond (some ⟨[.slot 10 false (.v tI)], [0, 2, 7, 15, 16, 17], false⟩) .o (.seq .o (.seq .o (.cond (some ⟨[.slot 10 false (.v tI)], [0, 2, 7, 15, 16, 17], false⟩) .o .o))))))))))))) .o)))) .o)))))) .o))))
def an55 : An := (.seq .o (.seq (.seq .o (.blk none (.seq (.seq .o (.cond (some ⟨[.slot 4 false (.v (TC.bool))], [3], false⟩) .o (.seq .o (.cond (some ⟨[.slot 4 false (.v (TC.bool))], [3], false⟩) .o (.seq .o (.cond (some ⟨[.slot 4 false (.v (TC.bool))], [3], false⟩) .o (.seq .o (.cond (some ⟨[.slot 4 false (.v (TC.bool))], [3], false⟩) .o .o)))))))) .o))) .o))
def an56 : An := (.seq .o (.seq (.seq .o (.blk none (.loop ⟨[.slot 8 false (.v tI)], [0, 3, 7], false⟩ .o))) .o))
def an87 : An := .o
def an88 : An := (.seq .o (.seq .o (.seq .o (.seq .o (.seq .o (.seq (.seq .o (.blk none (.seq .o (.cond none .o (.seq .o (.cond none .o (.seq .o (.cond none .o (.seq .o (.cond none .o (.seq .o (.cond none .o (.seq .o (.cond none .o (.seq .o (.cond none (.seq (.reg ⟨[.slot 8 false (.v tI)], [], false⟩) .o) (.seq .o (.cond none (.seq (.reg ⟨[.slot 8 false (.v tI)], [], false⟩) .o) .o)))))))))))))))))) .o))))))
def an106 : An := (.seq .o (.seq (.reg ⟨[.slot 2 false (.v (TC.bool))], [], false⟩) .o))
def an107 : An := (.seq .o (.seq .o (.seq (.seq .o (.blk none (.seq .o (.cond none (.seq (.reg ⟨[.slot 6 false (.v (TC.bool))], [], false⟩) .o) (.seq .o (.cond none (.seq (.reg ⟨[.slot 6 false (.v (TC.bool))], [], false⟩) .o) (.seq .o (.cond none (.seq (.reg ⟨[.slot 6 false (.v (TC.bool))], [], false⟩) .o) (.seq .o (.cond none (.seq (.reg ⟨[.slot 6 false (.v (TC.bool))], [], false⟩) .o) (.seq .o (.cond none (.seq (.reg ⟨[.slot 6 false (.v (TC.bool))], [], false⟩) .o) .o)))))))))))) .o)))
def an108 : An := (.seq .o (.seq (.seq .o (.blk none (.seq .o (.cond none (.seq (.reg ⟨[.slot 6 false (.v (TC.bool))], [], false⟩) .o) (.seq (.seq .o (.cond (some ⟨[.slot 23 false (.v (TC.bool))], [3, 5], false⟩) .o .o)) .o))))) (.seq (.reg ⟨[.slot 6 false (.v (TC.bool))], [], false⟩) .o)))
def an109 : An := (.seq .o (.seq (.seq .o (.blk none (.seq (.seq .o (.cond (some ⟨[.slot 4 false (.v (TC.bool))], [], false⟩) .o (.seq .o (.cond (some ⟨[.slot 4 false (.v (TC.bool))], [], false⟩) .o (.seq .o (.cond (some ⟨[.slot 4 false (.v (TC.bool))], [], false⟩) .o (.seq .o (.cond (some ⟨[.slot 4 false (.v (TC.bool))], [], false⟩) .o .o)))))))) .o))) .o))
def an110 : An := (.seq .o (.seq (.seq .o (.cond none (.seq (.reg ⟨[.slot 6 false (.v (TC.bool))], [], false⟩) .o) .o)) .o))
def an112 : An := .o
def an113 : An := .o
def an127 : An := (.seq .o (.seq (.reg ⟨[.slot 2 false (.v (TC.bool))], [], false⟩) .o))
def an128 : An := (.seq .o (.seq (.seq .o (.blk none (.seq (.seq .o (.cond (some ⟨[.slot 4 false (.v (TC.bool))], [3], false⟩) .o (.seq .o (.cond (some ⟨[.slot 4 false (.v (TC.bool))], [3], false⟩) .o (.seq .o (.cond (some ⟨[.slot 4 false (.v (TC.bool))], [3], false⟩) .o (.seq .o (.cond (some ⟨[.slot 4 false (.v (TC.bool))], [3], false⟩) .o (.seq .o (.cond (some ⟨[.slot 4 false (.v (TC.bool))], [3], false⟩) .o .o)))))))))) (.cond none .o (.seq (.seq .o (.cond (some ⟨[.slot 11 false (.v (TC.bool))], [3], false⟩) .o (.seq .o (.cond (some ⟨[.slot 11 false (.v (TC.bool))], [3], false⟩) .o (.seq .o (.cond (some ⟨[.slot 11 false (.v (TC.bool))], [3], false⟩) .o .o)))))) (.cond none .o (.seq (.seq .o (.cond (some ⟨[.slot 16 false (.v (TC.bool))], [3], false⟩) .o (.seq .o (.cond (some ⟨[.slot 16 false (.v (TC.bool))], [3], false⟩) .o (.seq .o (.cond (some ⟨[.slot 16 false (.v (TC.bool))], [3], false⟩) .o (.seq .o (.cond (some ⟨[.slot 16 false (.v (TC.bool))], [3], false⟩) .o (.seq .o (.cond (some ⟨[.slot 16 false (.v (TC.bool))], [3], false⟩) .o .o)))))))))) .o))))))) .o))
def an129 : An := (.seq .o (.seq (.seq .o (.blk none (.seq (.seq .o (.cond (some ⟨[.slot 4 false (.v (TC.bool))], [3], false⟩) .o .o)) (.cond none .o (.seq (.seq .o (.cond (some ⟨[.slot 7 false (.v (TC.bool))], [3], false⟩) .o (.seq .o (.cond (some ⟨[.slot 7 false (.v (TC.bool))], [3], false⟩) .o (.seq .o (.cond (some ⟨[.slot 7 false (.v (TC.bool))], [3], false⟩) .o .o)))))) (.cond none .o (.seq (.seq .o (.cond (some ⟨[.slot 12 false (.v (TC.bool))], [3], false⟩) .o .o)) (.cond none .o (.seq (.seq .o (.cond (some ⟨[.slot 15 false (.v (TC.bool))], [], false⟩) .o .o)) .o))))))))) .o))
def an131 : An := (.seq .o (.seq (.reg ⟨[.slot 2 false (.v (TC.bool))], [], false⟩) .o))
def an132 : An := (.seq .o (.seq (.reg ⟨[.slot 2 false (.v (TC.bool))], [], false⟩) .o))
def an141 : An := (.seq .o (.seq (.reg ⟨[.slot 2 false (.v (TC.bool))], [], false⟩) .o))
def an142 : An := (.seq .o (.seq (.blk none (.loop ⟨[.slot 1 false (.v tI)], [0], false⟩ (.seq (.seq (.reg ⟨[.slot 22 false (.v (TC.bool))], [0, 1], false⟩) .o) .o))) .o))
def an143 : An := (.seq .o (.seq (.reg ⟨[.slot 2 false (.v (TC.bool))], [], false⟩) .o))
def an150 : An := (.seq .o (.seq (.reg ⟨[.slot 2 false (.v (TC.bool))], [], false⟩) .o))
def an53 : An := .o
def an52 : An := (.seq .o (.seq .o (.seq (.seq .o (.blk none (.seq .o (.cond none (.seq (.reg ⟨[.slot 6 false (.v (TC.bool))], [], false⟩) .o) (.seq .o (.cond none (.seq (.reg ⟨[.slot 6 false (.v (TC.bool))], [], false⟩) .o) .o)))))) (.seq (.reg ⟨[.slot 6 false (.v (TC.bool))], [], false⟩) .o))))
def an39 : An := (.seq .o (.seq (.seq (.reg ⟨[.slot 40 false (.v (TC.bool))], [0, 1], false⟩) .o) (.seq .o (.seq (.seq .o (.blk none (.loop ⟨[.slot 7 false (.v tI)], [0, 6], false⟩ .o))) .o))))
def an89 : An := .o
def an57 : An := (.seq .o (.seq .o (.seq (.seq .o (.blk none (.seq .o (.cond none .o (.seq .o (.cond (some ⟨[.cont 0 [] (.v tMach)], [0], true⟩) .o (.seq .o (.cond (some ⟨[.cont 0 [] (.v tMach)], [0], true⟩) .o (.seq .o (.cond (some ⟨[], [0], true⟩) .o .o)))))))))) .o)))
def an90 : An := (.seq .o (.seq .o (.seq (.seq .o (.blk none (.loop ⟨[.slot 7 false (.own tI), .slot 16 false (.v tI), .cont 0 [] (.v tMach)], [0, 1, 2, 15], false⟩ (.seq .o (.seq .o (.seq (.blk none (.seq .o (.seq .o (.seq (.reg ⟨[.slot 35 false (.v (TC.bool))], [0, 1, 2, 7, 8, 15, 16], false⟩) (.cond (some ⟨[.slot 7 false (.own tI)], [0, 1, 2, 15, 16], false⟩) .o .o))))) .o)))))) .o)))
def an32 : An := (.seq .o (.seq .o (.seq (.seq .o (.blk none (.loop ⟨[.slot 3 false (.own tTurn), .slot 13 false (.v tI), .cont 0 [] (.v tMach)], [0, 12], false⟩ (.seq .o (.seq .o (.seq (.blk none (.seq .o (.seq .o (.blk none (.loop ⟨[.slot 3 false (.own tTurn), .slot 20 false (.v tI)], [0, 4, 12, 13, 18, 19], false⟩ .o))))) .o)))))) .o)))
def an33 : An := (.seq .o (.seq (.reg ⟨[.cont 1 [] shS], [1, 2], false⟩) .o))
def an58 : An := .o
def an59 : An := .o
def an51 : An := (.seq .o (.seq .o (.seq (.seq .o (.cond (some ⟨[.cont 3 [] (.pair (.v tI) (.pair (.v (.sl tDecl)) (.own tProc)))], [1, 3], false⟩) (.seq .o (.blk none (.loop ⟨[.cont 3 [] (.pair (.v tI) (.pair (.v (.sl tDecl)) (.own tProc)))], [1, 3], false⟩ (.seq (.seq (.reg ⟨[.slot 44 false (.v (TC.bool))], [1, 3], false⟩) .o) .o)))) .o)) (.seq (.seq .o (.seq (.reg ⟨[.slot 80 false (.v (TC.bool))], [1], false⟩) .o)) (.seq .o (.seq .o (.seq .o (.seq (.seq .o (.blk none (.loop ⟨[.slot 7 false (.map .bool), .slot 8 false (.map .bool), .slot 9 false (.v tI), .slot 86 false (.v tI)], [1, 84, 85], false⟩ (.seq .o (.seq .o (.seq (.blk none (.seq .o (.seq .o (.seq .o (.seq .o (.blk none (.loop ⟨[.slot 7 false (.map .bool), .slot 8 false (.map .bool), .slot 100 false (.v tI)], [1, 9, 10, 84, 85, 86, 98, 99], false⟩ (.seq .o (.seq .o (.seq (.blk none (.seq .o (.seq (.seq (.reg ⟨[.slot 130 false (.v (TC.bool))], [1, 7, 8, 9, 10, 13, 84, 85, 86, 98, 99, 100], false⟩) .o) (.seq .o (.reg ⟨[.slot 8 false (.map .bool)], [1, 7, 9, 10, 84, 85, 86, 98, 99, 100], false⟩))))) .o)))))))))) .o)))))) (.seq .o (.seq (.seq (.reg ⟨[.slot 162 false (.v (TC.bool))], [1, 7], false⟩) .o) (.seq (.seq .o (.blk none (.loop ⟨[.slot 164 false (.iter .bool)], [1], false⟩ .o))) (.seq .o (.seq (.seq .o (.blk none (.loop ⟨[.slot 179 false (.v tI)], [15, 177, 178], false⟩ .o))) .o)))))))))))))
def an79 : An := (.seq .o (.seq .o (.seq (.seq (.reg ⟨[.slot 18 false (.v (TC.bool))], [1], false⟩) .o) (.seq .o (.seq .o (.seq (.seq .o (.blk none (.loop ⟨[.slot 28 false (.v tI), .cont 5 [] shC], [5, 26, 27], false⟩ .o))) .o))))))
def an23 : An := (.seq .o (.seq .o (.seq (.seq (.reg ⟨[.slot 61 false (.v (TC.bool))], [2, 3], false⟩) .o) (.seq (.seq .o (.blk none (.loop ⟨[.slot 65 false (.v tI)], [2, 3, 63, 64], false⟩ (.seq .o (.seq .o (.seq (.blk none (.seq .o (.seq (.reg ⟨[.slot 81 false (.v (TC.bool))], [2, 3, 63, 64, 65], false⟩) .o))) .o)))))) (.seq (.seq .o (.blk none (.loop ⟨[.slot 86 false (.v tI)], [2, 3, 85], false⟩ .o))) .o)))))
def an29 : An := (.seq .o (.seq .o (.seq .o (.seq (.reg ⟨[.slot 5 false (.box shB)], [1, 2], false⟩) (.seq .o (.seq (.seq .o (.blk none (.loop ⟨[.slot 39 false (.v tI), .cont 5 [] shB], [2, 5, 37, 38], false⟩ (.seq .o (.seq .o (.seq (.blk none (.seq .o (.seq (.reg ⟨[.slot 51 false (.v (TC.bool))], [2, 5, 6, 7, 37, 38, 39], false⟩) (.cond (some ⟨[.cont 5 [] shB], [2, 5, 37, 38, 39], false⟩) .o .o)))) .o)))))) .o))))))
def an10 : An := .o
def an13 : An := .o
def an15 : An := .o
def an16 : An := (.seq .o (.seq .o (.seq .o (.seq .o (.seq .o (.seq (.seq .o (.blk none (.loop ⟨[.slot 8 false (.own tI), .slot 25 false (.v tI), .cont 5 [] (.v tMach)], [5, 7, 24], false⟩ (.seq .o (.seq .o (.seq (.blk none (.seq .o (.seq .o (.seq (.reg ⟨[.slot 40 false (.v (TC.bool))], [5, 7, 8, 9, 24, 25], false⟩) (.cond (some ⟨[.slot 8 false (.own tI)], [5, 7, 24, 25], false⟩) .o .o))))) .o)))))) .o))))))
def an24 : An := (.seq .o (.seq .o (.seq .o (.seq (.seq .o (.blk none (.loop ⟨[.slot 7 false (.v tI), .slot 8 false (.own tState), .slot 9 false (.v tI), .cont 6 [] (.v tState)], [1, 2, 6], false⟩ (.seq (.seq (.reg ⟨[.slot 24 false (.v (TC.bool))], [1, 2, 6, 8, 9], false⟩) .o) (.seq (.blk none (.seq .o (.seq .o (.seq .o (.seq (.seq .o (.cond (some ⟨[.slot 11 false (.v tI)], [1, 2, 6, 8, 9, 10], false⟩) .o .o)) .o))))) .o))))) .o))))
def an26 : An := (.seq .o (.seq (.seq (.reg ⟨[.slot 25 false (.v (TC.bool))], [1, 2, 3], false⟩) .o) (.seq .o (.seq .o (.seq (.seq .o (.blk none (.loop ⟨[.slot 8 false (.own (TC.pair tI tI)), .slot 38 false (.v tI)], [2, 3, 7, 36, 37], false⟩ (.seq .o (.seq .o (.seq (.blk (some ⟨[.slot 8 false (.own (TC.pair tI tI))], [2, 3, 7, 36, 37, 38], false⟩) (.seq .o (.seq .o (.seq .o (.seq (.blk none (.seq (.reg ⟨[.slot 51 false (.v (TC.bool))], [2, 3, 7, 8, 10, 11, 36, 37, 38], false⟩) (.cond (some ⟨[.cont 11 [] (.v (TC.pair tI tI))], [2, 3, 7, 8, 11, 36, 37, 38], false⟩) .o (.seq (.reg ⟨[.slot 73 false (.v (TC.bool))], [2, 3, 7, 8, 10, 11, 36, 37, 38], false⟩) (.cond (some ⟨[.cont 11 [] (.v (TC.pair tI tI))], [2, 3, 7, 8, 11, 36, 37, 38], false⟩) .o .o))))) .o))))) .o)))))) .o)))))
def an27 : An := (.seq .o (.seq .o (.seq .o (.seq (.seq .o (.blk none (.loop ⟨[.slot 10 false (.v (TC.bool)), .slot 11 false (.v tI)], [2, 3, 4, 5, 9], false⟩ (.seq .o (.seq (.blk none (.seq (.seq (.reg ⟨[.slot 43 false (.v (TC.bool))], [2, 3, 4, 5, 9, 10, 11], false⟩) .o) (.seq .o (.seq (.reg ⟨[.slot 82 false (.v (TC.bool))], [2, 3, 4, 5, 9, 10, 11, 12], false⟩) (.cond (some ⟨[.slot 10 false (.v (TC.bool))], [2, 3, 4, 5, 9, 11], false⟩) .o .o))))) .o))))) .o))))
def an9 : An := (.seq .o (.seq .o (.seq .o (.seq .o (.seq .o (.seq (.reg ⟨[.slot 0 false (.v (TC.bool))], [], false⟩) .o))))))
def an3 : An := (.seq .o (.seq (.seq (.reg ⟨[.slot 27 false (.v (TC.bool))], [3, 4, 5], false⟩) .o) (.seq .o (.seq (.seq (.reg ⟨[.slot 44 false (.v (TC.bool))], [3, 4, 5, 7, 8], false⟩) (.cond none (.seq .o (.seq (.reg ⟨[.slot 6 false (.v (TC.bool))], [], false⟩) .o)) .o)) (.seq (.seq .o (.blk none (.loop ⟨[.slot 11 false (.v tI)], [3, 4, 5, 7, 8], false⟩ (.seq .o (.seq (.blk none (.seq .o (.seq .o (.seq (.reg ⟨[.slot 116 false (.v (TC.bool))], [3, 4, 5, 7, 8, 11], false⟩) .o)))) .o))))) (.seq .o (.seq (.seq (.reg ⟨[.slot 135 false (.v (TC.bool))], [3, 4, 5, 7, 8, 15], false⟩) .o) (.seq .o (.seq (.seq .o (.blk none (.loop ⟨[.slot 16 false (.v (TC.bool)), .slot 17 false (.v tI)], [3, 4, 5, 7, 8, 15], false⟩ (.seq .o (.seq (.blk none (.seq .o (.seq (.seq (.reg ⟨[.slot 171 false (.v (TC.bool))], [3, 4, 5, 7, 8, 15, 16, 17], false⟩) .o) (.reg ⟨[.slot 16 false (.v (TC.bool))], [3, 4, 5, 7, 8, 15, 17], false⟩)))) .o))))) (.seq (.reg ⟨[.slot 6 false (.v (TC.bool))], [], false⟩) .o))))))))))
def an4 : An := (.seq .o (.seq .o (.seq .o (.seq .o (.seq (.seq .o (.blk none (.loop ⟨[.slot 7 false (.v tI), .slot 8 false (.v tI)], [2, 5, 6], false⟩ .o))) (.seq (.seq (.reg ⟨[.slot 47 false (.v (TC.bool))], [2, 5], false⟩) .o) (.seq .o (.seq .o (.seq (.seq .o (.blk none (.loop ⟨[.slot 11 false (.v tI)], [2, 9, 10], false⟩ .o))) .o)))))))))
def an5 : An := (.seq .o (.seq .o (.seq .o (.seq .o (.seq .o (.seq .o (.seq .o (.seq (.seq .o (.blk none (.loop ⟨[.slot 9 false (.v tI)], [2, 7, 8], false⟩ (.seq .o (.seq (.blk none (.seq .o (.seq .o (.seq .o (.seq (.seq .o (.blk none (.loop ⟨[.slot 11 false (.v tI), .slot 12 false (.v (TC.bool)), .slot 13 false (.v tI)], [2, 7, 8, 9, 10], false⟩ (.seq .o (.seq (.blk none (.seq (.reg ⟨[.slot 75 false (.v (TC.bool))], [2, 7, 8, 9, 10, 11, 12, 13], false⟩) (.cond (some ⟨[.slot 11 false (.v tI), .slot 12 false (.v (TC.bool))], [2, 7, 8, 9, 10, 13], false⟩) (.seq .o (.reg ⟨[.slot 12 false (.v (TC.bool))], [2, 7, 8, 9, 10, 11, 13], false⟩)) .o))) .o))))) (.seq (.seq (.reg ⟨[.slot 113 false (.v (TC.bool))], [2, 7, 8, 9, 10, 11], false⟩) .o) (.seq (.reg ⟨[.slot 136 false (.v (TC.bool))], [2, 7, 8, 9], false⟩) .o))))))) .o))))) .o))))))))
def an6 : An := (.seq .o (.seq .o (.seq .o (.seq .o (.seq (.seq .o (.blk none (.loop ⟨[.slot 7 false (.v tI)], [2, 5], false⟩ (.seq .o (.seq (.blk none (.seq .o (.seq .o (.blk none (.loop ⟨[.slot 8 false (.v tI)], [2, 5, 7], false⟩ (.seq .o (.seq (.blk (some ⟨[], [2, 5, 7, 8], true⟩) (.seq .o (.seq .o (.seq (.reg ⟨[.slot 70 false (.v (TC.bool))], [2, 5, 7, 8], false⟩) .o)))) .o))))))) .o))))) .o)))))
def an104 : An := (.seq .o (.seq (.seq .o (.blk none (.loop ⟨[.slot 25 false (.v tI), .cont 0 [] shC], [0, 2, 23, 24], false⟩ (.seq .o (.seq .o (.seq (.blk none (.seq .o (.seq .o (.seq .o (.seq (.reg ⟨[.cont 0 [] shC], [0, 2, 4, 23, 24, 25], false⟩) (.reg ⟨[.cont 0 [] shC], [0, 2, 23, 24, 25], false⟩)))))) .o)))))) (.seq .o (.blk none (.loop ⟨[.slot 84 false (.v tI), .cont 0 [] shC], [0, 82, 83], false⟩ (.seq .o (.seq .o (.seq (.blk none (.seq .o (.seq .o (.seq .o (.reg ⟨[.cont 0 [] shC], [0, 82, 83, 84], false⟩))))) .o))))))))
def an34 : An := (.seq .o (.seq (.reg ⟨[.slot 4 false (.v tI), .cont 0 [] shM], [0, 3], false⟩) (.seq .o (.seq (.seq .o (.cond (some ⟨[.cont 0 [] shM], [0, 3, 4, 6], false⟩) (.seq (.reg ⟨[.slot 7 false (.v tI), .cont 0 [] shM], [0, 3, 4, 6], false⟩) .o) .o)) (.seq .o (.seq .o (.blk none (.seq (.seq .o (.cond (some ⟨[.slot 88 false (.v (TC.bool))], [0, 3, 6, 87], false⟩) .o (.seq .o (.cond (some ⟨[.slot 88 false (.v (TC.bool))], [0, 3, 6, 87], false⟩) .o (.seq .o (.cond (some ⟨[.slot 88 false (.v (TC.bool))], [0, 3, 6, 87], false⟩) .o .o)))))) (.cond (some ⟨[.cont 0 [] shM], [], false⟩) .o (.seq (.seq .o (.cond (some ⟨[.slot 96 false (.v (TC.bool))], [0, 3, 6, 87], false⟩) .o .o)) (.cond (some ⟨[.cont 0 [] shM], [], false⟩) .o (.seq .o (.cond (some ⟨[.cont 0 [] shM], [], false⟩) .o (.seq .o (.cond (some ⟨[.cont 0 [] shM], [], false⟩) .o (.seq .o (.cond (some ⟨[.cont 0 [] shM], [], false⟩) (.seq .o (.cond (some ⟨[.cont 0 [] shM], [], false⟩) .o .o)) (.seq .o (.cond (some ⟨[.cont 0 [] shM], [], false⟩) .o (.seq .o (.cond (some ⟨[.cont 0 [] shM], [], false⟩) .o (.seq .o (.cond (some ⟨[.cont 0 [] shM], [], false⟩) .o (.seq .o (.cond (some ⟨[.cont 0 [] shM], [], false⟩) .o .o)))))))))))))))))))))))))
def an61 : An := (.seq .o (.seq .o (.seq .o (.blk none (.seq .o (.cond (some ⟨[.cont 0 [] shM], [], false⟩) .o (.seq (.reg ⟨[.slot 50 false (.v (TC.bool))], [0, 3], false⟩) (.cond (some ⟨[.cont 0 [] shM], [], false⟩) .o .o))))))))
def an28 : An := .o
def an30 : An := .o
def an60 : An := .o
def an42 : An := .o
def an66 : An := (.seq .o (.seq (.seq .o (.blk none (.loop ⟨[.slot 8 false (.v tI)], [0, 1, 7], false⟩ .o))) .o))
def an43 : An := (.seq .o (.seq (.reg ⟨[.slot 3 false (.v (TC.bool))], [], false⟩) .o))
def an85 : An := .o
def an111 : An := (.seq .o (.seq (.seq .o (.blk none (.loop ⟨[.slot 8 false (.v tI)], [0, 1, 7], false⟩ .o))) .o))
def an86 : An := (.seq .o (.seq (.reg ⟨[.slot 3 false (.v (TC.bool))], [], false⟩) .o))
def an76 : An := .o
def an102 : An := (.seq .o (.seq (.seq .o (.blk none (.loop ⟨[.slot 8 false (.v tI)], [0, 1, 7], false⟩ .o))) .o))
def an77 : An := .o
def an78 : An := .o
def an103 : An := .o
def an115 : An := (.seq .o (.seq .o (.seq (.seq (.reg ⟨[.slot 34 false (.v (TC.bool))], [1, 4], false⟩) .o) (.seq .o (.seq (.seq .o (.blk none (.loop ⟨[.slot 43 false (.v tI), .cont 4 [] (.v (.pair tI tI))], [4, 41, 42], false⟩ (.seq .o (.seq .o (.seq (.blk none (.seq .o (.seq (.reg ⟨[.slot 57 false (.v (TC.bool)), .cont 4 [] (.v (.pair tI tI))], [4, 41, 42, 43], false⟩) .o))) .o)))))) .o)))))
def an116 : An := .o
def an117 : An := (.seq (.reg ⟨[.slot 15 false (.v (TC.bool))], [0, 1, 2], false⟩) (.cond (some ⟨[.cont 0 [] shC], [], false⟩) .o .o))
def an118 : An := .o
def an130 : An := .o
def an134 : An := .o
def an135 : An := (.seq .o (.seq (.seq .o (.blk none (.loop ⟨[.slot 8 false (.v tI)], [0, 1, 7], false⟩ .o))) .o))
def an136 : An := .o
def mks : Nat → An := fun k => match k with | 7 => an7 | 8 => an8 | 11 => an11 | 12 => an12 | 14 => an14 | 17 => an17 | 18 => an18 | 19 => an19 | 20 => an20 | 21 => an21 | 22 => an22 | 25 => an25 | 35 => an35 | 36 => an36 | 37 => an37 | 38 => an38 | 40 => an40 | 41 => an41 | 44 => an44 | 45 => an45 | 46 => an46 | 47 => an47 | 48 => an48 | 49 => an49 | 50 => an50 | 62 => an62 | 63 => an63 | 64 => an64 | 65 => an65 | 67 => an67 | 68 => an68 | 69 => an69 | 70 => an70 | 71 => an71 | 72 => an72 | 73 => an73 | 74 => an74 | 75 => an75 | 91 => an91 | 92 => an92 | 93 => an93 | 94 => an94 | 95 => an95 | 96 => an96 | 97 => an97 | 98 => an98 | 99 => an99 | 100 => an100 | 101 => an101 | 114 => an114 | 31 => an31 | 80 => an80 | 81 => an81 | 82 => an82 | 83 => an83 | 84 => an84 | 54 => an54 | 55 => an55 | 56 => an56 | 87 => an87 | 88 => an88 | 106 => an106 | 107 => an107 | 108 => an108 | 109 => an109 | 110 => an110 | 112 => an112 | 113 => an113 | 127 => an127 | 128 => an128 | 129 => an129 | 131 => an131 | 132 => an132 | 141 => an141 | 142 => an142 | 143 => an143 | 150 => an150 | 53 => an53 | 52 => an52 | 39 => an39 | 89 => an89 | 57 => an57 | 90 => an90 | 32 => an32 | 33 => an33 | 58 => an58 | 59 => an59 | 51 => an51 | 79 => an79 | 23 => an23 | 29 => an29 | 10 => an10 | 13 => an13 | 15 => an15 | 16 => an16 | 24 => an24 | 26 => an26 | 27 => an27 | 9 => an9 | 3 => an3 | 4 => an4 | 5 => an5 | 6 => an6 | 104 => an104 | 34 => an34 | 61 => an61 | 28 => an28 | 30 => an30 | 60 => an60 | 42 => an42 | 66 => an66 | 43 => an43 | 85 => an85 | 111 => an111 | 86 => an86 | 76 => an76 | 102 => an102 | 77 => an77 | 78 => an78 | 103 => an103 | 115 => an115 | 116 => an116 | 117 => an117 | 118 => an118 | 130 => an130 | 134 => an134 | 135 => an135 | 136 => an136 | _ => .o
def slaw27_Light (n : Nat) (x0 : tFlat.D) : Option (Bool) := bindO (TM.ask (ltI (Int.ofNat 2000) (Int.ofNat (List.length x0.2.2.1))) (some true) (TM.ask (ltI (Int.ofNat 20) (Int.ofNat (List.length x0.2.2.2.1))) (some true) (some (ltI (Int.ofNat 20) (Int.ofNat (List.length x0.2.1)))))) fun x => TM.ask x (some false) (iter (fun x rec => TM.ask (ltI x (Int.ofNat (List.length x0.2.2.1))) (need (inB x (List.length x0.2.2.1)) (TM.ask (ltI (Int.ofNat 20) (Int.ofNat (List.length (List.getD x0.2.2.1 (Int.toNat x) (Int.ofNat 0, [], Int.ofNat 0, Int.ofNat 0, Int.ofNat 0, Int.ofNat 0)).2.1))) (some false) (rec (wr IntKind.i64 (Int.add x (Int.ofNat 1)))))) (iter (fun x rec => TM.ask (ltI x (Int.ofNat (List.length x0.2.2.2.1))) (need (inB x (List.length x0.2.2.2.1)) (TM.ask (ltI (Int.ofNat 100) (Int.ofNat (List.length (List.getD x0.2.2.2.1 (Int.toNat x) [])))) (some false) (rec (wr IntKind.i64 (Int.add x (Int.ofNat 1)))))) (iter (fun x rec => TM.ask (ltI x (Int.ofNat (List.length x0.2.1))) (need (inB x (List.length x0.2.1)) (TM.ask (ltI (Int.ofNat 100) (Int.ofNat (List.length (List.getD x0.2.1 (Int.toNat x) (Int.ofNat 0, [], Int.ofNat 0, Int.ofNat 0)).2.1))) (some false) (rec (wr IntKind.i64 (Int.add x (Int.ofNat 1)))))) (some true)) n (Int.ofNat 0))) n (Int.ofNat 0))) n (Int.ofNat 0))
abbrev Flaw27_Light (n : Nat) : Fun := .p 7 [.val true tFlat] (.one false (.v .bool)) (fun x => slaw27_Light n x)
theorem oklaw27_Light (n : Nat) : FunOk Tryz.prog G (Flaw27_Light n) := funP fn mks n (by kernel_rfl) rfl (fun x => by kernel_rfl)
def sref20_Letter (n : Nat) (x0 : Int) : Option (Bool) := bindO (TM.ask (notB (ltI x0 (Int.ofNat 97))) (some (notB (ltI (Int.ofNat 122) x0))) (some false)) fun x => some x
abbrev Fref20_Letter (n : Nat) : Fun := .p 91 [.val false (.int .u8)] (.one false (.v .bool)) (fun x => sref20_Letter n x)
theorem okref20_Letter (n : Nat) : FunOk Tryz.prog G (Fref20_Letter n) := funP fn mks n (by kernel_rfl) rfl (fun x => by kernel_rfl)
def sref20_Digit (n : Nat) (x0 : Int) : Option (Bool) := bindO (TM.ask (notB (ltI x0 (Int.ofNat 48))) (some (notB (ltI (Int.ofNat 57) x0))) (some false)) fun x => some x
abbrev Fref20_Digit (n : Nat) : Fun := .p 92 [.val false (.int .u8)] (.one false (.v .bool)) (fun x => sref20_Digit n x)
theorem okref20_Digit (n : Nat) : FunOk Tryz.prog G (Fref20_Digit n) := funP fn mks n (by kernel_rfl) rfl (fun x => by kernel_rfl)
def sref20_Keys (n : Nat) : Option (List (List Int)) := some [[Int.ofNat 119, Int.ofNat 105, Int.ofNat 100, Int.ofNat 116, Int.ofNat 104], [Int.ofNat 118, Int.ofNat 97, Int.ofNat 114], [Int.ofNat 97, Int.ofNat 116, Int.ofNat 111, Int.ofNat 109, Int.ofNat 105, Int.ofNat 99], [Int.ofNat 109, Int.ofNat 117, Int.ofNat 116, Int.ofNat 101, Int.ofNat 120], [Int.ofNat 99, Int.ofNat 104, Int.ofNat 97, Int.ofNat 110], [Int.ofNat 112, Int.ofNat 114, Int.ofNat 111, Int.ofNat 99], [Int.ofNat 115, Int.ofNat 101, Int.ofNat 116], [Int.ofNat 108, Int.ofNat 111, Int.ofNat 97, Int.ofNat 100], [Int.ofNat 115, Int.ofNat 116, Int.ofNat 111, Int.ofNat 114, Int.ofNat 101], [Int.ofNat 103, Int.ofNat 101, Int.ofNat 116], [Int.ofNat 112, Int.ofNat 117, Int.ofNat 116], [Int.ofNat 97, Int.ofNat 100, Int.ofNat 100], [Int.ofNat 99, Int.ofNat 97, Int.ofNat 115], [Int.ofNat 108, Int.ofNat 111, Int.ofNat 99, Int.ofNat 107], [Int.ofNat 115, Int.ofNat 101, Int.ofNat 110, Int.ofNat 100], [Int.ofNat 114, Int.ofNat 101, Int.ofNat 99, Int.ofNat 118], [Int.ofNat 103, Int.ofNat 111], [Int.ofNat 105, Int.ofNat 102], [Int.ofNat 101, Int.ofNat 108, Int.ofNat 115, Int.ofNat 101], [Int.ofNat 119, Int.ofNat 104, Int.ofNat 105, Int.ofNat 108, Int.ofNat 101], [Int.ofNat 98, Int.ofNat 114, Int.ofNat 101, Int.ofNat 97, Int.ofNat 107], [Int.ofNat 99, Int.ofNat 111, Int.ofNat 110, Int.ofNat 116, Int.ofNat 105, Int.ofNat 110, Int.ofNat 117, Int.ofNat 101], [Int.ofNat 97, Int.ofNat 115, Int.ofNat 115, Int.ofNat 101, Int.ofNat 114, Int.ofNat 116]]
abbrev Fref20_Keys (n : Nat) : Fun := .p 114 [] (.one false (.v (.sl .str))) (fun x => sref20_Keys n )
theorem okref20_Keys (n : Nat) : FunOk Tryz.prog G (Fref20_Keys n) := funP fn mks n (by kernel_rfl) rfl (fun x => by kernel_rfl)
def sref20_Key (n : Nat) (x0 : List Int) : Option (Bool) := bindO (sref20_Keys n) fun r => iter (fun x rec => TM.ask (ltI x (Int.ofNat (List.length r))) (need (inB x (List.length r)) (TM.ask (eqS (List.getD r (Int.toNat x) ([] : List Int)) x0) (some true) (rec (wr IntKind.i64 (Int.add x (Int.ofNat 1)))))) (some false)) n (Int.ofNat 0)
abbrev Fref20_Key (n : Nat) : Fun := .p 93 [.val false .str] (.one false (.v .bool)) (fun x => sref20_Key n x)
theorem okref20_Key (n : Nat) : FunOk Tryz.prog G (Fref20_Key n) := funP (fc (okref20_Keys n) fn) mks n (by kernel_rfl) rfl (fun x => by kernel_rfl)
def sref20_Name (n : Nat) (x0 : List Int) : Option (Bool) := iter (fun x rec => TM.ask (ltI x (Int.ofNat (List.length x0))) (bindO (need (inB x (List.length x0)) (bindO (sref20_Letter n (List.getD x0 (Int.toNat x) (Int.ofNat 0))) fun r => TM.ask (notB r) (TM.ask (eqI x (Int.ofNat 0)) (some true) (need (inB x (List.length x0)) (bindO (sref20_Digit n (List.getD x0 (Int.toNat x) (Int.ofNat 0))) fun r => some (notB r)))) (some false))) fun x_1 => TM.ask x_1 (some false) (rec (wr IntKind.i64 (Int.add x (Int.ofNat 1))))) (bindO (TM.ask (notB (ltI (Int.ofNat (List.length x0)) (Int.ofNat 1))) (TM.ask (notB (ltI (Int.ofNat 12) (Int.ofNat (List.length x0)))) (bindO (sref20_Key n x0) fun r => some (notB r)) (some false)) (some false)) fun x => some x)) n (Int.ofNat 0)
abbrev Fref20_Name (n : Nat) : Fun := .p 62 [.val false .str] (.one false (.v .bool)) (fun x => sref20_Name n x)
theorem okref20_Name (n : Nat) : FunOk Tryz.prog G (Fref20_Name n) := funP (fc (okref20_Letter n) (fc (okref20_Digit n) (fc (okref20_Key n) fn))) mks n (by kernel_rfl) rfl (fun x => by kernel_rfl)
def sref26_Decls (n : Nat) (x0 : tI.D) (x1 : List (tDecl.D)) : Option (Bool) := bindO (TM.ask (ltI x0 (Int.ofNat 1)) (some true) (TM.ask (ltI (Int.ofNat 8) x0) (some true) (some (ltI (Int.ofNat 12) (Int.ofNat (List.length x1)))))) fun x => TM.ask x (some false) (iter (fun x rec => TM.ask (ltI x (Int.ofNat (List.length x1))) (need (inB x (List.length x1)) (bindO (bindO (sref20_Name n (List.getD x1 (Int.toNat x) (Int.ofNat 0, [], Int.ofNat 0, Int.ofNat 0)).2.1) fun r => TM.ask (notB r) (some true) (TM.ask (ltI (List.getD x1 (Int.toNat x) (Int.ofNat 0, [], Int.ofNat 0, Int.ofNat 0)).2.2.1 (Int.ofNat 0)) (some true) (TM.ask (notB (ltI (Int.ofNat 2) (List.getD x1 (Int.toNat x) (Int.ofNat 0, [], Int.ofNat 0, Int.ofNat 0)).1)) (need (notB (ltI x0 (Int.ofNat 0))) (TM.ask (notB (ltI (List.getD x1 (Int.toNat x) (Int.ofNat 0, [], Int.ofNat 0, Int.ofNat 0)).2.2.1 (shlI IntKind.i64 (Int.ofNat 1) x0))) (some true) (TM.ask (eqI (List.getD x1 (Int.toNat x) (Int.ofNat 0, [], Int.ofNat 0, Int.ofNat 0)).1 (Int.ofNat 4)) (TM.ask (ltI (Int.ofNat 3) (List.getD x1 (Int.toNat x) (Int.ofNat 0, [], Int.ofNat 0, Int.ofNat 0)).2.2.1) (some true) (TM.ask (eqI (List.getD x1 (Int.toNat x) (Int.ofNat 0, [], Int.ofNat 0, Int.ofNat 0)).1 (Int.ofNat 3)) (TM.ask (notB (eqI (List.getD x1 (Int.toNat x) (Int.ofNat 0, [], Int.ofNat 0, Int.ofNat 0)).2.2.1 (Int.ofNat 0))) (some true) (TM.ask (ltI (List.getD x1 (Int.toNat x) (Int.ofNat 0, [], Int.ofNat 0, Int.ofNat 0)).1 (Int.ofNat 1)) (some true) (some (ltI (Int.ofNat 4) (List.getD x1 (Int.toNat x) (Int.ofNat 0, [], Int.ofNat 0, Int.ofNat 0)).1)))) (TM.ask (ltI (List.getD x1 (Int.toNat x) (Int.ofNat 0, [], Int.ofNat 0, Int.ofNat 0)).1 (Int.ofNat 1)) (some true) (some (ltI (Int.ofNat 4) (List.getD x1 (Int.toNat x) (Int.ofNat 0, [], Int.ofNat 0, Int.ofNat 0)).1))))) (TM.ask (eqI (List.getD x1 (Int.toNat x) (Int.ofNat 0, [], Int.ofNat 0, Int.ofNat 0)).1 (Int.ofNat 3)) (TM.ask (notB (eqI (List.getD x1 (Int.toNat x) (Int.ofNat 0, [], Int.ofNat 0, Int.ofNat 0)).2.2.1 (Int.ofNat 0))) (some true) (TM.ask (ltI (List.getD x1 (Int.toNat x) (Int.ofNat 0, [], Int.ofNat 0, Int.ofNat 0)).1 (Int.ofNat 1)) (some true) (some (ltI (Int.ofNat 4) (List.getD x1 (Int.toNat x) (Int.ofNat 0, [], Int.ofNat 0, Int.ofNat 0)).1)))) (TM.ask (ltI (List.getD x1 (Int.toNat x) (Int.ofNat 0, [], Int.ofNat 0, Int.ofNat 0)).1 (Int.ofNat 1)) (some true) (some (ltI (Int.ofNat 4) (List.getD x1 (Int.toNat x) (Int.ofNat 0, [], Int.ofNat 0, Int.ofNat 0)).1))))))) (TM.ask (eqI (List.getD x1 (Int.toNat x) (Int.ofNat 0, [], Int.ofNat 0, Int.ofNat 0)).1 (Int.ofNat 4)) (TM.ask (ltI (Int.ofNat 3) (List.getD x1 (Int.toNat x) (Int.ofNat 0, [], Int.ofNat 0, Int.ofNat 0)).2.2.1) (some true) (TM.ask (eqI (List.getD x1 (Int.toNat x) (Int.ofNat 0, [], Int.ofNat 0, Int.ofNat 0)).1 (Int.ofNat 3)) (TM.ask (notB (eqI (List.getD x1 (Int.toNat x) (Int.ofNat 0, [], Int.ofNat 0, Int.ofNat 0)).2.2.1 (Int.ofNat 0))) (some true) (TM.ask (ltI (List.getD x1 (Int.toNat x) (Int.ofNat 0, [], Int.ofNat 0, Int.ofNat 0)).1 (Int.ofNat 1)) (some true) (some (ltI (Int.ofNat 4) (List.getD x1 (Int.toNat x) (Int.ofNat 0, [], Int.ofNat 0, Int.ofNat 0)).1)))) (TM.ask (ltI (List.getD x1 (Int.toNat x) (Int.ofNat 0, [], Int.ofNat 0, Int.ofNat 0)).1 (Int.ofNat 1)) (some true) (some (ltI (Int.ofNat 4) (List.getD x1 (Int.toNat x) (Int.ofNat 0, [], Int.ofNat 0, Int.ofNat 0)).1))))) (TM.ask (eqI (List.getD x1 (Int.toNat x) (Int.ofNat 0, [], Int.ofNat 0, Int.ofNat 0)).1 (Int.ofNat 3)) (TM.ask (notB (eqI (List.getD x1 (Int.toNat x) (Int.ofNat 0, [], Int.ofNat 0, Int.ofNat 0)).2.2.1 (Int.ofNat 0))) (some true) (TM.ask (ltI (List.getD x1 (Int.toNat x) (Int.ofNat 0, [], Int.ofNat 0, Int.ofNat 0)).1 (Int.ofNat 1)) (some true) (some (ltI (Int.ofNat 4) (List.getD x1 (Int.toNat x) (Int.ofNat 0, [], Int.ofNat 0, Int.ofNat 0)).1)))) (TM.ask (ltI (List.getD x1 (Int.toNat x) (Int.ofNat 0, [], Int.ofNat 0, Int.ofNat 0)).1 (Int.ofNat 1)) (some true) (some (ltI (Int.ofNat 4) (List.getD x1 (Int.toNat x) (Int.ofNat 0, [], Int.ofNat 0, Int.ofNat 0)).1)))))))) fun x_1 => TM.ask x_1 (some false) (iter (fun x_2 rec_1 => TM.ask (ltI x_2 x) (need (inB x_2 (List.length x1)) (TM.ask (eqS (List.getD x1 (Int.toNat x_2) (Int.ofNat 0, [], Int.ofNat 0, Int.ofNat 0)).2.1 (List.getD x1 (Int.toNat x) (Int.ofNat 0, [], Int.ofNat 0, Int.ofNat 0)).2.1) (some false) (rec_1 (wr IntKind.i64 (Int.add x_2 (Int.ofNat 1)))))) (rec (wr IntKind.i64 (Int.add x (Int.ofNat 1))))) n (Int.ofNat 0)))) (some true)) n (Int.ofNat 0))
abbrev Fref26_Decls (n : Nat) : Fun := .p 35 [.val false tI, .val false (.sl tDecl)] (.one false (.v .bool)) (fun x => sref26_Decls n x.1 x.2)
theorem okref26_Decls (n : Nat) : FunOk Tryz.prog G (Fref26_Decls n) := funP (fc (okref20_Name n) fn) mks n (by kernel_rfl) rfl (fun x => by kernel_rfl)
def sref16_Power (n : Nat) (x0 : tI.D) : Option (tI.D) := need (notB (ltI x0 (Int.ofNat 0))) (some (shlI IntKind.i64 (Int.ofNat 1) x0))
abbrev Fref16_Power (n : Nat) : Fun := .p 94 [.val false tI] (.one false (.v tI)) (fun x => sref16_Power n x)
theorem okref16_Power (n : Nat) : FunOk Tryz.prog G (Fref16_Power n) := funP fn mks n (by kernel_rfl) rfl (fun x => by kernel_rfl)
def sref25_ahead (n : Nat) (x0 : tI.D) (x1 : tI.D) : Option (Bool) := bindO (TM.ask (notB (ltI x0 (Int.ofNat 0))) (some (ltI x0 x1)) (some false)) fun x => some x
abbrev Fref25_ahead (n : Nat) : Fun := .p 95 [.val false tI, .val false tI] (.one false (.v .bool)) (fun x => sref25_ahead n x.1 x.2)
theorem okref25_ahead (n : Nat) : FunOk Tryz.prog G (Fref25_ahead n) := funP fn mks n (by kernel_rfl) rfl (fun x => by kernel_rfl)
def sref21_Binary (n : Nat) (x0 : List Int) : Option (tI.D) := iter (fun x rec => TM.ask (ltI x (Int.ofNat 5)) (iter (fun x_1 rec_1 => need (inB x 5) (TM.ask (ltI x_1 (Int.ofNat (List.length (List.getD [[[Int.ofNat 124, Int.ofNat 124]], [[Int.ofNat 38, Int.ofNat 38]], [[Int.ofNat 61, Int.ofNat 61], [Int.ofNat 33, Int.ofNat 61], [Int.ofNat 60], [Int.ofNat 60, Int.ofNat 61], [Int.ofNat 62], [Int.ofNat 62, Int.ofNat 61]], [[Int.ofNat 43], [Int.ofNat 45], [Int.ofNat 124], [Int.ofNat 94]], [[Int.ofNat 42], [Int.ofNat 47], [Int.ofNat 37], [Int.ofNat 60, Int.ofNat 60], [Int.ofNat 62, Int.ofNat 62], [Int.ofNat 38]]] (Int.toNat x) ([] : List (List Int)))))) (need (inB x 5) (need (inB x_1 (List.length (List.getD [[[Int.ofNat 124, Int.ofNat 124]], [[Int.ofNat 38, Int.ofNat 38]], [[Int.ofNat 61, Int.ofNat 61], [Int.ofNat 33, Int.ofNat 61], [Int.ofNat 60], [Int.ofNat 60, Int.ofNat 61], [Int.ofNat 62], [Int.ofNat 62, Int.ofNat 61]], [[Int.ofNat 43], [Int.ofNat 45], [Int.ofNat 124], [Int.ofNat 94]], [[Int.ofNat 42], [Int.ofNat 47], [Int.ofNat 37], [Int.ofNat 60, Int.ofNat 60], [Int.ofNat 62, Int.ofNat 62], [Int.ofNat 38]]] (Int.toNat x) ([] : List (List Int))))) (TM.ask (eqS (List.getD (List.getD [[[Int.ofNat 124, Int.ofNat 124]], [[Int.ofNat 38, Int.ofNat 38]], [[Int.ofNat 61, Int.ofNat 61], [Int.ofNat 33, Int.ofNat 61], [Int.ofNat 60], [Int.ofNat 60, Int.ofNat 61], [Int.ofNat 62], [Int.ofNat 62, Int.ofNat 61]], [[Int.ofNat 43], [Int.ofNat 45], [Int.ofNat 124], [Int.ofNat 94]], [[Int.ofNat 42], [Int.ofNat 47], [Int.ofNat 37], [Int.ofNat 60, Int.ofNat 60], [Int.ofNat 62, Int.ofNat 62], [Int.ofNat 38]]] (Int.toNat x) ([] : List (List Int))) (Int.toNat x_1) ([] : List Int)) x0) (some (wr IntKind.i64 (Int.add x (Int.ofNat 1)))) (rec_1 (wr IntKind.i64 (Int.add x_1 (Int.ofNat 1))))))) (rec (wr IntKind.i64 (Int.add x (Int.ofNat 1)))))) n (Int.ofNat 0)) (some (Int.ofNat 0))) n (Int.ofNat 0)
abbrev Fref21_Binary (n : Nat) : Fun := .p 96 [.val false .str] (.one false (.v tI)) (fun x => sref21_Binary n x)
theorem okref21_Binary (n : Nat) : FunOk Tryz.prog G (Fref21_Binary n) := funP fn mks n (by kernel_rfl) rfl (fun x => by kernel_rfl)
def sref25_Fits (n : Nat) (x0 : tI.D) (x1 : tI.D) (x2 : tTerm.D) : Option (Bool) := bindO (TM.ask (eqI x2.1 (Int.ofNat 1)) (TM.ask (eqS x2.2.1 ([] : List Int)) (TM.ask (eqI x2.2.2.2.1 (Int.ofNat 0)) (TM.ask (eqI x2.2.2.2.2.1 (Int.ofNat 0)) (TM.ask (eqI x2.2.2.2.2.2 (Int.ofNat 0)) (TM.ask (notB (ltI x2.2.2.1 (Int.ofNat 0))) (bindO (sref16_Power n x0) fun r => some (ltI x2.2.2.1 r)) (some false)) (some false)) (some false)) (some false)) (some false)) (some false)) fun x => bindO (TM.ask (eqI x2.1 (Int.ofNat 2)) (TM.ask (eqS x2.2.1 ([] : List Int)) (TM.ask (eqI x2.2.2.2.1 (Int.ofNat 0)) (TM.ask (eqI x2.2.2.2.2.1 (Int.ofNat 0)) (TM.ask (eqI x2.2.2.2.2.2 (Int.ofNat 0)) (TM.ask (notB (ltI x2.2.2.1 (Int.ofNat 0))) (some (ltI x2.2.2.1 (Int.ofNat 64))) (some false)) (some false)) (some false)) (some false)) (some false)) (some false)) fun x_1 => bindO (TM.ask (eqI x2.1 (Int.ofNat 3)) (TM.ask (eqS x2.2.1 [Int.ofNat 45]) (TM.ask (eqI x2.2.2.1 (Int.ofNat 0)) (bindO (sref25_ahead n x2.2.2.2.1 x1) fun r => TM.ask r (TM.ask (eqI x2.2.2.2.2.1 (Int.ofNat 0)) (some (eqI x2.2.2.2.2.2 (Int.ofNat 0))) (some false)) (some false)) (some false)) (TM.ask (eqS x2.2.1 [Int.ofNat 126]) (TM.ask (eqI x2.2.2.1 (Int.ofNat 0)) (bindO (sref25_ahead n x2.2.2.2.1 x1) fun r => TM.ask r (TM.ask (eqI x2.2.2.2.2.1 (Int.ofNat 0)) (some (eqI x2.2.2.2.2.2 (Int.ofNat 0))) (some false)) (some false)) (some false)) (TM.ask (eqS x2.2.1 [Int.ofNat 33]) (TM.ask (eqI x2.2.2.1 (Int.ofNat 0)) (bindO (sref25_ahead n x2.2.2.2.1 x1) fun r => TM.ask r (TM.ask (eqI x2.2.2.2.2.1 (Int.ofNat 0)) (some (eqI x2.2.2.2.2.2 (Int.ofNat 0))) (some false)) (some false)) (some false)) (some false)))) (some false)) fun x_2 => bindO (TM.ask (eqI x2.1 (Int.ofNat 4)) (bindO (sref21_Binary n x2.2.1) fun r => TM.ask (ltI (Int.ofNat 0) r) (TM.ask (eqI x2.2.2.1 (Int.ofNat 0)) (bindO (sref25_ahead n x2.2.2.2.1 x1) fun r => TM.ask r (bindO (sref25_ahead n x2.2.2.2.2.1 x1) fun r => TM.ask r (some (eqI x2.2.2.2.2.2 (Int.ofNat 0))) (some false)) (some false)) (some false)) (some false)) (some false)) fun x_3 => bindO (TM.ask (eqI x2.1 (Int.ofNat 5)) (TM.ask (eqS x2.2.1 ([] : List Int)) (TM.ask (eqI x2.2.2.1 (Int.ofNat 0)) (bindO (sref25_ahead n x2.2.2.2.1 x1) fun r => TM.ask r (bindO (sref25_ahead n x2.2.2.2.2.1 x1) fun r => TM.ask r (bindO (sref25_ahead n x2.2.2.2.2.2 x1) fun r => some r) (some false)) (some false)) (some false)) (some false)) (some false)) fun x_4 => bindO (TM.ask x (some true) (TM.ask x_1 (some true) (TM.ask x_2 (some true) (TM.ask x_3 (some true) (some x_4))))) fun x => some x
abbrev Fref25_Fits (n : Nat) : Fun := .p 63 [.val false tI, .val false tI, .val true tTerm] (.one false (.v .bool)) (fun x => sref25_Fits n x.1 x.2.1 x.2.2)
theorem okref25_Fits (n : Nat) : FunOk Tryz.prog G (Fref25_Fits n) := funP (fc (okref16_Power n) (fc (okref25_ahead n) (fc (okref21_Binary n) fn))) mks n (by kernel_rfl) rfl (fun x => by kernel_rfl)
def sref25_May (n : Nat) (x0 : tI.D) (x1 : List (tTerm.D)) : Option (Bool) := bindO (TM.ask (ltI x0 (Int.ofNat 1)) (some true) (TM.ask (ltI (Int.ofNat 8) x0) (some true) (some (ltI (Int.ofNat 8192) (Int.ofNat (List.length x1)))))) fun x => TM.ask x (some false) (iter (fun x rec => TM.ask (ltI x (Int.ofNat (List.length x1))) (need (inB x (List.length x1)) (bindO (sref25_Fits n x0 x ((List.getD x1 (Int.toNat x) (Int.ofNat 0, [], Int.ofNat 0, Int.ofNat 0, Int.ofNat 0, Int.ofNat 0)).1, (List.getD x1 (Int.toNat x) (Int.ofNat 0, [], Int.ofNat 0, Int.ofNat 0, Int.ofNat 0, Int.ofNat 0)).2.1, (List.getD x1 (Int.toNat x) (Int.ofNat 0, [], Int.ofNat 0, Int.ofNat 0, Int.ofNat 0, Int.ofNat 0)).2.2.1, (List.getD x1 (Int.toNat x) (Int.ofNat 0, [], Int.ofNat 0, Int.ofNat 0, Int.ofNat 0, Int.ofNat 0)).2.2.2.1, (List.getD x1 (Int.toNat x) (Int.ofNat 0, [], Int.ofNat 0, Int.ofNat 0, Int.ofNat 0, Int.ofNat 0)).2.2.2.2.1, (List.getD x1 (Int.toNat x) (Int.ofNat 0, [], Int.ofNat 0, Int.ofNat 0, Int.ofNat 0, Int.ofNat 0)).2.2.2.2.2)) fun r => TM.ask (notB r) (some false) (rec (wr IntKind.i64 (Int.add x (Int.ofNat 1)))))) (some true)) n (Int.ofNat 0))
abbrev Fref25_May (n : Nat) : Fun := .p 36 [.val false tI, .val false (.sl tTerm)] (.one false (.v .bool)) (fun x => sref25_May n x.1 x.2)
theorem okref25_May (n : Nat) : FunOk Tryz.prog G (Fref25_May n) := funP (fc (okref25_Fits n) fn) mks n (by kernel_rfl) rfl (fun x => by kernel_rfl)
def sref26_kinds (n : Nat) : Option (List (tI.D)) := some [Int.ofNat 0, Int.ofNat 1, Int.ofNat 1, Int.ofNat 2, Int.ofNat 2, Int.ofNat 2, Int.ofNat 2, Int.ofNat 3, Int.ofNat 3, Int.ofNat 4, Int.ofNat 4, Int.ofNat 0, Int.ofNat 0, Int.ofNat 0]
abbrev Fref26_kinds (n : Nat) : Fun := .p 97 [] (.one false (.v (.sl tI))) (fun x => sref26_kinds n )
theorem okref26_kinds (n : Nat) : FunOk Tryz.prog G (Fref26_kinds n) := funP fn mks n (by kernel_rfl) rfl (fun x => by kernel_rfl)
def sref26_Terms (n : Nat) (x0 : tI.D) : Option (tI.D) := TM.ask (eqI x0 (Int.ofNat 6)) (some (Int.ofNat 2)) (bindO (TM.ask (eqI x0 (Int.ofNat 2)) (some true) (TM.ask (eqI x0 (Int.ofNat 4)) (some true) (TM.ask (eqI x0 (Int.ofNat 5)) (some true) (TM.ask (eqI x0 (Int.ofNat 9)) (some true) (some (eqI x0 (Int.ofNat 12))))))) fun x => TM.ask x (some (Int.ofNat 1)) (some (Int.ofNat 0)))
abbrev Fref26_Terms (n : Nat) : Fun := .p 98 [.val false tI] (.one false (.v tI)) (fun x => sref26_Terms n x)
theorem okref26_Terms (n : Nat) : FunOk Tryz.prog G (Fref26_Terms n) := funP fn mks n (by kernel_rfl) rfl (fun x => by kernel_rfl)
def sref26_reads (n : Nat) (x0 : tI.D) : Option (Bool) := bindO (TM.ask (eqI x0 (Int.ofNat 1)) (some true) (TM.ask (eqI x0 (Int.ofNat 3)) (some true) (TM.ask (eqI x0 (Int.ofNat 5)) (some true) (TM.ask (eqI x0 (Int.ofNat 6)) (some true) (some (eqI x0 (Int.ofNat 10))))))) fun x => some x
abbrev Fref26_reads (n : Nat) : Fun := .p 99 [.val false tI] (.one false (.v .bool)) (fun x => sref26_reads n x)
theorem okref26_reads (n : Nat) : FunOk Tryz.prog G (Fref26_reads n) := funP fn mks n (by kernel_rfl) rfl (fun x => by kernel_rfl)
def sref26_inst (n : Nat) (x0 : tFlat.D) (x1 : tI.D) (x2 : tI.D) : Option (Bool) := need (inB x1 (List.length x0.2.2.2.1)) (need (inB x2 (List.length (List.getD x0.2.2.2.1 (Int.toNat x1) []))) (bindO (TM.ask (ltI (List.getD (List.getD x0.2.2.2.1 (Int.toNat x1) []) (Int.toNat x2) (Int.ofNat 0, Int.ofNat 0, Int.ofNat 0, Int.ofNat 0, Int.ofNat 0, Int.ofNat 0, Int.ofNat 0)).1 (Int.ofNat 1)) (some true) (TM.ask (ltI (Int.ofNat 13) (List.getD (List.getD x0.2.2.2.1 (Int.toNat x1) []) (Int.toNat x2) (Int.ofNat 0, Int.ofNat 0, Int.ofNat 0, Int.ofNat 0, Int.ofNat 0, Int.ofNat 0, Int.ofNat 0)).1) (some true) (TM.ask (ltI (List.getD (List.getD x0.2.2.2.1 (Int.toNat x1) []) (Int.toNat x2) (Int.ofNat 0, Int.ofNat 0, Int.ofNat 0, Int.ofNat 0, Int.ofNat 0, Int.ofNat 0, Int.ofNat 0)).2.2.1 (Int.ofNat 0)) (some true) (some (notB (ltI (List.getD (List.getD x0.2.2.2.1 (Int.toNat x1) []) (Int.toNat x2) (Int.ofNat 0, Int.ofNat 0, Int.ofNat 0, Int.ofNat 0, Int.ofNat 0, Int.ofNat 0, Int.ofNat 0)).2.2.1 (Int.ofNat (List.length x0.2.2.1)))))))) fun x => TM.ask x (some false) (bindO (TM.ask (eqI (List.getD (List.getD x0.2.2.2.1 (Int.toNat x1) []) (Int.toNat x2) (Int.ofNat 0, Int.ofNat 0, Int.ofNat 0, Int.ofNat 0, Int.ofNat 0, Int.ofNat 0, Int.ofNat 0)).1 (Int.ofNat 11)) (TM.ask (notB (ltI x1 (List.getD (List.getD x0.2.2.2.1 (Int.toNat x1) []) (Int.toNat x2) (Int.ofNat 0, Int.ofNat 0, Int.ofNat 0, Int.ofNat 0, Int.ofNat 0, Int.ofNat 0, Int.ofNat 0)).2.1)) (some true) (TM.ask (notB (ltI (List.getD (List.getD x0.2.2.2.1 (Int.toNat x1) []) (Int.toNat x2) (Int.ofNat 0, Int.ofNat 0, Int.ofNat 0, Int.ofNat 0, Int.ofNat 0, Int.ofNat 0, Int.ofNat 0)).2.1 (Int.ofNat (List.length x0.2.2.2.1)))) (some true) (TM.ask (ltI (Int.ofNat 11) (List.getD (List.getD x0.2.2.2.1 (Int.toNat x1) []) (Int.toNat x2) (Int.ofNat 0, Int.ofNat 0, Int.ofNat 0, Int.ofNat 0, Int.ofNat 0, Int.ofNat 0, Int.ofNat 0)).1) (some (notB (eqI (List.getD (List.getD x0.2.2.2.1 (Int.toNat x1) []) (Int.toNat x2) (Int.ofNat 0, Int.ofNat 0, Int.ofNat 0, Int.ofNat 0, Int.ofNat 0, Int.ofNat 0, Int.ofNat 0)).2.1 (Int.ofNat 0)))) (some false)))) (TM.ask (ltI (Int.ofNat 11) (List.getD (List.getD x0.2.2.2.1 (Int.toNat x1) []) (Int.toNat x2) (Int.ofNat 0, Int.ofNat 0, Int.ofNat 0, Int.ofNat 0, Int.ofNat 0, Int.ofNat 0, Int.ofNat 0)).1) (some (notB (eqI (List.getD (List.getD x0.2.2.2.1 (Int.toNat x1) []) (Int.toNat x2) (Int.ofNat 0, Int.ofNat 0, Int.ofNat 0, Int.ofNat 0, Int.ofNat 0, Int.ofNat 0, Int.ofNat 0)).2.1 (Int.ofNat 0)))) (some false))) fun x => TM.ask x (some false) (bindO (sref26_kinds n) fun r => need (inB (List.getD (List.getD x0.2.2.2.1 (Int.toNat x1) []) (Int.toNat x2) (Int.ofNat 0, Int.ofNat 0, Int.ofNat 0, Int.ofNat 0, Int.ofNat 0, Int.ofNat 0, Int.ofNat 0)).1 (List.length r)) (bindO (TM.ask (ltI (Int.ofNat 0) (List.getD r (Int.toNat (List.getD (List.getD x0.2.2.2.1 (Int.toNat x1) []) (Int.toNat x2) (Int.ofNat 0, Int.ofNat 0, Int.ofNat 0, Int.ofNat 0, Int.ofNat 0, Int.ofNat 0, Int.ofNat 0)).1) (Int.ofNat 0))) (TM.ask (ltI (List.getD (List.getD x0.2.2.2.1 (Int.toNat x1) []) (Int.toNat x2) (Int.ofNat 0, Int.ofNat 0, Int.ofNat 0, Int.ofNat 0, Int.ofNat 0, Int.ofNat 0, Int.ofNat 0)).2.1 (Int.ofNat 0)) (some true) (TM.ask (notB (ltI (List.getD (List.getD x0.2.2.2.1 (Int.toNat x1) []) (Int.toNat x2) (Int.ofNat 0, Int.ofNat 0, Int.ofNat 0, Int.ofNat 0, Int.ofNat 0, Int.ofNat 0, Int.ofNat 0)).2.1 (Int.ofNat (List.length x0.2.1)))) (some true) (need (inB (List.getD (List.getD x0.2.2.2.1 (Int.toNat x1) []) (Int.toNat x2) (Int.ofNat 0, Int.ofNat 0, Int.ofNat 0, Int.ofNat 0, Int.ofNat 0, Int.ofNat 0, Int.ofNat 0)).2.1 (List.length x0.2.1)) (some (notB (eqI (List.getD x0.2.1 (Int.toNat (List.getD (List.getD x0.2.2.2.1 (Int.toNat x1) []) (Int.toNat x2) (Int.ofNat 0, Int.ofNat 0, Int.ofNat 0, Int.ofNat 0, Int.ofNat 0, Int.ofNat 0, Int.ofNat 0)).2.1) (Int.ofNat 0, [], Int.ofNat 0, Int.ofNat 0)).1 (List.getD r (Int.toNat (List.getD (List.getD x0.2.2.2.1 (Int.toNat x1) []) (Int.toNat x2) (Int.ofNat 0, Int.ofNat 0, Int.ofNat 0, Int.ofNat 0, Int.ofNat 0, Int.ofNat 0, Int.ofNat 0)).1) (Int.ofNat 0)))))))) (some false)) fun x => TM.ask x (some false) (bindO (sref26_Terms n (List.getD (List.getD x0.2.2.2.1 (Int.toNat x1) []) (Int.toNat x2) (Int.ofNat 0, Int.ofNat 0, Int.ofNat 0, Int.ofNat 0, Int.ofNat 0, Int.ofNat 0, Int.ofNat 0)).1) fun r => bindO (TM.ask (eqI r (Int.ofNat 0)) (TM.ask (notB (eqI (List.getD (List.getD x0.2.2.2.1 (Int.toNat x1) []) (Int.toNat x2) (Int.ofNat 0, Int.ofNat 0, Int.ofNat 0, Int.ofNat 0, Int.ofNat 0, Int.ofNat 0, Int.ofNat 0)).2.2.2.1 (Int.ofNat 0))) (some true) (TM.ask (ltI r (Int.ofNat 2)) (TM.ask (notB (eqI (List.getD (List.getD x0.2.2.2.1 (Int.toNat x1) []) (Int.toNat x2) (Int.ofNat 0, Int.ofNat 0, Int.ofNat 0, Int.ofNat 0, Int.ofNat 0, Int.ofNat 0, Int.ofNat 0)).2.2.2.2.1 (Int.ofNat 0))) (some true) (TM.ask (ltI (List.getD (List.getD x0.2.2.2.1 (Int.toNat x1) []) (Int.toNat x2) (Int.ofNat 0, Int.ofNat 0, Int.ofNat 0, Int.ofNat 0, Int.ofNat 0, Int.ofNat 0, Int.ofNat 0)).2.2.2.1 (Int.ofNat 0)) (some true) (TM.ask (ltI (List.getD (List.getD x0.2.2.2.1 (Int.toNat x1) []) (Int.toNat x2) (Int.ofNat 0, Int.ofNat 0, Int.ofNat 0, Int.ofNat 0, Int.ofNat 0, Int.ofNat 0, Int.ofNat 0)).2.2.2.2.1 (Int.ofNat 0)) (some true) (TM.ask (ltI (Int.ofNat 0) r) (TM.ask (notB (ltI (List.getD (List.getD x0.2.2.2.1 (Int.toNat x1) []) (Int.toNat x2) (Int.ofNat 0, Int.ofNat 0, Int.ofNat 0, Int.ofNat 0, Int.ofNat 0, Int.ofNat 0, Int.ofNat 0)).2.2.2.1 (Int.ofNat (List.length x0.2.2.1)))) (some true) (TM.ask (ltI (Int.ofNat 1) r) (some (notB (ltI (List.getD (List.getD x0.2.2.2.1 (Int.toNat x1) []) (Int.toNat x2) (Int.ofNat 0, Int.ofNat 0, Int.ofNat 0, Int.ofNat 0, Int.ofNat 0, Int.ofNat 0, Int.ofNat 0)).2.2.2.2.1 (Int.ofNat (List.length x0.2.2.1))))) (some false))) (TM.ask (ltI (Int.ofNat 1) r) (some (notB (ltI (List.getD (List.getD x0.2.2.2.1 (Int.toNat x1) []) (Int.toNat x2) (Int.ofNat 0, Int.ofNat 0, Int.ofNat 0, Int.ofNat 0, Int.ofNat 0, Int.ofNat 0, Int.ofNat 0)).2.2.2.2.1 (Int.ofNat (List.length x0.2.2.1))))) (some false)))))) (TM.ask (ltI (List.getD (List.getD x0.2.2.2.1 (Int.toNat x1) []) (Int.toNat x2) (Int.ofNat 0, Int.ofNat 0, Int.ofNat 0, Int.ofNat 0, Int.ofNat 0, Int.ofNat 0, Int.ofNat 0)).2.2.2.1 (Int.ofNat 0)) (some true) (TM.ask (ltI (List.getD (List.getD x0.2.2.2.1 (Int.toNat x1) []) (Int.toNat x2) (Int.ofNat 0, Int.ofNat 0, Int.ofNat 0, Int.ofNat 0, Int.ofNat 0, Int.ofNat 0, Int.ofNat 0)).2.2.2.2.1 (Int.ofNat 0)) (some true) (TM.ask (ltI (Int.ofNat 0) r) (TM.ask (notB (ltI (List.getD (List.getD x0.2.2.2.1 (Int.toNat x1) []) (Int.toNat x2) (Int.ofNat 0, Int.ofNat 0, Int.ofNat 0, Int.ofNat 0, Int.ofNat 0, Int.ofNat 0, Int.ofNat 0)).2.2.2.1 (Int.ofNat (List.length x0.2.2.1)))) (some true) (TM.ask (ltI (Int.ofNat 1) r) (some (notB (ltI (List.getD (List.getD x0.2.2.2.1 (Int.toNat x1) []) (Int.toNat x2) (Int.ofNat 0, Int.ofNat 0, Int.ofNat 0, Int.ofNat 0, Int.ofNat 0, Int.ofNat 0, Int.ofNat 0)).2.2.2.2.1 (Int.ofNat (List.length x0.2.2.1))))) (some false))) (TM.ask (ltI (Int.ofNat 1) r) (some (notB (ltI (List.getD (List.getD x0.2.2.2.1 (Int.toNat x1) []) (Int.toNat x2) (Int.ofNat 0, Int.ofNat 0, Int.ofNat 0, Int.ofNat 0, Int.ofNat 0, Int.ofNat 0, Int.ofNat 0)).2.2.2.2.1 (Int.ofNat (List.length x0.2.2.1))))) (some false))))))) (TM.ask (ltI r (Int.ofNat 2)) (TM.ask (notB (eqI (List.getD (List.getD x0.2.2.2.1 (Int.toNat x1) []) (Int.toNat x2) (Int.ofNat 0, Int.ofNat 0, Int.ofNat 0, Int.ofNat 0, Int.ofNat 0, Int.ofNat 0, Int.ofNat 0)).2.2.2.2.1 (Int.ofNat 0))) (some true) (TM.ask (ltI (List.getD (List.getD x0.2.2.2.1 (Int.toNat x1) []) (Int.toNat x2) (Int.ofNat 0, Int.ofNat 0, Int.ofNat 0, Int.ofNat 0, Int.ofNat 0, Int.ofNat 0, Int.ofNat 0)).2.2.2.1 (Int.ofNat 0)) (some true) (TM.ask (ltI (List.getD (List.getD x0.2.2.2.1 (Int.toNat x1) []) (Int.toNat x2) (Int.ofNat 0, Int.ofNat 0, Int.ofNat 0, Int.ofNat 0, Int.ofNat 0, Int.ofNat 0, Int.ofNat 0)).2.2.2.2.1 (Int.ofNat 0)) (some true) (TM.ask (ltI (Int.ofNat 0) r) (TM.ask (notB (ltI (List.getD (List.getD x0.2.2.2.1 (Int.toNat x1) []) (Int.toNat x2) (Int.ofNat 0, Int.ofNat 0, Int.ofNat 0, Int.ofNat 0, Int.ofNat 0, Int.ofNat 0, Int.ofNat 0)).2.2.2.1 (Int.ofNat (List.length x0.2.2.1)))) (some true) (TM.ask (ltI (Int.ofNat 1) r) (some (notB (ltI (List.getD (List.getD x0.2.2.2.1 (Int.toNat x1) []) (Int.toNat x2) (Int.ofNat 0, Int.ofNat 0, Int.ofNat 0, Int.ofNat 0, Int.ofNat 0, Int.ofNat 0, Int.ofNat 0)).2.2.2.2.1 (Int.ofNat (List.length x0.2.2.1))))) (some false))) (TM.ask (ltI (Int.ofNat 1) r) (some (notB (ltI (List.getD (List.getD x0.2.2.2.1 (Int.toNat x1) []) (Int.toNat x2) (Int.ofNat 0, Int.ofNat 0, Int.ofNat 0, Int.ofNat 0, Int.ofNat 0, Int.ofNat 0, Int.ofNat 0)).2.2.2.2.1 (Int.ofNat (List.length x0.2.2.1))))) (some false)))))) (TM.ask (ltI (List.getD (List.getD x0.2.2.2.1 (Int.toNat x1) []) (Int.toNat x2) (Int.ofNat 0, Int.ofNat 0, Int.ofNat 0, Int.ofNat 0, Int.ofNat 0, Int.ofNat 0, Int.ofNat 0)).2.2.2.1 (Int.ofNat 0)) (some true) (TM.ask (ltI (List.getD (List.getD x0.2.2.2.1 (Int.toNat x1) []) (Int.toNat x2) (Int.ofNat 0, Int.ofNat 0, Int.ofNat 0, Int.ofNat 0, Int.ofNat 0, Int.ofNat 0, Int.ofNat 0)).2.2.2.2.1 (Int.ofNat 0)) (some true) (TM.ask (ltI (Int.ofNat 0) r) (TM.ask (notB (ltI (List.getD (List.getD x0.2.2.2.1 (Int.toNat x1) []) (Int.toNat x2) (Int.ofNat 0, Int.ofNat 0, Int.ofNat 0, Int.ofNat 0, Int.ofNat 0, Int.ofNat 0, Int.ofNat 0)).2.2.2.1 (Int.ofNat (List.length x0.2.2.1)))) (some true) (TM.ask (ltI (Int.ofNat 1) r) (some (notB (ltI (List.getD (List.getD x0.2.2.2.1 (Int.toNat x1) []) (Int.toNat x2) (Int.ofNat 0, Int.ofNat 0, Int.ofNat 0, Int.ofNat 0, Int.ofNat 0, Int.ofNat 0, Int.ofNat 0)).2.2.2.2.1 (Int.ofNat (List.length x0.2.2.1))))) (some false))) (TM.ask (ltI (Int.ofNat 1) r) (some (notB (ltI (List.getD (List.getD x0.2.2.2.1 (Int.toNat x1) []) (Int.toNat x2) (Int.ofNat 0, Int.ofNat 0, Int.ofNat 0, Int.ofNat 0, Int.ofNat 0, Int.ofNat 0, Int.ofNat 0)).2.2.2.2.1 (Int.ofNat (List.length x0.2.2.1))))) (some false))))))) fun x => TM.ask x (some false) (bindO (bindO (sref26_reads n (List.getD (List.getD x0.2.2.2.1 (Int.toNat x1) []) (Int.toNat x2) (Int.ofNat 0, Int.ofNat 0, Int.ofNat 0, Int.ofNat 0, Int.ofNat 0, Int.ofNat 0, Int.ofNat 0)).1) fun r => TM.ask r (TM.ask (ltI (List.getD (List.getD x0.2.2.2.1 (Int.toNat x1) []) (Int.toNat x2) (Int.ofNat 0, Int.ofNat 0, Int.ofNat 0, Int.ofNat 0, Int.ofNat 0, Int.ofNat 0, Int.ofNat 0)).2.2.2.2.2.1 (Int.ofNat 0)) (some true) (TM.ask (notB (ltI (List.getD (List.getD x0.2.2.2.1 (Int.toNat x1) []) (Int.toNat x2) (Int.ofNat 0, Int.ofNat 0, Int.ofNat 0, Int.ofNat 0, Int.ofNat 0, Int.ofNat 0, Int.ofNat 0)).2.2.2.2.2.1 x0.2.2.2.2)) (some true) (bindO (sref26_reads n (List.getD (List.getD x0.2.2.2.1 (Int.toNat x1) []) (Int.toNat x2) (Int.ofNat 0, Int.ofNat 0, Int.ofNat 0, Int.ofNat 0, Int.ofNat 0, Int.ofNat 0, Int.ofNat 0)).1) fun r => TM.ask (notB r) (some (notB (eqI (List.getD (List.getD x0.2.2.2.1 (Int.toNat x1) []) (Int.toNat x2) (Int.ofNat 0, Int.ofNat 0, Int.ofNat 0, Int.ofNat 0, Int.ofNat 0, Int.ofNat 0, Int.ofNat 0)).2.2.2.2.2.1 (Int.negSucc 0)))) (some false)))) (bindO (sref26_reads n (List.getD (List.getD x0.2.2.2.1 (Int.toNat x1) []) (Int.toNat x2) (Int.ofNat 0, Int.ofNat 0, Int.ofNat 0, Int.ofNat 0, Int.ofNat 0, Int.ofNat 0, Int.ofNat 0)).1) fun r => TM.ask (notB r) (some (notB (eqI (List.getD (List.getD x0.2.2.2.1 (Int.toNat x1) []) (Int.toNat x2) (Int.ofNat 0, Int.ofNat 0, Int.ofNat 0, Int.ofNat 0, Int.ofNat 0, Int.ofNat 0, Int.ofNat 0)).2.2.2.2.2.1 (Int.negSucc 0)))) (some false))) fun x => TM.ask x (some false) (TM.ask (notB (eqI (List.getD (List.getD x0.2.2.2.1 (Int.toNat x1) []) (Int.toNat x2) (Int.ofNat 0, Int.ofNat 0, Int.ofNat 0, Int.ofNat 0, Int.ofNat 0, Int.ofNat 0, Int.ofNat 0)).1 (Int.ofNat 8))) (some (eqI (List.getD (List.getD x0.2.2.2.1 (Int.toNat x1) []) (Int.toNat x2) (Int.ofNat 0, Int.ofNat 0, Int.ofNat 0, Int.ofNat 0, Int.ofNat 0, Int.ofNat 0, Int.ofNat 0)).2.2.2.2.2.2 (Int.negSucc 0))) (bindO (TM.ask (ltI (List.getD (List.getD x0.2.2.2.1 (Int.toNat x1) []) (Int.toNat x2) (Int.ofNat 0, Int.ofNat 0, Int.ofNat 0, Int.ofNat 0, Int.ofNat 0, Int.ofNat 0, Int.ofNat 0)).2.2.2.2.2.2 (Int.ofNat 0)) (some true) (TM.ask (notB (ltI (List.getD (List.getD x0.2.2.2.1 (Int.toNat x1) []) (Int.toNat x2) (Int.ofNat 0, Int.ofNat 0, Int.ofNat 0, Int.ofNat 0, Int.ofNat 0, Int.ofNat 0, Int.ofNat 0)).2.2.2.2.2.2 x2)) (some true) (need (inB (List.getD (List.getD x0.2.2.2.1 (Int.toNat x1) []) (Int.toNat x2) (Int.ofNat 0, Int.ofNat 0, Int.ofNat 0, Int.ofNat 0, Int.ofNat 0, Int.ofNat 0, Int.ofNat 0)).2.2.2.2.2.2 (List.length (List.getD x0.2.2.2.1 (Int.toNat x1) []))) (TM.ask (notB (eqI (List.getD (List.getD x0.2.2.2.1 (Int.toNat x1) []) (Int.toNat (List.getD (List.getD x0.2.2.2.1 (Int.toNat x1) []) (Int.toNat x2) (Int.ofNat 0, Int.ofNat 0, Int.ofNat 0, Int.ofNat 0, Int.ofNat 0, Int.ofNat 0, Int.ofNat 0)).2.2.2.2.2.2) (Int.ofNat 0, Int.ofNat 0, Int.ofNat 0, Int.ofNat 0, Int.ofNat 0, Int.ofNat 0, Int.ofNat 0)).1 (Int.ofNat 7))) (some true) (need (inB (List.getD (List.getD x0.2.2.2.1 (Int.toNat x1) []) (Int.toNat x2) (Int.ofNat 0, Int.ofNat 0, Int.ofNat 0, Int.ofNat 0, Int.ofNat 0, Int.ofNat 0, Int.ofNat 0)).2.2.2.2.2.2 (List.length (List.getD x0.2.2.2.1 (Int.toNat x1) []))) (some (notB (eqI (List.getD (List.getD x0.2.2.2.1 (Int.toNat x1) []) (Int.toNat (List.getD (List.getD x0.2.2.2.1 (Int.toNat x1) []) (Int.toNat x2) (Int.ofNat 0, Int.ofNat 0, Int.ofNat 0, Int.ofNat 0, Int.ofNat 0, Int.ofNat 0, Int.ofNat 0)).2.2.2.2.2.2) (Int.ofNat 0, Int.ofNat 0, Int.ofNat 0, Int.ofNat 0, Int.ofNat 0, Int.ofNat 0, Int.ofNat 0)).2.1 (List.getD (List.getD x0.2.2.2.1 (Int.toNat x1) []) (Int.toNat x2) (Int.ofNat 0, Int.ofNat 0, Int.ofNat 0, Int.ofNat 0, Int.ofNat 0, Int.ofNat 0, Int.ofNat 0)).2.1)))))))) fun x => TM.ask x (some false) (iter (fun x rec => TM.ask (ltI x x2) (bindO (need (inB x (List.length (List.getD x0.2.2.2.1 (Int.toNat x1) []))) (TM.ask (eqI (List.getD (List.getD x0.2.2.2.1 (Int.toNat x1) []) (Int.toNat x) (Int.ofNat 0, Int.ofNat 0, Int.ofNat 0, Int.ofNat 0, Int.ofNat 0, Int.ofNat 0, Int.ofNat 0)).1 (Int.ofNat 8)) (need (inB x (List.length (List.getD x0.2.2.2.1 (Int.toNat x1) []))) (some (notB (ltI (List.getD (List.getD x0.2.2.2.1 (Int.toNat x1) []) (Int.toNat x2) (Int.ofNat 0, Int.ofNat 0, Int.ofNat 0, Int.ofNat 0, Int.ofNat 0, Int.ofNat 0, Int.ofNat 0)).2.2.2.2.2.2 (List.getD (List.getD x0.2.2.2.1 (Int.toNat x1) []) (Int.toNat x) (Int.ofNat 0, Int.ofNat 0, Int.ofNat 0, Int.ofNat 0, Int.ofNat 0, Int.ofNat 0, Int.ofNat 0)).2.2.2.2.2.2)))) (some false))) fun x_1 => TM.ask x_1 (some false) (rec (wr IntKind.i64 (Int.add x (Int.ofNat 1))))) (some true)) n (wr IntKind.i64 (Int.add (List.getD (List.getD x0.2.2.2.1 (Int.toNat x1) []) (Int.toNat x2) (Int.ofNat 0, Int.ofNat 0, Int.ofNat 0, Int.ofNat 0, Int.ofNat 0, Int.ofNat 0, Int.ofNat 0)).2.2.2.2.2.2 (Int.ofNat 1)))))))))))))
abbrev Fref26_inst (n : Nat) : Fun := .p 64 [.val true tFlat, .val false tI, .val false tI] (.one false (.v .bool)) (fun x => sref26_inst n x.1 x.2.1 x.2.2)
theorem okref26_inst (n : Nat) : FunOk Tryz.prog G (Fref26_inst n) := funP (fc (okref26_kinds n) (fc (okref26_Terms n) (fc (okref26_reads n) fn))) mks n (by kernel_rfl) rfl (fun x => by kernel_rfl)
def sref26_hangs (n : Nat) (x0 : List (tTerm.D)) : Option (List (List Bool)) := iter (fun x rec => TM.ask (ltI x.2 (Int.ofNat (List.length x0))) (need (inB x.2 (List.length x0)) (bindO (TM.ask (eqI (List.getD x0 (Int.toNat x.2) (Int.ofNat 0, [], Int.ofNat 0, Int.ofNat 0, Int.ofNat 0, Int.ofNat 0)).1 (Int.ofNat 2)) (need (inB x.2 (List.length x0)) (need (inB (List.getD x0 (Int.toNat x.2) (Int.ofNat 0, [], Int.ofNat 0, Int.ofNat 0, Int.ofNat 0, Int.ofNat 0)).2.2.1 (List.length (List.replicate 64 false))) (some (List.set (List.replicate 64 false) (Int.toNat (List.getD x0 (Int.toNat x.2) (Int.ofNat 0, [], Int.ofNat 0, Int.ofNat 0, Int.ofNat 0, Int.ofNat 0)).2.2.1) true)))) (some (List.replicate 64 false))) fun x_1 => need (inB x.2 (List.length x0)) (bindO (TM.ask (notB (ltI (List.getD x0 (Int.toNat x.2) (Int.ofNat 0, [], Int.ofNat 0, Int.ofNat 0, Int.ofNat 0, Int.ofNat 0)).1 (Int.ofNat 3))) (need (inB x.2 (List.length x0)) (some (([] : List Int) ++ [(List.getD x0 (Int.toNat x.2) (Int.ofNat 0, [], Int.ofNat 0, Int.ofNat 0, Int.ofNat 0, Int.ofNat 0)).2.2.2.1]))) (some ([] : List Int))) fun x_2 => need (inB x.2 (List.length x0)) (bindO (TM.ask (notB (ltI (List.getD x0 (Int.toNat x.2) (Int.ofNat 0, [], Int.ofNat 0, Int.ofNat 0, Int.ofNat 0, Int.ofNat 0)).1 (Int.ofNat 4))) (need (inB x.2 (List.length x0)) (need (Nat.ble (((List.length x_2) + 1) * 8) 140737488355328) (some (x_2 ++ [(List.getD x0 (Int.toNat x.2) (Int.ofNat 0, [], Int.ofNat 0, Int.ofNat 0, Int.ofNat 0, Int.ofNat 0)).2.2.2.2.1])))) (some x_2)) fun x_3 => need (inB x.2 (List.length x0)) (bindO (TM.ask (eqI (List.getD x0 (Int.toNat x.2) (Int.ofNat 0, [], Int.ofNat 0, Int.ofNat 0, Int.ofNat 0, Int.ofNat 0)).1 (Int.ofNat 5)) (need (inB x.2 (List.length x0)) (need (Nat.ble (((List.length x_3) + 1) * 8) 140737488355328) (some (x_3 ++ [(List.getD x0 (Int.toNat x.2) (Int.ofNat 0, [], Int.ofNat 0, Int.ofNat 0, Int.ofNat 0, Int.ofNat 0)).2.2.2.2.2])))) (some x_3)) fun x_4 => iter (fun x_5 rec_1 => TM.ask (ltI x_5.2 (Int.ofNat (List.length x_4))) (iter (fun x_6 rec => TM.ask (ltI x_6.2 (Int.ofNat 64)) (need (inB x_6.2 (List.length x_6.1)) (TM.ask (List.getD x_6.1 (Int.toNat x_6.2) false) (need (inB x_6.2 (List.length x_6.1)) (rec ((List.set x_6.1 (Int.toNat x_6.2) true), wr IntKind.i64 (Int.add x_6.2 (Int.ofNat 1))))) (need (inB x_5.2 (List.length x_4)) (need (inB (List.getD x_4 (Int.toNat x_5.2) (Int.ofNat 0)) (List.length x.1)) (need (inB x_6.2 (List.length (List.getD x.1 (Int.toNat (List.getD x_4 (Int.toNat x_5.2) (Int.ofNat 0))) ([] : List Bool)))) (need (inB x_6.2 (List.length x_6.1)) (rec ((List.set x_6.1 (Int.toNat x_6.2) (List.getD (List.getD x.1 (Int.toNat (List.getD x_4 (Int.toNat x_5.2) (Int.ofNat 0))) ([] : List Bool)) (Int.toNat x_6.2) false)), wr IntKind.i64 (Int.add x_6.2 (Int.ofNat 1)))))))))) (rec_1 (x_6.1, wr IntKind.i64 (Int.add x_5.2 (Int.ofNat 1))))) n (x_5.1, Int.ofNat 0)) (need (Nat.ble (((List.length x.1) + 1) * 24) 140737488355328) (rec ((x.1 ++ [x_5.1]), wr IntKind.i64 (Int.add x.2 (Int.ofNat 1)))))) n (x_1, Int.ofNat 0)))))) (some x.1)) n (([] : List (List Bool)), Int.ofNat 0)
abbrev Fref26_hangs (n : Nat) : Fun := .p 100 [.val false (.sl tTerm)] (.one false (.v (.sl (.sl .bool)))) (fun x => sref26_hangs n x)
theorem okref26_hangs (n : Nat) : FunOk Tryz.prog G (Fref26_hangs n) := funP fn mks n (by kernel_rfl) rfl (fun x => by kernel_rfl)
def sref26_alone (n : Nat) (x0 : tFlat.D) : Option (Bool) := bindO (sref26_hangs n x0.2.2.1) fun r => iter (fun x rec => TM.ask (ltI x (Int.ofNat (List.length x0.2.2.2.1))) (iter (fun x_1 rec_1 => need (inB x (List.length x0.2.2.2.1)) (TM.ask (ltI x_1.2 (Int.ofNat (List.length (List.getD x0.2.2.2.1 (Int.toNat x) [])))) (need (inB x (List.length x0.2.2.2.1)) (need (inB x_1.2 (List.length (List.getD x0.2.2.2.1 (Int.toNat x) []))) (iter (fun x_2 rec => TM.ask (ltI x_2 (Int.ofNat 64)) (bindO (sref26_Terms n (List.getD (List.getD x0.2.2.2.1 (Int.toNat x) []) (Int.toNat x_1.2) (Int.ofNat 0, Int.ofNat 0, Int.ofNat 0, Int.ofNat 0, Int.ofNat 0, Int.ofNat 0, Int.ofNat 0)).1) fun r_1 => bindO (need (inB x_2 (List.length x_1.1)) (TM.ask (notB (List.getD x_1.1 (Int.toNat x_2) false)) (need (inB (List.getD (List.getD x0.2.2.2.1 (Int.toNat x) []) (Int.toNat x_1.2) (Int.ofNat 0, Int.ofNat 0, Int.ofNat 0, Int.ofNat 0, Int.ofNat 0, Int.ofNat 0, Int.ofNat 0)).2.2.1 (List.length r)) (need (inB x_2 (List.length (List.getD r (Int.toNat (List.getD (List.getD x0.2.2.2.1 (Int.toNat x) []) (Int.toNat x_1.2) (Int.ofNat 0, Int.ofNat 0, Int.ofNat 0, Int.ofNat 0, Int.ofNat 0, Int.ofNat 0, Int.ofNat 0)).2.2.1) ([] : List Bool)))) (TM.ask (List.getD (List.getD r (Int.toNat (List.getD (List.getD x0.2.2.2.1 (Int.toNat x) []) (Int.toNat x_1.2) (Int.ofNat 0, Int.ofNat 0, Int.ofNat 0, Int.ofNat 0, Int.ofNat 0, Int.ofNat 0, Int.ofNat 0)).2.2.1) ([] : List Bool)) (Int.toNat x_2) false) (some true) (TM.ask (ltI (Int.ofNat 0) r_1) (need (inB (List.getD (List.getD x0.2.2.2.1 (Int.toNat x) []) (Int.toNat x_1.2) (Int.ofNat 0, Int.ofNat 0, Int.ofNat 0, Int.ofNat 0, Int.ofNat 0, Int.ofNat 0, Int.ofNat 0)).2.2.2.1 (List.length r)) (need (inB x_2 (List.length (List.getD r (Int.toNat (List.getD (List.getD x0.2.2.2.1 (Int.toNat x) []) (Int.toNat x_1.2) (Int.ofNat 0, Int.ofNat 0, Int.ofNat 0, Int.ofNat 0, Int.ofNat 0, Int.ofNat 0, Int.ofNat 0)).2.2.2.1) ([] : List Bool)))) (TM.ask (List.getD (List.getD r (Int.toNat (List.getD (List.getD x0.2.2.2.1 (Int.toNat x) []) (Int.toNat x_1.2) (Int.ofNat 0, Int.ofNat 0, Int.ofNat 0, Int.ofNat 0, Int.ofNat 0, Int.ofNat 0, Int.ofNat 0)).2.2.2.1) ([] : List Bool)) (Int.toNat x_2) false) (some true) (TM.ask (ltI (Int.ofNat 1) r_1) (need (inB (List.getD (List.getD x0.2.2.2.1 (Int.toNat x) []) (Int.toNat x_1.2) (Int.ofNat 0, Int.ofNat 0, Int.ofNat 0, Int.ofNat 0, Int.ofNat 0, Int.ofNat 0, Int.ofNat 0)).2.2.2.2.1 (List.length r)) (need (inB x_2 (List.length (List.getD r (Int.toNat (List.getD (List.getD x0.2.2.2.1 (Int.toNat x) []) (Int.toNat x_1.2) (Int.ofNat 0, Int.ofNat 0, Int.ofNat 0, Int.ofNat 0, Int.ofNat 0, Int.ofNat 0, Int.ofNat 0)).2.2.2.2.1) ([] : List Bool)))) (some (List.getD (List.getD r (Int.toNat (List.getD (List.getD x0.2.2.2.1 (Int.toNat x) []) (Int.toNat x_1.2) (Int.ofNat 0, Int.ofNat 0, Int.ofNat 0, Int.ofNat 0, Int.ofNat 0, Int.ofNat 0, Int.ofNat 0)).2.2.2.2.1) ([] : List Bool)) (Int.toNat x_2) false)))) (some false))))) (TM.ask (ltI (Int.ofNat 1) r_1) (need (inB (List.getD (List.getD x0.2.2.2.1 (Int.toNat x) []) (Int.toNat x_1.2) (Int.ofNat 0, Int.ofNat 0, Int.ofNat 0, Int.ofNat 0, Int.ofNat 0, Int.ofNat 0, Int.ofNat 0)).2.2.2.2.1 (List.length r)) (need (inB x_2 (List.length (List.getD r (Int.toNat (List.getD (List.getD x0.2.2.2.1 (Int.toNat x) []) (Int.toNat x_1.2) (Int.ofNat 0, Int.ofNat 0, Int.ofNat 0, Int.ofNat 0, Int.ofNat 0, Int.ofNat 0, Int.ofNat 0)).2.2.2.2.1) ([] : List Bool)))) (some (List.getD (List.getD r (Int.toNat (List.getD (List.getD x0.2.2.2.1 (Int.toNat x) []) (Int.toNat x_1.2) (Int.ofNat 0, Int.ofNat 0, Int.ofNat 0, Int.ofNat 0, Int.ofNat 0, Int.ofNat 0, Int.ofNat 0)).2.2.2.2.1) ([] : List Bool)) (Int.toNat x_2) false)))) (some false)))))) (some false))) fun x => TM.ask x (some false) (rec (wr IntKind.i64 (Int.add x_2 (Int.ofNat 1))))) (bindO (TM.ask (notB (ltI (List.getD (List.getD x0.2.2.2.1 (Int.toNat x) []) (Int.toNat x_1.2) (Int.ofNat 0, Int.ofNat 0, Int.ofNat 0, Int.ofNat 0, Int.ofNat 0, Int.ofNat 0, Int.ofNat 0)).2.2.2.2.2.1 (Int.ofNat 0))) (need (inB (List.getD (List.getD x0.2.2.2.1 (Int.toNat x) []) (Int.toNat x_1.2) (Int.ofNat 0, Int.ofNat 0, Int.ofNat 0, Int.ofNat 0, Int.ofNat 0, Int.ofNat 0, Int.ofNat 0)).2.2.2.2.2.1 (List.length x_1.1)) (some (List.set x_1.1 (Int.toNat (List.getD (List.getD x0.2.2.2.1 (Int.toNat x) []) (Int.toNat x_1.2) (Int.ofNat 0, Int.ofNat 0, Int.ofNat 0, Int.ofNat 0, Int.ofNat 0, Int.ofNat 0, Int.ofNat 0)).2.2.2.2.2.1) true))) (some x_1.1)) fun x => rec_1 (x, wr IntKind.i64 (Int.add x_1.2 (Int.ofNat 1))))) n (Int.ofNat 0)))) (rec (wr IntKind.i64 (Int.add x (Int.ofNat 1)))))) n ((List.replicate 64 false), Int.ofNat 0)) (some true)) n (Int.ofNat 0)
abbrev Fref26_alone (n : Nat) : Fun := .p 65 [.val true tFlat] (.one false (.v .bool)) (fun x => sref26_alone n x)
theorem okref26_alone (n : Nat) : FunOk Tryz.prog G (Fref26_alone n) := funP (fc (okref26_Terms n) (fc (okref26_hangs n) fn)) mks n (by kernel_rfl) rfl (fun x => by kernel_rfl)
def sref26_May (n : Nat) (x0 : tFlat.D) : Option (Bool) := bindO (TM.ask (ltI (Int.ofNat (List.length x0.2.2.2.1)) (Int.ofNat 1)) (some true) (TM.ask (ltI (Int.ofNat 6) (Int.ofNat (List.length x0.2.2.2.1))) (some true) (bindO (sref25_May n x0.1 x0.2.2.1) fun r => TM.ask (notB r) (some true) (TM.ask (ltI x0.2.2.2.2 (Int.ofNat 0)) (some true) (some (ltI (Int.ofNat 64) x0.2.2.2.2)))))) fun x => TM.ask x (some false) (iter (fun x rec => TM.ask (ltI x.2.2.2 (Int.ofNat (List.length x0.2.2.2.1))) (need (inB x.2.2.2 (List.length x0.2.2.2.1)) (iter (fun x_1 rec_1 => bindO (need (inB x.2.2.2 (List.length x0.2.2.2.1)) (TM.ask (ltI x_1.2.2 (Int.ofNat (List.length (List.getD x0.2.2.2.1 (Int.toNat x.2.2.2) [])))) (some (notB (ltI (Int.ofNat 64) (wr IntKind.i64 (Int.add x.1 (Int.ofNat (List.length (List.getD x0.2.2.2.1 (Int.toNat x.2.2.2) [])))))))) (some false))) fun x_2 => TM.ask x_2 (bindO (sref26_inst n (x0.1, x0.2.1, x0.2.2.1, x0.2.2.2.1, x0.2.2.2.2) x.2.2.2 x_1.2.2) fun r => TM.ask (notB r) (some false) (need (inB x.2.2.2 (List.length x0.2.2.2.1)) (need (inB x_1.2.2 (List.length (List.getD x0.2.2.2.1 (Int.toNat x.2.2.2) []))) (bindO (TM.ask (notB (ltI (List.getD (List.getD x0.2.2.2.1 (Int.toNat x.2.2.2) []) (Int.toNat x_1.2.2) (Int.ofNat 0, Int.ofNat 0, Int.ofNat 0, Int.ofNat 0, Int.ofNat 0, Int.ofNat 0, Int.ofNat 0)).2.2.2.2.2.1 (Int.ofNat 0))) (need (inB (List.getD (List.getD x0.2.2.2.1 (Int.toNat x.2.2.2) []) (Int.toNat x_1.2.2) (Int.ofNat 0, Int.ofNat 0, Int.ofNat 0, Int.ofNat 0, Int.ofNat 0, Int.ofNat 0, Int.ofNat 0)).2.2.2.2.2.1 (List.length x_1.1)) (need (inB (List.getD (List.getD x0.2.2.2.1 (Int.toNat x.2.2.2) []) (Int.toNat x_1.2.2) (Int.ofNat 0, Int.ofNat 0, Int.ofNat 0, Int.ofNat 0, Int.ofNat 0, Int.ofNat 0, Int.ofNat 0)).2.2.2.2.2.1 (List.length x_1.1)) (some (List.set x_1.1 (Int.toNat (List.getD (List.getD x0.2.2.2.1 (Int.toNat x.2.2.2) []) (Int.toNat x_1.2.2) (Int.ofNat 0, Int.ofNat 0, Int.ofNat 0, Int.ofNat 0, Int.ofNat 0, Int.ofNat 0, Int.ofNat 0)).2.2.2.2.2.1) (wr IntKind.i64 (Int.add (List.getD x_1.1 (Int.toNat (List.getD (List.getD x0.2.2.2.1 (Int.toNat x.2.2.2) []) (Int.toNat x_1.2.2) (Int.ofNat 0, Int.ofNat 0, Int.ofNat 0, Int.ofNat 0, Int.ofNat 0, Int.ofNat 0, Int.ofNat 0)).2.2.2.2.2.1) (Int.ofNat 0)) (Int.ofNat 1))))))) (some x_1.1)) fun x_3 => bindO (TM.ask (eqI (List.getD (List.getD x0.2.2.2.1 (Int.toNat x.2.2.2) []) (Int.toNat x_1.2.2) (Int.ofNat 0, Int.ofNat 0, Int.ofNat 0, Int.ofNat 0, Int.ofNat 0, Int.ofNat 0, Int.ofNat 0)).1 (Int.ofNat 11)) (need (inB (List.getD (List.getD x0.2.2.2.1 (Int.toNat x.2.2.2) []) (Int.toNat x_1.2.2) (Int.ofNat 0, Int.ofNat 0, Int.ofNat 0, Int.ofNat 0, Int.ofNat 0, Int.ofNat 0, Int.ofNat 0)).2.1 (List.length x_1.2.1)) (need (inB (List.getD (List.getD x0.2.2.2.1 (Int.toNat x.2.2.2) []) (Int.toNat x_1.2.2) (Int.ofNat 0, Int.ofNat 0, Int.ofNat 0, Int.ofNat 0, Int.ofNat 0, Int.ofNat 0, Int.ofNat 0)).2.1 (List.length x_1.2.1)) (some (List.set x_1.2.1 (Int.toNat (List.getD (List.getD x0.2.2.2.1 (Int.toNat x.2.2.2) []) (Int.toNat x_1.2.2) (Int.ofNat 0, Int.ofNat 0, Int.ofNat 0, Int.ofNat 0, Int.ofNat 0, Int.ofNat 0, Int.ofNat 0)).2.1) (wr IntKind.i64 (Int.add (List.getD x_1.2.1 (Int.toNat (List.getD (List.getD x0.2.2.2.1 (Int.toNat x.2.2.2) []) (Int.toNat x_1.2.2) (Int.ofNat 0, Int.ofNat 0, Int.ofNat 0, Int.ofNat 0, Int.ofNat 0, Int.ofNat 0, Int.ofNat 0)).2.1) (Int.ofNat 0)) (Int.ofNat 1))))))) (some x_1.2.1)) fun x => rec_1 (x_3, x, wr IntKind.i64 (Int.add x_1.2.2 (Int.ofNat 1))))))) (rec (wr IntKind.i64 (Int.add x.1 (Int.ofNat (List.length (List.getD x0.2.2.2.1 (Int.toNat x.2.2.2) [])))), x_1.1, x_1.2.1, wr IntKind.i64 (Int.add x.2.2.2 (Int.ofNat 1))))) n (x.2.1, x.2.2.1, Int.ofNat 0))) (iter (fun x_1 rec => TM.ask (ltI x_1 (Int.ofNat 64)) (bindO (TM.ask (ltI x_1 x0.2.2.2.2) (need (inB x_1 (List.length x.2.1)) (some (notB (eqI (List.getD x.2.1 (Int.toNat x_1) (Int.ofNat 0)) (Int.ofNat 1))))) (some false)) fun x => TM.ask x (some false) (rec (wr IntKind.i64 (Int.add x_1 (Int.ofNat 1))))) (iter (fun x_2 rec => TM.ask (ltI x_2 (Int.ofNat 6)) (need (inB x_2 (List.length x.2.2.1)) (TM.ask (ltI (Int.ofNat 1) (List.getD x.2.2.1 (Int.toNat x_2) (Int.ofNat 0))) (some false) (rec (wr IntKind.i64 (Int.add x_2 (Int.ofNat 1)))))) (bindO (TM.ask (notB (ltI (Int.ofNat 64) x.1)) (bindO (sref26_alone n (x0.1, x0.2.1, x0.2.2.1, x0.2.2.2.1, x0.2.2.2.2)) fun r => some r) (some false)) fun x => some x)) n (Int.ofNat 0))) n (Int.ofNat 0))) n (Int.ofNat 0, (List.replicate 64 (Int.ofNat 0)), (List.replicate 6 (Int.ofNat 0)), Int.ofNat 0))
abbrev Fref26_May (n : Nat) : Fun := .p 37 [.val true tFlat] (.one false (.v .bool)) (fun x => sref26_May n x)
theorem okref26_May (n : Nat) : FunOk Tryz.prog G (Fref26_May n) := funP (fc (okref25_May n) (fc (okref26_inst n) (fc (okref26_alone n) fn))) mks n (by kernel_rfl) rfl (fun x => by kernel_rfl)
def slaw27_May (n : Nat) (x0 : tFlat.D) : Option (Bool) := bindO (bindO (slaw27_Light n (x0.1, x0.2.1, x0.2.2.1, x0.2.2.2.1, x0.2.2.2.2)) fun r => TM.ask r (bindO (sref26_Decls n x0.1 x0.2.1) fun r => TM.ask r (bindO (sref25_May n x0.1 x0.2.2.1) fun r => TM.ask r (bindO (sref26_May n (x0.1, x0.2.1, x0.2.2.1, x0.2.2.2.1, x0.2.2.2.2)) fun r => some r) (some false)) (some false)) (some false)) fun x => some x
abbrev Flaw27_May (n : Nat) : Fun := .p 11 [.val true tFlat] (.one false (.v .bool)) (fun x => slaw27_May n x)
theorem oklaw27_May (n : Nat) : FunOk Tryz.prog G (Flaw27_May n) := funP (fc (oklaw27_Light n) (fc (okref26_Decls n) (fc (okref25_May n) (fc (okref26_May n) fn)))) mks n (by kernel_rfl) rfl (fun x => by kernel_rfl)
def sref28_word (n : Nat) (x0 : tI.D) (x1 : tI.D) : Option (Bool) := bindO (TM.ask (notB (ltI x1 (Int.ofNat 0))) (need (notB (ltI x0 (Int.ofNat 0))) (some (ltI x1 (shlI IntKind.i64 (Int.ofNat 1) x0)))) (some false)) fun x => some x
abbrev Fref28_word (n : Nat) : Fun := .p 38 [.val false tI, .val false tI] (.one false (.v .bool)) (fun x => sref28_word n x.1 x.2)
theorem okref28_word (n : Nat) : FunOk Tryz.prog G (Fref28_word n) := funP fn mks n (by kernel_rfl) rfl (fun x => by kernel_rfl)
def sref28_May (n : Nat) (x0 : tFlat.D) (x1 : tState.D) : Option (Bool) := bindO (TM.ask (notB (eqI (Int.ofNat (List.length x1.1)) (Int.ofNat (List.length x0.2.2.2.1)))) (some true) (TM.ask (notB (eqI (Int.ofNat (List.length x1.2.1)) (Int.ofNat (List.length x0.2.2.2.1)))) (some true) (TM.ask (notB (eqI (Int.ofNat (List.length x1.2.2.1)) (Int.ofNat (List.length x0.2.2.2.1)))) (some true) (TM.ask (notB (eqI (Int.ofNat (List.length x1.2.2.2.1)) x0.2.2.2.2)) (some true) (TM.ask (notB (eqI (Int.ofNat (List.length x1.2.2.2.2.1)) (Int.ofNat (List.length x0.2.1)))) (some true) (some (notB (eqI (Int.ofNat (List.length x1.2.2.2.2.2.1)) (Int.ofNat (List.length x0.2.1)))))))))) fun x => TM.ask x (some false) (iter (fun x rec => TM.ask (ltI x (Int.ofNat (List.length x0.2.2.2.1))) (bindO (need (inB x (List.length x1.1)) (TM.ask (ltI (List.getD x1.1 (Int.toNat x) (Int.ofNat 0)) (Int.ofNat 0)) (some true) (need (inB x (List.length x1.1)) (need (inB x (List.length x0.2.2.2.1)) (some (ltI (Int.ofNat (List.length (List.getD x0.2.2.2.1 (Int.toNat x) []))) (List.getD x1.1 (Int.toNat x) (Int.ofNat 0)))))))) fun x_1 => TM.ask x_1 (some false) (rec (wr IntKind.i64 (Int.add x (Int.ofNat 1))))) (iter (fun x rec => TM.ask (ltI x x0.2.2.2.2) (need (inB x (List.length x1.2.2.2.1)) (bindO (sref28_word n x0.1 (List.getD x1.2.2.2.1 (Int.toNat x) (Int.ofNat 0))) fun r => TM.ask (notB r) (some false) (rec (wr IntKind.i64 (Int.add x (Int.ofNat 1)))))) (iter (fun x rec => TM.ask (ltI x (Int.ofNat (List.length x0.2.1))) (need (inB x (List.length x0.2.1)) (bindO (TM.ask (eqI (List.getD x0.2.1 (Int.toNat x) (Int.ofNat 0, [], Int.ofNat 0, Int.ofNat 0)).1 (Int.ofNat 4)) (some (List.getD x0.2.1 (Int.toNat x) (Int.ofNat 0, [], Int.ofNat 0, Int.ofNat 0)).2.2.1) (some (Int.ofNat 0))) fun x_1 => need (inB x (List.length x1.2.2.2.2.2.1)) (TM.ask (ltI x_1 (Int.ofNat (List.length (List.getD x1.2.2.2.2.2.1 (Int.toNat x) ([] : List Int))))) (some false) (iter (fun x_2 rec_1 => need (inB x (List.length x1.2.2.2.2.2.1)) (TM.ask (ltI x_2 (Int.ofNat (List.length (List.getD x1.2.2.2.2.2.1 (Int.toNat x) ([] : List Int))))) (need (inB x (List.length x1.2.2.2.2.2.1)) (need (inB x_2 (List.length (List.getD x1.2.2.2.2.2.1 (Int.toNat x) ([] : List Int)))) (bindO (sref28_word n x0.1 (List.getD (List.getD x1.2.2.2.2.2.1 (Int.toNat x) ([] : List Int)) (Int.toNat x_2) (Int.ofNat 0))) fun r => TM.ask (notB r) (some false) (rec_1 (wr IntKind.i64 (Int.add x_2 (Int.ofNat 1))))))) (bindO (TM.ask (notB (ltI (Int.ofNat 2) (List.getD x0.2.1 (Int.toNat x) (Int.ofNat 0, [], Int.ofNat 0, Int.ofNat 0)).1)) (need (inB x (List.length x1.2.2.2.2.1)) (bindO (sref28_word n x0.1 (List.getD x1.2.2.2.2.1 (Int.toNat x) (Int.ofNat 0))) fun r => TM.ask (notB r) (some true) (TM.ask (eqI (List.getD x0.2.1 (Int.toNat x) (Int.ofNat 0, [], Int.ofNat 0, Int.ofNat 0)).1 (Int.ofNat 3)) (need (inB x (List.length x1.2.2.2.2.1)) (TM.ask (ltI (List.getD x1.2.2.2.2.1 (Int.toNat x) (Int.ofNat 0)) (Int.ofNat 0)) (some true) (need (inB x (List.length x1.2.2.2.2.1)) (TM.ask (ltI (Int.ofNat (List.length x0.2.2.2.1)) (List.getD x1.2.2.2.2.1 (Int.toNat x) (Int.ofNat 0))) (some true) (TM.ask (eqI (List.getD x0.2.1 (Int.toNat x) (Int.ofNat 0, [], Int.ofNat 0, Int.ofNat 0)).1 (Int.ofNat 4)) (need (inB x (List.length x1.2.2.2.2.1)) (some (notB (eqI (List.getD x1.2.2.2.2.1 (Int.toNat x) (Int.ofNat 0)) (Int.ofNat 0))))) (some false)))))) (TM.ask (eqI (List.getD x0.2.1 (Int.toNat x) (Int.ofNat 0, [], Int.ofNat 0, Int.ofNat 0)).1 (Int.ofNat 4)) (need (inB x (List.length x1.2.2.2.2.1)) (some (notB (eqI (List.getD x1.2.2.2.2.1 (Int.toNat x) (Int.ofNat 0)) (Int.ofNat 0))))) (some false))))) (TM.ask (eqI (List.getD x0.2.1 (Int.toNat x) (Int.ofNat 0, [], Int.ofNat 0, Int.ofNat 0)).1 (Int.ofNat 3)) (need (inB x (List.length x1.2.2.2.2.1)) (TM.ask (ltI (List.getD x1.2.2.2.2.1 (Int.toNat x) (Int.ofNat 0)) (Int.ofNat 0)) (some true) (need (inB x (List.length x1.2.2.2.2.1)) (TM.ask (ltI (Int.ofNat (List.length x0.2.2.2.1)) (List.getD x1.2.2.2.2.1 (Int.toNat x) (Int.ofNat 0))) (some true) (TM.ask (eqI (List.getD x0.2.1 (Int.toNat x) (Int.ofNat 0, [], Int.ofNat 0, Int.ofNat 0)).1 (Int.ofNat 4)) (need (inB x (List.length x1.2.2.2.2.1)) (some (notB (eqI (List.getD x1.2.2.2.2.1 (Int.toNat x) (Int.ofNat 0)) (Int.ofNat 0))))) (some false)))))) (TM.ask (eqI (List.getD x0.2.1 (Int.toNat x) (Int.ofNat 0, [], Int.ofNat 0, Int.ofNat 0)).1 (Int.ofNat 4)) (need (inB x (List.length x1.2.2.2.2.1)) (some (notB (eqI (List.getD x1.2.2.2.2.1 (Int.toNat x) (Int.ofNat 0)) (Int.ofNat 0))))) (some false)))) fun x_3 => TM.ask x_3 (some false) (rec (wr IntKind.i64 (Int.add x (Int.ofNat 1))))))) n (Int.ofNat 0))))) (some true)) n (Int.ofNat 0))) n (Int.ofNat 0))) n (Int.ofNat 0))
abbrev Fref28_May (n : Nat) : Fun := .p 12 [.val true tFlat, .val true tState] (.one false (.v .bool)) (fun x => sref28_May n x.1 x.2)
theorem okref28_May (n : Nat) : FunOk Tryz.prog G (Fref28_May n) := funP (fc (okref28_word n) fn) mks n (by kernel_rfl) rfl (fun x => by kernel_rfl)
def sref01_Ints (n : Nat) (x0 : List (tI.D)) (x1 : List (tI.D)) : Option (Bool) := TM.ask (notB (eqI (Int.ofNat (List.length x0)) (Int.ofNat (List.length x1)))) (some false) (iter (fun x rec => TM.ask (ltI x (Int.ofNat (List.length x0))) (need (inB x (List.length x0)) (need (inB x (List.length x1)) (TM.ask (notB (eqI (List.getD x0 (Int.toNat x) (Int.ofNat 0)) (List.getD x1 (Int.toNat x) (Int.ofNat 0)))) (some false) (rec (wr IntKind.i64 (Int.add x (Int.ofNat 1))))))) (some true)) n (Int.ofNat 0))
abbrev Fref01_Ints (n : Nat) : Fun := .p 20 [.val false (.sl tI), .val false (.sl tI)] (.one false (.v .bool)) (fun x => sref01_Ints n x.1 x.2)
theorem okref01_Ints (n : Nat) : FunOk Tryz.prog G (Fref01_Ints n) := funP fn mks n (by kernel_rfl) rfl (fun x => by kernel_rfl)
def sref16_Mod (n : Nat) (x0 : tI.D) (x1 : tI.D) : Option (tI.D) := bindO (sref16_Power n x1) fun r => need (notB (eqI r (Int.ofNat 0))) (bindO (TM.ask (ltI (Int.tmod x0 r) (Int.ofNat 0)) (bindO (sref16_Power n x1) fun r_1 => some (wr IntKind.i64 (Int.add (Int.tmod x0 r) r_1))) (some (Int.tmod x0 r))) fun x => some x)
def sref16_Div (n : Nat) (x0 : tI.D) (x1 : tI.D) (x2 : tI.D) : Option (tI.D) := TM.ask (eqI x1 (Int.ofNat 0)) (bindO (sref16_Power n x2) fun r => some (wr IntKind.i64 (Int.sub r (Int.ofNat 1)))) (need (notB (eqI x1 (Int.ofNat 0))) (some (wr IntKind.i64 (Int.tdiv x0 x1))))
def sref16_Rest (n : Nat) (x0 : tI.D) (x1 : tI.D) : Option (tI.D) := TM.ask (eqI x1 (Int.ofNat 0)) (some x0) (need (notB (eqI x1 (Int.ofNat 0))) (some (Int.tmod x0 x1)))
def sref16_Shl (n : Nat) (x0 : tI.D) (x1 : tI.D) (x2 : tI.D) : Option (tI.D) := TM.ask (notB (ltI x1 x2)) (some (Int.ofNat 0)) (bindO (sref16_Power n x1) fun r => bindO (sref16_Mod n (wr IntKind.i64 (Int.mul x0 r)) x2) fun r => some r)
def sref16_Shr (n : Nat) (x0 : tI.D) (x1 : tI.D) (x2 : tI.D) : Option (tI.D) := TM.ask (notB (ltI x1 x2)) (some (Int.ofNat 0)) (bindO (sref16_Power n x1) fun r => need (notB (eqI r (Int.ofNat 0))) (some (wr IntKind.i64 (Int.tdiv x0 r))))
def sref16_Bit (n : Nat) (x0 : tI.D) (x1 : tI.D) : Option (tI.D) := iter (fun x rec => TM.ask (ltI x.2 x1) (rec (wr IntKind.i64 (Int.tdiv x.1 (Int.ofNat 2)), wr IntKind.i64 (Int.add x.2 (Int.ofNat 1)))) (some (Int.tmod x.1 (Int.ofNat 2)))) n (x0, Int.ofNat 0)
def sref16_Bits (n : Nat) (x0 : tI.D) (x1 : tI.D) (x2 : tI.D) (x3 : tI.D) : Option (tI.D) := iter (fun x rec => TM.ask (notB (ltI x.2 (Int.ofNat 0))) (bindO (sref16_Bit n x1 x.2) fun r => bindO (sref16_Bit n x2 x.2) fun r_1 => bindO (TM.ask (eqI x0 (Int.ofNat 0)) (TM.ask (eqI (wr IntKind.i64 (Int.add r r_1)) (Int.ofNat 2)) (some true) (TM.ask (eqI x0 (Int.ofNat 1)) (TM.ask (ltI (Int.ofNat 0) (wr IntKind.i64 (Int.add r r_1))) (some true) (TM.ask (eqI x0 (Int.ofNat 2)) (some (notB (eqI r r_1))) (some false))) (TM.ask (eqI x0 (Int.ofNat 2)) (some (notB (eqI r r_1))) (some false)))) (TM.ask (eqI x0 (Int.ofNat 1)) (TM.ask (ltI (Int.ofNat 0) (wr IntKind.i64 (Int.add r r_1))) (some true) (TM.ask (eqI x0 (Int.ofNat 2)) (some (notB (eqI r r_1))) (some false))) (TM.ask (eqI x0 (Int.ofNat 2)) (some (notB (eqI r r_1))) (some false)))) fun x_1 => bindO (TM.ask x_1 (some (Int.ofNat 1)) (some (Int.ofNat 0))) fun x_2 => rec (wr IntKind.i64 (Int.add (wr IntKind.i64 (Int.mul (Int.ofNat 2) x.1)) x_2), wr IntKind.i64 (Int.sub x.2 (Int.ofNat 1)))) (some x.1)) n (Int.ofNat 0, wr IntKind.i64 (Int.sub x3 (Int.ofNat 1)))
def sref25_truth (n : Nat) (x0 : Bool) : Option (tI.D) := TM.ask x0 (some (Int.ofNat 1)) (some (Int.ofNat 0))
def sref25_Apply (n : Nat) (x0 : tI.D) (x1 : List Int) (x2 : tI.D) (x3 : tI.D) : Option (tI.D) := TM.ask (eqS x1 [Int.ofNat 42]) (bindO (sref16_Mod n (wr IntKind.i64 (Int.mul x2 x3)) x0) fun r => some r) (TM.ask (eqS x1 [Int.ofNat 47]) (bindO (sref16_Div n x2 x3 x0) fun r => some r) (TM.ask (eqS x1 [Int.ofNat 37]) (bindO (sref16_Rest n x2 x3) fun r => some r) (TM.ask (eqS x1 [Int.ofNat 60, Int.ofNat 60]) (bindO (sref16_Shl n x2 x3 x0) fun r => some r) (TM.ask (eqS x1 [Int.ofNat 62, Int.ofNat 62]) (bindO (sref16_Shr n x2 x3 x0) fun r => some r) (TM.ask (eqS x1 [Int.ofNat 38]) (bindO (sref16_Bits n (Int.ofNat 0) x2 x3 x0) fun r => some r) (TM.ask (eqS x1 [Int.ofNat 124]) (bindO (sref16_Bits n (Int.ofNat 1) x2 x3 x0) fun r => some r) (TM.ask (eqS x1 [Int.ofNat 94]) (bindO (sref16_Bits n (Int.ofNat 2) x2 x3 x0) fun r => some r) (TM.ask (eqS x1 [Int.ofNat 43]) (bindO (sref16_Mod n (wr IntKind.i64 (Int.add x2 x3)) x0) fun r => some r) (TM.ask (eqS x1 [Int.ofNat 45]) (bindO (sref16_Mod n (wr IntKind.i64 (Int.sub x2 x3)) x0) fun r => some r) (TM.ask (eqS x1 [Int.ofNat 61, Int.ofNat 61]) (bindO (sref25_truth n (eqI x2 x3)) fun r => some r) (TM.ask (eqS x1 [Int.ofNat 33, Int.ofNat 61]) (bindO (sref25_truth n (notB (eqI x2 x3))) fun r => some r) (TM.ask (eqS x1 [Int.ofNat 60]) (bindO (sref25_truth n (ltI x2 x3)) fun r => some r) (TM.ask (eqS x1 [Int.ofNat 60, Int.ofNat 61]) (bindO (sref25_truth n (notB (ltI x3 x2))) fun r => some r) (TM.ask (eqS x1 [Int.ofNat 62]) (bindO (sref25_truth n (ltI x3 x2)) fun r => some r) (TM.ask (eqS x1 [Int.ofNat 62, Int.ofNat 61]) (bindO (sref25_truth n (notB (ltI x2 x3))) fun r => some r) (TM.ask (eqS x1 [Int.ofNat 38, Int.ofNat 38]) (bindO (TM.ask (notB (eqI x2 (Int.ofNat 0))) (bindO (sref25_truth n (notB (eqI x3 (Int.ofNat 0)))) fun r => some r) (bindO (sref25_truth n false) fun r => some r)) fun x => some x) (TM.ask (eqS x1 [Int.ofNat 124, Int.ofNat 124]) (bindO (TM.ask (notB (eqI x2 (Int.ofNat 0))) (bindO (sref25_truth n true) fun r => some r) (bindO (sref25_truth n (notB (eqI x3 (Int.ofNat 0)))) fun r => some r)) fun x => some x) (some (Int.ofNat 0)))))))))))))))))))
def sref25_One (n : Nat) (x0 : tI.D) (x1 : List Int) (x2 : tI.D) : Option (tI.D) := TM.ask (eqS x1 [Int.ofNat 45]) (bindO (sref16_Mod n (wr IntKind.i64 (Int.sub (Int.ofNat 0) x2)) x0) fun r => some r) (TM.ask (eqS x1 [Int.ofNat 126]) (bindO (sref16_Power n x0) fun r => some (wr IntKind.i64 (Int.sub (wr IntKind.i64 (Int.sub r (Int.ofNat 1))) x2))) (bindO (sref25_truth n (eqI x2 (Int.ofNat 0))) fun r => some r))
def sref01_Has (n : Nat) (x0 : List (tI.D)) (x1 : tI.D) : Option (Bool) := iter (fun x rec => TM.ask (ltI x (Int.ofNat (List.length x0))) (need (inB x (List.length x0)) (TM.ask (eqI (List.getD x0 (Int.toNat x) (Int.ofNat 0)) x1) (some true) (rec (wr IntKind.i64 (Int.add x (Int.ofNat 1)))))) (some false)) n (Int.ofNat 0)
abbrev Fref01_Has (n : Nat) : Fun := .p 25 [.val false (.sl tI), .val false tI] (.one false (.v .bool)) (fun x => sref01_Has n x.1 x.2)
theorem okref01_Has (n : Nat) : FunOk Tryz.prog G (Fref01_Has n) := funP fn mks n (by kernel_rfl) rfl (fun x => by kernel_rfl)
end
end Go.Proofs.YtfbipcdllbdijaaGreat
namespace Go.TM
open Go.ChangeShapes Go.WideShapes Go.ChangeAt Go.RowKit
theorem cell_lt {w : World} {b o : Nat} {v : Value} (h : w.cell? ⟨b, o, none⟩ = some v) : b < w.heap.size := by
  unfold World.cell? at h
  split at h
  · rename_i c t z hb
    exact heap_lt hb
  · cases h
section
variable {H : Type} {enc : TypeId × Value → H} {P : Program} {W : World}
theorem trodAll_stays (hl : laidOutB P = true) {W' : World} : ∀ {ts : List TypeId} {vs : List Value} {ds : List (DataW H)} {ps : List MemPlace}, (∀ t ∈ ts, P.readableRec t = true ∧ t < P.types.size) → DataW.TrodAll enc P W 0 (fun _ => true) true ts vs ds ps → Below W.heap.size W W' → (∀ x ∈ ps, x.block < W.heap.size) →
    DataW.TrodAll enc P W' 0 (fun b => decide (b < W.heap.size)) true ts vs ds ps
  | [], [], [], ps, _, h, _, _ => h
  | t :: ts, v :: vs, d :: ds, ps, ht, ⟨p, q, h1, h2, h3⟩, hb, hlt => by
    subst h3
    exact ⟨p, q, Below.trod hl (ht t (by simp)).1 (ht t (by simp)).2 h1 hb fun x hx => hlt x (by simp [hx]), trodAll_stays hl (fun t' h => ht t' (by simp [h])) h2 hb fun x hx => hlt x (by simp [hx]), rfl⟩
  | [], [], _ :: _, _, _, h, _, _ => by cases h
  | [], _ :: _, _, _, _, h, _, _ => by cases h
  | _ :: _, [], _, _, _, h, _, _ => by cases h
  | _ :: _, _ :: _, [], _, _, h, _, _ => by cases h
theorem law_post {f : Func} {s : ChangeSpec} {args : Array Value} {ds gs : List (DataW H)} {before : List MemPlace} {W' : World} (hl : laidOutB P = true) (hts : ∀ t ∈ f.params.toList, P.readableRec t = true ∧ t < P.types.size) (hvars : s.vars = []) {tb : TypeId} (hrt : f.resultTypes = #[tb]) (htb : P.underlying tb = some .bool)
    (hW : DataW.Whole enc P f.params.toList s.vars false W args.toList ds gs before) (hs : s.fn H ds = { results := [.lit (.bool true)], args := ds }) (hB : Below W.heap.size W W') : s.post enc P f false true false false W args (.bool true) W' := by
  have hlt : ∀ x ∈ before, x.block < W.heap.size := fun x hx => by simpa using hW.lt x hx
  have hW0 := hW
  obtain ⟨p, q, hA, hV, hbe, _, _⟩ := hW
  rw [hvars] at hV
  obtain ⟨rfl, rfl⟩ := trodVars_none hV
  subst hbe
  rw [List.append_nil] at hlt
  refine ⟨ds, [], p ++ [], [], p, [], hW0, ?_, ?_, ?_, hB.frame _, fun h => by cases h⟩
  · rw [List.append_nil, hs, hrt]
    exact trodAll_mk1 (shut_bool htb true)
  · rw [List.append_nil, hs]
    exact trodAll_stays hl hts hA hB hlt
  · rw [List.append_nil, hs, hvars]
    rfl
def GAll (w : World) : Nat → Nat → Value → Prop := fun b o v => w.cell? ⟨b, o, none⟩ = some v
theorem gall (w : World) : GAt (GAll w) w := fun b o v h => ⟨cell_lt h, h⟩
abbrev Trods (enc : TypeId × Value → H) (P : Program) (W : World) (t : TypeId) (cs : List Value) : Prop := ∃ fuel x, DataW.trod enc P W 0 (fun _ => true) true fuel t cs = some x
theorem Trods.part {t : TypeId} {fs : Array Field} (ht : P.underlying t = some (.struct fs)) {cs : List Value} (h : Trods enc P W t cs) {i : Nat} {f : Field} (hf : fs[i]? = some f) : Trods enc P W f.type ((cs.drop f.offset).take (P.cellsOf f.type)) := by
  obtain ⟨fuel, x, h⟩ := h
  obtain ⟨xs, n, rfl, _, hlen, hxs, hr⟩ := DataW.trod_struct ht h
  have h1 := hr i f hf
  have hi : i < xs.length := by rw [hxs]; exact (Array.getElem?_eq_some_iff.1 hf).1
  rw [List.getElem?_eq_getElem hi] at h1
  exact ⟨_, _, h1⟩
theorem Trods.len {t : TypeId} {fs : Array Field} (ht : P.underlying t = some (.struct fs)) {cs : List Value} (h : Trods enc P W t cs) : cs.length = P.cellsOf t := by
  obtain ⟨fuel, x, h⟩ := h
  obtain ⟨_, _, _, _, hlen, _⟩ := DataW.trod_struct ht h
  exact hlen
theorem Trods.int {t : TypeId} {k : IntKind} (ht : P.underlying t = some (.int k)) {cs : List Value} (h : Trods enc P W t cs) : ∃ n, cs = [.int k n] ∧ k.has n := by
  obtain ⟨fuel, x, h⟩ := h
  obtain ⟨n, h1, _, h2⟩ := DataW.trod_int ht h
  exact ⟨n, h1, by simpa [Lit.wf, IntKind.has] using h2⟩
theorem Trods.bool {t : TypeId} (ht : P.underlying t = some .bool) {cs : List Value} (h : Trods enc P W t cs) : ∃ n, cs = [.bool n] := by
  obtain ⟨fuel, x, h⟩ := h
  obtain ⟨n, h1, _⟩ := DataW.trod_bool ht h
  exact ⟨n, h1⟩
theorem Trods.string {t : TypeId} (ht : P.underlying t = some .string) {cs : List Value} (h : Trods enc P W t cs) : ∃ n, cs = [.string n] ∧ n.size ≤ maxLen := by
  obtain ⟨fuel, x, h⟩ := h
  obtain ⟨n, h1, _, h2⟩ := DataW.trod_string ht h
  exact ⟨n, h1, h2⟩
theorem cell_spot {w : World} {a : Addr} {v : Value} (h : w.cell? a = some v) : a.spot = none ∧ a.block < w.heap.size := by
  unfold World.cell? at h
  split at h
  · rename_i c t z hb
    split at h
    · cases h
    · rename_i hs
      exact ⟨by simpa using hs, heap_lt hb⟩
  · cases h
theorem Trods.slice {t e : TypeId} (ht : P.underlying t = some (.slice e)) (hc : 0 < P.cellsOf e) {cs : List Value} (h : Trods enc P W t cs) :
    cs = [.slice none 0 0] ∨ (∃ a cap, cs = [.slice (some a) 0 cap]) ∨ ∃ a len cap, cs = [.slice (some a) (len + 1) cap] ∧ a.spot = none ∧ a.block < W.heap.size ∧ len + 1 ≤ cap ∧ cap ≤ maxLen ∧
      ∀ j, j < len + 1 → ∃ es, es.length = P.cellsOf e ∧ Trods enc P W e es ∧ ∀ c, c < P.cellsOf e → W.cell? ⟨a.block, a.off + (j * P.cellsOf e + c), none⟩ = es[c]? := by
  obtain ⟨fuel, x, h⟩ := h
  rcases DataW.trod_slice ht h with ⟨rfl, _⟩ | ⟨a, len, cap, elems, rest, n, rfl, rfl, _, _, hlc, hcm, hel, hread, _, _⟩
  · exact .inl rfl
  · cases len with
    | zero => exact .inr (.inl ⟨a, cap, rfl⟩)
    | succ len =>
      have hdat : ∀ j, j < len + 1 → ∃ es, es.length = P.cellsOf e ∧ Trods enc P W e es ∧ ∀ c, c < P.cellsOf e → W.cell? ((a.add (j * P.cellsOf e)).add c) = es[c]? := fun j hj => by
        have hr := hread j hj
        have hlt : j < elems.length := by omega
        rw [List.getElem?_eq_getElem hlt] at hr
        obtain ⟨es, h1, h2⟩ := Option.bind_eq_some_iff.1 hr
        obtain ⟨_, h5, h4⟩ := World.cells?_some h1
        exact ⟨es, h5, ⟨_, _, h2⟩, h4⟩
      have hs : a.spot = none ∧ a.block < W.heap.size := by
        obtain ⟨es, h1, _, h3⟩ := hdat 0 (by omega)
        have h4 := h3 0 hc
        rw [List.getElem?_eq_getElem (by omega)] at h4
        have h5 := cell_spot h4
        unfold Addr.add at h5
        by_cases hk : 0 * P.cellsOf e = 0
        · simpa [hk] using h5
        · exact absurd (Nat.zero_mul _) hk
      refine .inr (.inr ⟨a, len, cap, rfl, hs.1, hs.2, hlc, hcm, fun j hj => ?_⟩)
      obtain ⟨es, h1, h2, h3⟩ := hdat j hj
      refine ⟨es, h1, h2, fun c hcs => ?_⟩
      rw [← h3 c hcs, addr_add _ hs.1, addr_add _ rfl]
      show W.cell? ⟨a.block, a.off + (j * P.cellsOf e + c), none⟩ = W.cell? ⟨a.block, a.off + j * P.cellsOf e + c, none⟩
      rw [Nat.add_assoc]
theorem trods_of {t : TypeId} {v : Value} {d : DataW H} {ps : List MemPlace} (h : DataW.Trod enc P W 0 (fun _ => true) true t v d ps) : Trods enc P W t v.cells.toList := by
  obtain ⟨fuel, h⟩ := h
  exact ⟨fuel, _, h⟩
theorem Trods.array {t e : TypeId} {n : Nat} (ht : P.underlying t = some (.array n e)) {cs : List Value} (h : Trods enc P W t cs) : cs.length = P.cellsOf t ∧ ∀ i, i < n → Trods enc P W e ((cs.drop (i * P.cellsOf e)).take (P.cellsOf e)) := by
  obtain ⟨fuel, x, h⟩ := h
  obtain ⟨xs, m, rfl, _, hlen, hxs, hr⟩ := DataW.trod_array ht h
  refine ⟨hlen, fun i hi => ?_⟩
  have h1 := hr i hi
  rw [List.getElem?_eq_getElem (by omega)] at h1
  exact ⟨_, _, h1⟩
def WB : (t : TC) → t.D → Prop
  | .int k, n => k.has n
  | .bool, _ => True
  | .str, s => s.length ≤ maxLen ∧ ∀ b ∈ s, 0 ≤ b ∧ b < 256
  | .opq, _ => True
  | .unit, _ => True
  | .pair a b, x => WB a x.1 ∧ WB b x.2
  | .sl e, xs => xs.length ≤ maxLen ∧ ∀ x ∈ xs, WB e x
  | .pt e, o => ∀ x, o = some x → WB e x
mutual
def argB (P : Program) : Nat → TypeId → TC → Bool
  | 0, _, _ => false
  | n + 1, t, c => match P.underlying t, c with
    | some (.int k), .int k' => decide (k = k')
    | some .bool, .bool => true
    | some .string, .str => true
    | some (.slice e), .sl c => argB P n e c && Nat.beq (P.cellsOf e) c.sz && Nat.blt 0 c.sz
    | some (.struct fs), c => argsB P n 0 fs.toList c && Nat.beq c.sz (P.cellsOf t)
    | some (.array k e), c => match tTC P deepT e with
      | some a => decide (c = tArr a k) && argB P n e a && Nat.beq (P.cellsOf e) a.sz && Nat.beq (k * a.sz) (P.cellsOf t)
      | none => false
    | _, _ => false
  termination_by structural n => n
def argsB (P : Program) : Nat → Nat → List Field → TC → Bool
  | 0, _, _, _ => false
  | _ + 1, _, [], .unit => true
  | n + 1, off, [f], c => Nat.beq f.offset off && argB P n f.type c && Nat.beq (P.cellsOf f.type) c.sz
  | n + 1, off, f :: g :: r, .pair a b => Nat.beq f.offset off && argB P n f.type a && Nat.beq (P.cellsOf f.type) a.sz && argsB P n (off + a.sz) (g :: r) b
  | _, _, _, _ => false
  termination_by structural n => n
end
theorem list_of {α : Type} {Q : Nat → α → Prop} (n : Nat) (h : ∀ j, j < n → ∃ x, Q j x) : ∃ xs : List α, xs.length = n ∧ ∀ j x, xs[j]? = some x → Q j x := by
  induction n with
  | zero => exact ⟨[], rfl, by simp⟩
  | succ n ih =>
    obtain ⟨xs, h1, h2⟩ := ih fun j hj => h j (by omega)
    obtain ⟨x, hx⟩ := h n (by omega)
    refine ⟨xs ++ [x], by simp [h1], fun j y hy => ?_⟩
    rw [List.getElem?_append] at hy
    split at hy
    · exact h2 j y hy
    · rename_i hj
      have : j = n := by
        have := (List.getElem?_eq_some_iff.1 hy).1
        simp at this
        omega
      subst this
      simp [h1] at hy
      exact hy ▸ hx
theorem bytes_ok (t : ByteArray) : (bytesI t).length = t.size ∧ ∀ b ∈ bytesI t, 0 ≤ b ∧ b < 256 := by
  refine ⟨by unfold bytesI; rw [List.length_map, Array.length_toList]; rfl, fun b hb => ?_⟩
  simp only [bytesI, List.mem_map] at hb
  obtain ⟨c, _, rfl⟩ := hb
  have := c.toNat_lt
  omega
theorem rt_arr {X : Nat → Prop} {a : TC} : ∀ {k : Nat} {cs : List Value}, cs.length = k * a.sz → (∀ i, i < k → ∃ x, WB a x ∧ RT W X a x ((cs.drop (i * a.sz)).take a.sz)) → ∃ x, WB (tArr a k) x ∧ RT W X (tArr a k) x cs
  | 0, cs, hl, _ => ⟨(), trivial, by
    have : cs = [] := List.length_eq_zero_iff.1 (by omega)
    exact this⟩
  | 1, cs, hl, h => by
    obtain ⟨x, h1, h2⟩ := h 0 (by omega)
    refine ⟨x, h1, ?_⟩
    rw [Nat.zero_mul, List.drop_zero, List.take_of_length_le (by omega)] at h2
    exact h2
  | k + 2, cs, hl, h => by
    have hle : a.sz ≤ cs.length := by
      rw [hl, Nat.succ_mul]; omega
    obtain ⟨x, h1, h2⟩ := h 0 (by omega)
    rw [Nat.zero_mul, List.drop_zero] at h2
    obtain ⟨y, h3, h4⟩ := rt_arr (a := a) (X := X) (k := k + 1) (cs := cs.drop a.sz) (by rw [List.length_drop, hl, Nat.succ_mul]; omega) fun i hi => by
      obtain ⟨z, g1, g2⟩ := h (i + 1) (by omega)
      refine ⟨z, g1, ?_⟩
      rw [List.drop_drop, Nat.add_comm a.sz, ← Nat.succ_mul]
      exact g2
    exact ⟨(x, y), ⟨h1, h3⟩, cs.take a.sz, cs.drop a.sz, (List.take_append_drop _ _).symm, h2, h4⟩
theorem argB_ok : ∀ (n : Nat), (∀ t c cs, argB P n t c = true → Trods enc P W t cs → ∃ x, WB c x ∧ RT W (fun _ => False) c x cs) ∧
    ∀ off fs c (cs : List Value), argsB P n off fs c = true → (∀ (i : Nat) (f : Field), fs[i]? = some f → Trods enc P W f.type ((cs.drop f.offset).take (P.cellsOf f.type))) → ∃ x, WB c x ∧ RT W (fun _ => False) c x ((cs.drop off).take c.sz)
  | 0 => ⟨fun t c cs h => by simp [argB] at h, fun off fs c cs h => by simp [argsB] at h⟩
  | n + 1 => by
    obtain ⟨ih1, ih2⟩ := argB_ok n
    refine ⟨fun t c cs h ht => ?_, fun off fs c cs h ht => ?_⟩
    · simp only [argB] at h
      split at h
      · rename_i k k' hk
        obtain rfl := of_decide_eq_true h
        obtain ⟨m, rfl, hm⟩ := ht.int hk
        exact ⟨m, hm, rfl⟩
      · rename_i hk
        obtain ⟨m, rfl⟩ := ht.bool hk
        exact ⟨m, trivial, rfl⟩
      · rename_i hk
        obtain ⟨m, rfl, hm⟩ := ht.string hk
        exact ⟨bytesI m, ⟨by rw [(bytes_ok m).1]; exact hm, (bytes_ok m).2⟩, m, rfl, rfl⟩
      · rename_i e c hk
        simp only [Bool.and_eq_true] at h
        obtain ⟨⟨h1, h2⟩, h3⟩ := h
        have h2 := Nat.eq_of_beq_eq_true h2
        have h3 : 0 < c.sz := Nat.le_of_ble_eq_true h3
        rcases ht.slice hk (by omega) with rfl | ⟨a, cap, rfl⟩ | ⟨a, len, cap, rfl, hs, hb, hlc, hcm, hel⟩
        · exact ⟨[], ⟨Nat.zero_le _, by simp⟩, none, 0, rfl, Nat.le_refl _, fun _ => rfl, by simp⟩
        · exact ⟨[], ⟨Nat.zero_le _, by simp⟩, some a, cap, rfl, Nat.zero_le _, by simp, by simp⟩
        · obtain ⟨xs, hx, hq⟩ := list_of (Q := fun j (x : c.D) => WB c x ∧ ∃ us, Fz W (fun _ => False) a.block (a.off + j * c.sz) us ∧ RT W (fun _ => False) c x us) (len + 1) fun j hj => by
            obtain ⟨es, g1, g2, g3⟩ := hel j hj
            obtain ⟨x, g4, g5⟩ := ih1 e c es h1 g2
            refine ⟨x, g4, es, ⟨id, hb, fun i u hu => ?_⟩, g5⟩
            have hi : i < es.length := (List.getElem?_eq_some_iff.1 hu).1
            have := g3 i (by omega)
            rw [hu, h2, ← Nat.add_assoc] at this
            exact this
          refine ⟨xs, ⟨by rw [hx]; omega, fun x hx => ?_⟩, some a, cap, by rw [hx], by rw [hx]; exact hlc, by simp, fun j x hj => ?_⟩
          · obtain ⟨j, hj⟩ := List.getElem?_of_mem hx
            exact (hq j x hj).1
          · obtain ⟨_, us, g1, g2⟩ := hq j x hj
            exact ⟨a, us, rfl, hs, g1, g2⟩
      · rename_i fs hk
        rw [Bool.and_eq_true] at h
        have h2 := Nat.eq_of_beq_eq_true h.2
        obtain ⟨x, g1, g2⟩ := ih2 0 fs.toList _ cs h.1 fun i f hf => ht.part hk (by simpa using hf)
        refine ⟨x, g1, ?_⟩
        rw [List.drop_zero, List.take_of_length_le (by rw [ht.len hk]; omega)] at g2
        exact g2
      · rename_i k e hk
        split at h
        · rename_i a ha
          simp only [Bool.and_eq_true] at h
          obtain ⟨⟨⟨h1, h2⟩, h3⟩, h4⟩ := h
          obtain rfl := of_decide_eq_true h1
          have h3 := Nat.eq_of_beq_eq_true h3
          have h4 := Nat.eq_of_beq_eq_true h4
          obtain ⟨g1, g2⟩ := ht.array hk
          exact rt_arr (by rw [g1, h4]) fun i hi => ih1 e a _ h2 (by have := g2 i hi; rw [h3] at this; exact this)
        · cases h
      · cases h
    · cases fs with
      | nil =>
        cases c <;> simp only [argsB] at h <;> first | (exact absurd h Bool.false_ne_true) | (exact ⟨(), trivial, by simp [RT, TC.sz]⟩)
      | cons f r =>
        cases r with
        | nil =>
          simp only [argsB, Bool.and_eq_true] at h
          obtain ⟨⟨h1, h2⟩, h3⟩ := h
          have h1 := Nat.eq_of_beq_eq_true h1
          have h3 := Nat.eq_of_beq_eq_true h3
          have := ih1 _ _ _ h2 (ht 0 f rfl)
          rw [h1, h3] at this
          exact this
        | cons g r =>
          cases c with
          | pair a b =>
            simp only [argsB, Bool.and_eq_true] at h
            obtain ⟨⟨⟨h1, h2⟩, h3⟩, h4⟩ := h
            have h1 := Nat.eq_of_beq_eq_true h1
            have h3 := Nat.eq_of_beq_eq_true h3
            obtain ⟨x, g1, g2⟩ := ih1 _ _ _ h2 (ht 0 f rfl)
            rw [h1, h3] at g2
            obtain ⟨y, g3, g4⟩ := ih2 (off + a.sz) (g :: r) b cs h4 fun i f' hf => ht (i + 1) f' hf
            refine ⟨(x, y), ⟨g1, g3⟩, _, _, ?_, g2, g4⟩
            rw [TC.sz, List.take_add, List.drop_drop]
          | _ => simp only [argsB] at h; cases h
theorem argR_of {n : Nat} {t : TypeId} {v : Value} {base : Nat} {c : TC} {g : Bool} (hv : Value.okWide P W .any base t v) (h : Trods enc P W t v.cells.toList) (hb : argB P (n + 1) t c = true) (hg : tAgg P t = some g) : ∃ x, WB c x ∧ ArgR W (fun _ => False) (.val g c) x v (fun _ => False) [] := by
  obtain ⟨x, h1, h2⟩ := (argB_ok (n + 1)).1 t c _ hb h
  refine ⟨x, h1, v.cells.toList, ?_, h2, fun b => id, rfl⟩
  unfold tAgg at hg
  simp only [argB] at hb
  split at hb
  · rename_i k k' ht
    rw [ht] at hg; cases hg
    obtain ⟨n, rfl⟩ := okWide_int ht hv
    exact ⟨rfl, rfl⟩
  · rename_i ht
    rw [ht] at hg; cases hg
    obtain ⟨n, rfl⟩ := okWide_bool ht hv
    exact ⟨rfl, rfl⟩
  · rename_i ht
    rw [ht] at hg; cases hg
    obtain ⟨n, rfl⟩ := okWide_string ht hv
    exact ⟨rfl, rfl⟩
  · rename_i e c' ht
    rw [ht] at hg; cases hg
    obtain ⟨a, len, cap, rfl⟩ := okWide_slice ht hv
    exact ⟨rfl, rfl⟩
  · rename_i fs ht
    rw [ht] at hg; cases hg
    obtain ⟨cs, rfl, _⟩ := okWide_struct ht hv
    rfl
  · rename_i k e ht
    rw [ht] at hg; cases hg
    simp only [Value.okWide, ht] at hv
    obtain ⟨cs, rfl, _⟩ := hv
    rfl
  · cases hb
theorem disj_no : Disj (fun _ => False) fun _ => False := fun _ h => h.elim
end
end Go.TM
namespace Go.Proofs
open Go.Shelf
def Tryz.lays137_ren : Go.Shelf.Ren := ⟨fun | 137 => 151 | 217 => 155 | 266 => 158 | n => n, fun | 9 => 9 | 5 => 5 | 3 => 3 | n => n, fun | n => n⟩
theorem Tryz.lays137 : Go.Proofs.Lays.n137 Tryz.prog Tryz.lays137_ren := {
  mixed := by kernel_rfl
  f137 := Tryz.func151.trans (congrArg some (by kernel_rfl))
  f217 := Tryz.func155.trans (congrArg some (by kernel_rfl))
  f266 := Tryz.func158.trans (congrArg some (by kernel_rfl))
  t3 := Tryz.underlying3
  a3 := Tryz.isAgg3
  z3 := Tryz.sizeOf3
  v3 := Tryz.zeroValue3
  t5 := Tryz.underlying5
  a5 := Tryz.isAgg5
  z5 := Tryz.sizeOf5
  v5 := Tryz.zeroValue5
  t9 := Tryz.underlying9
  a9 := Tryz.isAgg9
  z9 := Tryz.sizeOf9
  v9 := Tryz.zeroValue9 }
def Tryz.lays144_ren : Go.Shelf.Ren := ⟨fun | 144 => 152 | 143 => 156 | 219 => 159 | 217 => 155 | 225 => 160 | 224 => 161 | 267 => 162 | 266 => 158 | 314 => 163 | n => n, fun | 9 => 9 | 4 => 4 | 3 => 3 | 5 => 5 | 46 => 199 | 146 => 201 | 51 => 200 | n => n, fun | 1 => 0 | n => n⟩
theorem Tryz.lays144 : Go.Proofs.Lays.n144 Tryz.prog Tryz.lays144_ren := {
  mixed := by kernel_rfl
  f143 := Tryz.func156.trans (congrArg some (by kernel_rfl))
  f144 := Tryz.func152.trans (congrArg some (by kernel_rfl))
  f217 := Tryz.func155.trans (congrArg some (by kernel_rfl))
  f219 := Tryz.func159.trans (congrArg some (by kernel_rfl))
  f224 := Tryz.func161.trans (congrArg some (by kernel_rfl))
  f225 := Tryz.func160.trans (congrArg some (by kernel_rfl))
  f266 := Tryz.func158.trans (congrArg some (by kernel_rfl))
  f267 := Tryz.func162.trans (congrArg some (by kernel_rfl))
  f314 := Tryz.func163.trans (congrArg some (by kernel_rfl))
  t3 := Tryz.underlying3
  a3 := Tryz.isAgg3
  z3 := Tryz.sizeOf3
  v3 := Tryz.zeroValue3
  t4 := Tryz.underlying4
  a4 := Tryz.isAgg4
  z4 := Tryz.sizeOf4
  v4 := Tryz.zeroValue4
  t5 := Tryz.underlying5
  a5 := Tryz.isAgg5
  z5 := Tryz.sizeOf5
  v5 := Tryz.zeroValue5
  t9 := Tryz.underlying9
  a9 := Tryz.isAgg9
  z9 := Tryz.sizeOf9
  v9 := Tryz.zeroValue9
  t46 := Tryz.underlying199
  a46 := Tryz.isAgg199
  z46 := Tryz.sizeOf199
  v46 := Tryz.zeroValue199
  t51 := Tryz.underlying200
  a51 := Tryz.isAgg200
  z51 := Tryz.sizeOf200
  v51 := Tryz.zeroValue200
  t146 := Tryz.underlying201
  a146 := Tryz.isAgg201
  z146 := Tryz.sizeOf201
  v146 := Tryz.zeroValue201
  g1 := by kernel_rfl }
open Go.RowKit Go.Lib in
theorem Tryz.strings_IndexByte (s : ByteArray) (c : Int) (w : World) :
    Calls Tryz.prog 151 #[.string s, .int .u8 c] w fun e w' => e = .returned (.int .i64 (Lib.indexByte s.data.toList c.toNat.toUInt8)) ∧ w' = w := Any.strings_IndexByte Tryz.lays137 s c w
open Go.RowKit Go.Lib in
theorem Tryz.strings_Contains (s sub : ByteArray) (m : Int) (w : World) (hs : s.size < 4294967281) (hm : w.cell? ⟨0, 0, none⟩ = some (.int .i64 m)) :
    Calls Tryz.prog 152 #[.string s, .string sub] w fun e w' => e = .returned (.bool (Lib.contains s.data.toList sub.data.toList)) ∧ w' = w := Any.strings_Contains Tryz.lays144 s sub m w hs hm
theorem Tryz.maxLen (w : World) (h : w.ShapedOpen Tryz.prog) : ∃ m, Go.TM.GAll w 0 0 (.int .i64 m) :=
  Go.Proofs.cell_of_shapedOpen_int (zero := #[.int .i64 0]) (t := 3) h (of_decide_eq_true (by kernel_rfl)) (by kernel_rfl) rfl (by kernel_rfl) (by kernel_rfl) Tryz.underlying3
end Go.Proofs
namespace Go.Proofs.YtfbipcdllbdijaaGreat
open Go Go.TM Go.Proofs
def u8 (s : List Int) : List UInt8 := s.map fun n => n.toNat.toUInt8
theorem u8_bytes (t : ByteArray) : u8 (bytesI t) = t.data.toList := by
  unfold u8 bytesI
  rw [List.map_map]
  conv => rhs; rw [← List.map_id t.data.toList]
  refine List.map_congr_left fun b _ => ?_
  simp
theorem bytes_len (t : ByteArray) : (bytesI t).length = t.size := by
  unfold bytesI; rw [List.length_map, Array.length_toList]; rfl
noncomputable def sstrings_IndexByte (n : Nat) (s : List Int) (c : Int) : Option Int := some (Lib.indexByte (u8 s) c.toNat.toUInt8)
noncomputable def sstrings_Contains (n : Nat) (s sub : List Int) : Option Bool := need (Nat.blt s.length 4294967281) (some (Lib.contains (u8 s) (u8 sub)))
noncomputable abbrev Fstrings_IndexByte (n : Nat) : Fun := .p 151 [.val false .str, .val false (.int .u8)] (.one false (.v (.int .i64))) (fun x => sstrings_IndexByte n x.1 x.2)
noncomputable abbrev Fstrings_Contains (n : Nat) : Fun := .p 152 [.val false .str, .val false .str] (.one false (.v .bool)) (fun x => sstrings_Contains n x.1 x.2)
theorem contract_pure {P : Program} {G : Nat → Nat → Value → Prop} {k : Nat} {ins : List Arg} {t : TC} {x : ArgsD ins} {r : t.D} {m : ShL (mutsOf ins)} (hm : mutsOf ins = [])
    (h : ∀ (w : World) (X : Nat → Prop) (vals : List Value) (Tt : Nat → Prop) (bs : List Nat), GAt G w → ArgsR w X ins x vals Tt bs → bs = [] ∧ ∃ v, v.oneCell' = true ∧ (∀ (w : World) (X : Nat → Prop), RT w X t r [v]) ∧ Calls P k vals.toArray w fun e w' => e = .returned v ∧ w' = w) : ContractAt P G k ins (.one false (.v t)) x r m := by
  intro w X vals Tt bs hX hT hG hGT hA
  obtain ⟨rfl, v, h1, h2, h3⟩ := h w X vals Tt bs hG hA
  refine h3.mono ?_
  rintro e w' ⟨rfl, rfl⟩
  exact ⟨v, fun _ => False, fun _ => False, rfl, Nat.le_refl _, rfl, rfl, rfl, fun _ _ _ => rfl, hG, ⟨[v], ⟨rfl, h1⟩, h2 _ _, fun _ h => h⟩, mutR_nil hm m, fun _ h => h.elim, fun _ h => by rcases h with h | h <;> exact h.elim⟩
theorem okstrings_IndexByte {G : Nat → Nat → Value → Prop} (n : Nat) : FunOk Tryz.prog G (Fstrings_IndexByte n) := by
  refine ⟨⟨_, Tryz.func151, by kernel_rfl, by kernel_rfl⟩, fun x r hr m => contract_pure rfl fun w X vals Tt bs hG hA => ?_⟩
  obtain ⟨v, vs', T1, T2, bs1, bs2, rfl, rfl, ⟨us, ⟨rfl, _⟩, ⟨t, hu, ht⟩, _, rfl⟩, ⟨v2, rfl, us2, ⟨rfl, _⟩, hu2, _, rfl⟩, _, _⟩ := hA
  injection hu with hu
  subst hu
  have hu2 : [v2] = [.int .u8 x.2] := hu2
  injection hu2 with hu2
  subst hu2
  have hr : some (Lib.indexByte (u8 x.1) x.2.toNat.toUInt8) = some r := hr
  injection hr with hr
  refine ⟨rfl, .int .i64 r, rfl, fun w X => rfl, ?_⟩
  have := Tryz.strings_IndexByte t x.2 w
  rw [← ht, u8_bytes] at hr
  rw [hr] at this
  exact this
theorem okstrings_Contains {G : Nat → Nat → Value → Prop} (hG : ∃ m, G 0 0 (.int .i64 m)) (n : Nat) : FunOk Tryz.prog G (Fstrings_Contains n) := by
  refine ⟨⟨_, Tryz.func152, by kernel_rfl, by kernel_rfl⟩, fun x r hr m => contract_pure rfl fun w X vals Tt bs hGw hA => ?_⟩
  obtain ⟨m0, hG⟩ := hG
  obtain ⟨v, vs', T1, T2, bs1, bs2, rfl, rfl, ⟨us, ⟨rfl, _⟩, ⟨t, hu, ht⟩, _, rfl⟩, ⟨v2, rfl, us2, ⟨rfl, _⟩, ⟨t2, hu2, ht2⟩, _, rfl⟩, _, _⟩ := hA
  injection hu with hu
  subst hu
  injection hu2 with hu2
  subst hu2
  have hr : need (Nat.blt x.1.length 4294967281) (some (Lib.contains (u8 x.1) (u8 x.2))) = some r := hr
  obtain ⟨h1, hr⟩ := need_some hr
  injection hr with hr
  have hlt : x.1.length < 4294967281 := Nat.le_of_ble_eq_true h1
  refine ⟨rfl, .bool r, rfl, fun w X => rfl, ?_⟩
  have := Tryz.strings_Contains t t2 m0 w (by rw [← bytes_len, ht]; exact hlt) (hGw 0 0 _ hG).2
  rw [← ht, ← ht2, u8_bytes, u8_bytes] at hr
  rw [hr] at this
  exact this
end Go.Proofs.YtfbipcdllbdijaaGreat
