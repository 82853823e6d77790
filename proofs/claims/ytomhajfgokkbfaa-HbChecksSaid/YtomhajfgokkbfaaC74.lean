/- Part 4 of the proof. HbChecks holds: at every shape of events and every log the law answers true and leaves its arguments as they were. -/
import Derived.Test.YtomhajfgokkbfaaC73
set_option linter.unusedVariables false
set_option linter.unusedSimpArgs false
set_option maxHeartbeats 4000000
set_option maxRecDepth 20000
namespace Go.AM
open Go.RowKit Go.Proofs
def code24_1 : CCode :=
 (.block 0
  (.loop
  (.seq
   (.seq
   (.region [⟨(some 10), (.mv (.tmp 7)), none⟩,
    ⟨(some 11), (.fad 0 (.tmp 3)), none⟩,
    ⟨(some 12), (.load false 1 (.tmp 11)), none⟩,
    ⟨(some 13), (.len 1 (.tmp 12)), none⟩,
    ⟨(some 14), (.bin 0 .lss (.tmp 10) (.tmp 13)), none⟩] none)
   (.cond (.tmp 14)
    .skip
    (.exit 0)))
   (.seq
   (.block 1
    (.seq
    (.region [⟨(some 17), (.fad 0 (.tmp 3)), none⟩,
     ⟨(some 18), (.load false 1 (.tmp 17)), none⟩,
     ⟨(some 19), (.mv (.tmp 7)), none⟩,
     ⟨(some 20), (.idx 4 (.tmp 18) (.tmp 19)), none⟩,
     ⟨(some 21), (.fad 2 (.tmp 20)), none⟩,
     ⟨(some 22), (.load false 1 (.tmp 21)), none⟩,
     ⟨(some 23), (.call (.func 34) [(.tmp 22)]), none⟩,
     ⟨(some 8), (.mv (.tmp 23)), none⟩] none)
    (.seq
     (.region [⟨(some 24), (.mv (.tmp 8)), none⟩,
      ⟨(some 25), (.bin 0 .gtr (.tmp 24) (.const (.int .i64 0))), none⟩,
      ⟨(some 26), (.mv (.tmp 25)), none⟩,
      ⟨(some 27), (.fad 0 (.tmp 3)), (some (26, true))⟩,
      ⟨(some 28), (.load false 1 (.tmp 27)), (some (26, true))⟩,
      ⟨(some 29), (.mv (.tmp 7)), (some (26, true))⟩,
      ⟨(some 30), (.idx 4 (.tmp 28) (.tmp 29)), (some (26, true))⟩,
      ⟨(some 31), (.fad 3 (.tmp 30)), (some (26, true))⟩,
      ⟨(some 32), (.load false 1 (.tmp 31)), (some (26, true))⟩,
      ⟨(some 33), (.mv (.tmp 1)), (some (26, true))⟩,
      ⟨(some 34), (.len 1 (.tmp 33)), (some (26, true))⟩,
      ⟨(some 35), (.bin 0 .geq (.tmp 32) (.tmp 34)), (some (26, true))⟩,
      ⟨(some 36), (.mv (.tmp 35)), (some (26, true))⟩,
      ⟨(some 37), (.mv (.tmp 1)), (some (36, false))⟩,
      ⟨(some 38), (.fad 0 (.tmp 3)), (some (36, false))⟩,
      ⟨(some 39), (.load false 1 (.tmp 38)), (some (36, false))⟩,
      ⟨(some 40), (.mv (.tmp 7)), (some (36, false))⟩,
      ⟨(some 41), (.idx 4 (.tmp 39) (.tmp 40)), (some (36, false))⟩,
      ⟨(some 42), (.fad 3 (.tmp 41)), (some (36, false))⟩,
      ⟨(some 43), (.load false 1 (.tmp 42)), (some (36, false))⟩,
      ⟨(some 44), (.idx 4 (.tmp 37) (.tmp 43)), (some (36, false))⟩,
      ⟨(some 45), (.fad 0 (.tmp 44)), (some (36, false))⟩,
      ⟨(some 46), (.load false 1 (.tmp 45)), (some (36, false))⟩,
      ⟨(some 47), (.mv (.tmp 8)), (some (36, false))⟩,
      ⟨(some 48), (.bin 0 .neq (.tmp 46) (.tmp 47)), (some (36, false))⟩,
      ⟨(some 49), (.pick (.tmp 36) (.const (.bool true)) (.tmp 48)), (some (26, true))⟩,
      ⟨(some 50), (.pick (.tmp 26) (.tmp 49) (.const (.bool false))), none⟩] none)
     (.cond (.tmp 50)
     (.seq
      (.region [⟨(some 6), (.mv (.const (.bool false))), none⟩] none)
      .ret)
     .skip))))
   (.region [⟨(some 15), (.mv (.tmp 7)), none⟩,
    ⟨(some 16), (.bin 0 .add (.tmp 15) (.const (.int .i64 1))), none⟩,
    ⟨(some 7), (.mv (.tmp 16)), none⟩] none)))))
def code24_2 : CCode :=
 (.block 2
  (.loop
  (.seq
   (.seq
   (.region [⟨(some 54), (.mv (.tmp 9)), none⟩,
    ⟨(some 55), (.mv (.tmp 2)), none⟩,
    ⟨(some 56), (.len 1 (.tmp 55)), none⟩,
    ⟨(some 57), (.bin 0 .lss (.tmp 54) (.tmp 56)), none⟩] none)
   (.cond (.tmp 57)
    .skip
    (.exit 2)))
   (.seq
   (.block 3
    (.seq
    (.region [⟨(some 60), (.load true 2 (.tmp 3)), none⟩,
     ⟨(some 61), (.mv (.tmp 1)), none⟩,
     ⟨(some 62), (.mv (.tmp 2)), none⟩,
     ⟨(some 63), (.mv (.tmp 9)), none⟩,
     ⟨(some 64), (.slc 3 (.tmp 62) none (some (.tmp 63))), none⟩,
     ⟨(some 65), (.mv (.tmp 2)), none⟩,
     ⟨(some 66), (.mv (.tmp 9)), none⟩,
     ⟨(some 67), (.idx 3 (.tmp 65) (.tmp 66)), none⟩,
     ⟨(some 68), (.load true 3 (.tmp 67)), none⟩,
     ⟨(some 69), (.call (.func 36) [(.tmp 60), (.tmp 61), (.tmp 64), (.tmp 68)]), none⟩,
     ⟨(some 70), (.un .not (.tmp 69)), none⟩] (some (.take 0 (.take 1 (.take 2 (.take 3 (.take 4 (.take 5 (.take 6 (.take 7 (.take 8 (.alt 9 (.take 10 .done) .alt0))))))))))))
    (.cond (.tmp 70)
     (.seq
     (.region [⟨(some 6), (.mv (.const (.bool false))), none⟩] none)
     .ret)
     .skip)))
   (.region [⟨(some 58), (.mv (.tmp 9)), none⟩,
    ⟨(some 59), (.bin 0 .add (.tmp 58) (.const (.int .i64 1))), none⟩,
    ⟨(some 9), (.mv (.tmp 59)), none⟩] none)))))
def code24 : CCode :=
 (.seq
  (.region [⟨(some 3), (.box 2 (.tmp 0)), none⟩,
   ⟨(some 6), (.mv (.const (.bool false))), none⟩] none)
  (.seq
  (.seq
   (.region [⟨(some 7), (.mv (.const (.int .i64 0))), none⟩] none)
   code24_1)
  (.seq
   (.seq
   (.region [⟨(some 51), (.mv (.tmp 2)), none⟩,
    ⟨(some 52), (.len 1 (.tmp 51)), none⟩,
    ⟨(some 53), (.bin 0 .gtr (.tmp 52) (.const (.int .i64 40))), none⟩] none)
   (.cond (.tmp 53)
    (.seq
    (.region [⟨(some 6), (.mv (.const (.bool false))), none⟩] none)
    .ret)
    .skip))
   (.seq
   (.seq
    (.region [⟨(some 9), (.mv (.const (.int .i64 0))), none⟩] none)
    code24_2)
   (.seq
    (.region [⟨(some 6), (.mv (.const (.bool true))), none⟩] none)
    .ret)))))
theorem tr24 : (Try.f24.body).bind (trCode Try.prog Try.f24.ntmps) = some code24 := by kernel_rfl
inductive O24_1 where
  | ok (b0 : api_Shape) (v1 : List api_Decl) (v2 : List api_Entry)
  | ret (r : Bool)
def l24_1 (n : Nat) : Nat → api_Shape → (List api_Decl) → (List api_Entry) → Int → Option O24_1
  | 0, _, _, _, _ => none
  | m + 1, b0, v1, v2, v7 =>
    if decide (v7 < (b0.Events.length : Int)) then
      if 0 ≤ v7 ∧ v7 < (b0.Events.length : Int) then
        (s34 n ((b0.Events.getD v7.toNat default).Kind)).bind fun r72 =>
        if (decide (r72 > 0)) = true → 0 ≤ v7 ∧ v7 < (b0.Events.length : Int) then
          if (decide (r72 > 0)) = true → (decide (((b0.Events.getD v7.toNat default).Obj) ≥ (v1.length : Int))) = false → 0 ≤ v7 ∧ v7 < (b0.Events.length : Int) then
            if (decide (r72 > 0)) = true → (decide (((b0.Events.getD v7.toNat default).Obj) ≥ (v1.length : Int))) = false → 0 ≤ ((b0.Events.getD v7.toNat default).Obj) ∧ ((b0.Events.getD v7.toNat default).Obj) < (v1.length : Int) then
              if (decide (r72 > 0)) && ((decide (((b0.Events.getD v7.toNat default).Obj) ≥ (v1.length : Int))) || (((v1.getD ((b0.Events.getD v7.toNat default).Obj).toNat default).Kind) != r72)) then
                some (.ret false)
              else
                l24_1 n m b0 v1 v2 (w64 (v7 + 1))
            else none
          else none
        else none
      else none
    else
      some (.ok b0 v1 v2)
inductive O24_2 where
  | ok
  | ret (r : Bool)
def l24_2 (n : Nat) : Nat → api_Shape → (List api_Decl) → (List api_Entry) → Int → Option O24_2
  | 0, _, _, _, _ => none
  | m + 1, b0, v1, v2, v9 =>
    if decide (v9 < (v2.length : Int)) then
      if 0 ≤ v9 ∧ v9 ≤ (v2.length : Int) then
        if 0 ≤ v9 ∧ v9 < (v2.length : Int) then
          (s36 n b0 v1 (v2.take v9.toNat) (v2.getD v9.toNat default)).bind fun r85 =>
          if !r85 then
            some (.ret false)
          else
            l24_2 n m b0 v1 v2 (w64 (v9 + 1))
        else none
      else none
    else
      some (.ok)
def s24 (n : Nat) (p0 : api_Shape) (p1 : List api_Decl) (p2 : List api_Entry) : Option Bool :=
  (match l24_1 n n p0 p1 p2 0 with
  | none => none
  | some (.ok b0_79 v1_79 v2_79) =>
    if decide ((v2_79.length : Int) > 40) then
      some false
    else
      (match l24_2 n n b0_79 v1_79 v2_79 0 with
      | none => none
      | some (.ok) =>
        some true
      | some (.ret r) =>
        some r)
  | some (.ret r) =>
    some r)
def E24 (r : Bool) (s : AS) : Prop := resOf s (.one 6) = some (.tst r)
theorem t24_1 {n fuel : Nat} {b0 : api_Shape} {v1 : List api_Decl} {v2 : List api_Entry} {v7 : Int} {out : O24_1} (h : l24_1 n fuel b0 v1 v2 v7 = some out) {Q : Ex → AS → Prop} (hok : ∀ b0 v1 v2, out = .ok b0 v1 v2 → Q .normal ⟨[(1, api_Decl.sl v1), (2, api_Entry.sl v2), (3, .ptr 0 0)], [(0, .box (api_Shape.cs b0))], 1⟩) (hret : ∀ r, out = .ret r → ∀ s, E24 r s → Q .ret s) : CWP Try.prog Try.f24.ntmps code24_1 Q ⟨[(1, api_Decl.sl v1), (2, api_Entry.sl v2), (3, .ptr 0 0), (7, I v7)], [(0, .box (api_Shape.cs b0))], 1⟩ := by
  refine CWP.block ?_
  refine CWP.loop (fun k s => ∃ b0 : api_Shape, ∃ v1 : List api_Decl, ∃ v2 : List api_Entry, ∃ v7 : Int, s = ⟨[(1, api_Decl.sl v1), (2, api_Entry.sl v2), (3, .ptr 0 0), (7, I v7)], [(0, .box (api_Shape.cs b0))], 1⟩ ∧ l24_1 n k b0 v1 v2 v7 = some out) fuel ⟨b0, v1, v2, v7, rfl, h⟩ ?_
  clear h
  rintro k s ⟨b0, v1, v2, v7, rfl, h⟩
  cases k with
  | zero => cases h
  | succ m =>
    rw [l24_1] at h
    refine CWP.seq ?_
    refine CWP.seq ?_
    refine CWP.regionT ⟨[(1, api_Decl.sl v1), (2, api_Entry.sl v2), (3, .ptr 0 0), (7, I v7), (14, .tst (decide (v7 < (b0.Events.length : Int))))], [(0, .box (api_Shape.cs b0))], 41⟩ ?_ ?_
    · exact Le.keep (live := [1, 2, 3, 7, 14]) (names := [0]) (nx := 41) rfl
    refine CWP.cond (And.intro (fun hc => ?_) (fun hc => ?_))
    · have h := ite_t h hc
      refine CWP.skip ?_
      refine CWP.seq ?_
      refine CWP.block ?_
      refine CWP.seq ?_
      obtain ⟨hs71, h⟩ := ite_some h
      obtain ⟨r72, hr72, h⟩ := Option.bind_eq_some_iff.1 h
      refine CWP.regionT ⟨[(1, api_Decl.sl v1), (2, api_Entry.sl v2), (3, .ptr 0 0), (7, I v7), (8, I r72)], [(0, .box (api_Shape.cs b0))], 105⟩ ?_ ?_
      · refine And.intro hs71 ?_
        refine FC.semT rfl rfl rfl trivial (c34 hr72) (Or.inl rfl) ?_
        refine ex_refl ?_
        exact Le.keep (live := [1, 2, 3, 7, 8]) (names := [0]) (nx := 105) rfl
      refine CWP.seq ?_
      obtain ⟨hs73, h⟩ := ite_some h
      obtain ⟨hs74, h⟩ := ite_some h
      obtain ⟨hs75, h⟩ := ite_some h
      refine CWP.regionT ⟨[(1, api_Decl.sl v1), (2, api_Entry.sl v2), (3, .ptr 0 0), (7, I v7), (50, .tst ((decide (r72 > 0)) && ((decide (((b0.Events.getD v7.toNat default).Obj) ≥ (v1.length : Int))) || (((v1.getD ((b0.Events.getD v7.toNat default).Obj).toNat default).Kind) != r72))))], [(0, .box (api_Shape.cs b0))], 321⟩ ?_ ?_
      · refine And.intro (fun hg76 => ?_) (fun hg76 => ?_)
        · have hg76 : (decide (r72 > 0)) = true := hg76
          refine And.intro (hs73 (by simp only [hg76, sB, reduceIte])) ?_
          refine And.intro (fun hg77 => ?_) (fun hg77 => ?_)
          · have hg77 : (decide (((b0.Events.getD v7.toNat default).Obj) ≥ (v1.length : Int))) = false := hg77
            refine And.intro (hs74 (by simp only [hg76, hg77, sB, reduceIte]) (by simp only [hg76, hg77, sB, reduceIte])) ?_
            refine And.intro (hs75 (by simp only [hg76, hg77, sB, reduceIte]) (by simp only [hg76, hg77, sB, reduceIte])) ?_
            exact Le.trans (Le.rep (t := 50) rfl (RepLe.fr rfl (FrLe.tst2 (by simp only [hg76, hg77, sB, reduceIte])))) (Le.keep (live := [1, 2, 3, 7, 50]) (names := [0]) (nx := 321) rfl)
          · have hg77 : (decide (((b0.Events.getD v7.toNat default).Obj) ≥ (v1.length : Int))) = true := hg77
            exact Le.trans (Le.rep (t := 50) rfl (RepLe.fr rfl (FrLe.tst (by simp only [hg76, hg77, sB, reduceIte])))) (Le.keep (live := [1, 2, 3, 7, 50]) (names := [0]) (nx := 321) rfl)
        · have hg76 : (decide (r72 > 0)) = false := hg76
          exact Le.trans (Le.rep (t := 50) rfl (RepLe.fr rfl (FrLe.tst (by simp only [hg76, sB, reduceIte])))) (Le.keep (live := [1, 2, 3, 7, 50]) (names := [0]) (nx := 321) rfl)
      refine CWP.cond (And.intro (fun hc => ?_) (fun hc => ?_))
      · have h := ite_t h hc
        refine CWP.seq ?_
        refine CWP.regionT ⟨[(6, .raw (.bool false))], [], 329⟩ ?_ ?_
        · exact Le.keep (live := [6]) (names := []) (nx := 329) rfl
        refine CWP.weaken (Le.rep (t := 6) rfl (RepLe.fr rfl (FrLe.tst rfl))) ?_
        refine CWP.ret ?_
        exact hret _ (Option.some.inj h).symm _ rfl
      · have h := ite_f h hc
        refine CWP.skip ?_
        refine CWP.regionT ⟨[(1, api_Decl.sl v1), (2, api_Entry.sl v2), (3, .ptr 0 0), (7, I (w64 (v7 + 1)))], [(0, .box (api_Shape.cs b0))], 1⟩ ?_ ?_
        · exact Le.trans (Le.keep (live := [1, 2, 3, 7]) (names := [0]) (nx := 345) rfl) (Le.keep (live := [1, 2, 3, 7]) (names := [0]) (nx := 1) rfl)
        exact ⟨m, Nat.lt_succ_self m, _, _, _, _, rfl, h⟩
    · have h := ite_f h hc
      refine CWP.exitL (Le.keep (live := [1, 2, 3]) (names := [0]) (nx := 1) rfl) (s' := ⟨[(1, api_Decl.sl v1), (2, api_Entry.sl v2), (3, .ptr 0 0)], [(0, .box (api_Shape.cs b0))], 1⟩) ?_
      exact hok _ _ _ (Option.some.inj h).symm
theorem t24_2 {n fuel : Nat} {b0 : api_Shape} {v1 : List api_Decl} {v2 : List api_Entry} {v9 : Int} {out : O24_2} (h : l24_2 n fuel b0 v1 v2 v9 = some out) {Q : Ex → AS → Prop} (hok : out = .ok → Q .normal ⟨[], [], 0⟩) (hret : ∀ r, out = .ret r → ∀ s, E24 r s → Q .ret s) : CWP Try.prog Try.f24.ntmps code24_2 Q ⟨[(1, api_Decl.sl v1), (2, api_Entry.sl v2), (3, .ptr 0 0), (9, I v9)], [(0, .box (api_Shape.cs b0))], 1⟩ := by
  refine CWP.block ?_
  refine CWP.loop (fun k s => ∃ b0 : api_Shape, ∃ v1 : List api_Decl, ∃ v2 : List api_Entry, ∃ v9 : Int, s = ⟨[(1, api_Decl.sl v1), (2, api_Entry.sl v2), (3, .ptr 0 0), (9, I v9)], [(0, .box (api_Shape.cs b0))], 1⟩ ∧ l24_2 n k b0 v1 v2 v9 = some out) fuel ⟨b0, v1, v2, v9, rfl, h⟩ ?_
  clear h
  rintro k s ⟨b0, v1, v2, v9, rfl, h⟩
  cases k with
  | zero => cases h
  | succ m =>
    rw [l24_2] at h
    refine CWP.seq ?_
    refine CWP.seq ?_
    refine CWP.regionT ⟨[(1, api_Decl.sl v1), (2, api_Entry.sl v2), (3, .ptr 0 0), (9, I v9), (57, .tst (decide (v9 < (v2.length : Int))))], [(0, .box (api_Shape.cs b0))], 33⟩ ?_ ?_
    · exact Le.keep (live := [1, 2, 3, 9, 57]) (names := [0]) (nx := 33) rfl
    refine CWP.cond (And.intro (fun hc => ?_) (fun hc => ?_))
    · have h := ite_t h hc
      refine CWP.skip ?_
      refine CWP.seq ?_
      refine CWP.block ?_
      refine CWP.seq ?_
      obtain ⟨hs83, h⟩ := ite_some h
      obtain ⟨hs84, h⟩ := ite_some h
      obtain ⟨r85, hr85, h⟩ := Option.bind_eq_some_iff.1 h
      refine CWP.drawT [] [] ⟨[(1, api_Decl.sl v1), (2, api_Entry.sl v2), (3, .ptr 0 0), (9, I v9), (70, .tst !r85)], [(0, .box (api_Shape.cs b0))], 121⟩ ?_ ?_
      · refine And.intro rfl ?_
        iterate 4 refine And.intro rfl ?_
        refine And.intro hs83 ?_
        iterate 3 refine And.intro rfl ?_
        refine And.intro hs84 ?_
        refine And.intro rfl ?_
        refine And.intro ?_ ?_
        · refine And.intro rfl ?_
          refine FC.semT rfl rfl rfl trivial (FC.args (FrLes.cons (FrLe.refl _) (FrLes.cons (FrLe.refl _) (FrLes.cons (FrLe.fro (take_len hs83) (fun j c h1 h2 => FrLe.eq (take_get (cell := api_Entry.cell) (d := default) (sz := 3) j c h1 h2))) (FrLes.cons (FrLe.refl _) (FrLes.nil))))) (c36 hr85)) (Or.inl rfl) ?_
          refine ex_refl ?_
          refine And.intro rfl ?_
          exact Le.keep (live := [1, 2, 3, 9, 70]) (names := [0]) (nx := 121) rfl
        · exact trivial
      refine CWP.cond (And.intro (fun hc => ?_) (fun hc => ?_))
      · have h := ite_t h hc
        refine CWP.seq ?_
        refine CWP.regionT ⟨[(6, .raw (.bool false))], [], 129⟩ ?_ ?_
        · exact Le.keep (live := [6]) (names := []) (nx := 129) rfl
        refine CWP.weaken (Le.rep (t := 6) rfl (RepLe.fr rfl (FrLe.tst rfl))) ?_
        refine CWP.ret ?_
        exact hret _ (Option.some.inj h).symm _ rfl
      · have h := ite_f h hc
        refine CWP.skip ?_
        refine CWP.regionT ⟨[(1, api_Decl.sl v1), (2, api_Entry.sl v2), (3, .ptr 0 0), (9, I (w64 (v9 + 1)))], [(0, .box (api_Shape.cs b0))], 1⟩ ?_ ?_
        · exact Le.trans (Le.keep (live := [1, 2, 3, 9]) (names := [0]) (nx := 145) rfl) (Le.keep (live := [1, 2, 3, 9]) (names := [0]) (nx := 1) rfl)
        exact ⟨m, Nat.lt_succ_self m, _, _, _, _, rfl, h⟩
    · have h := ite_f h hc
      refine CWP.exitL (Le.keep (live := []) (names := []) (nx := 0) rfl) (s' := ⟨[], [], 0⟩) ?_
      exact hok (Option.some.inj h).symm
theorem wf24 {n : Nat} {p0 : api_Shape} {p1 : List api_Decl} {p2 : List api_Entry} {r : Bool} (h : s24 n p0 p1 p2 = some r) : CWP Try.prog Try.f24.ntmps code24 (AtE (E24 r)) ⟨[(0, .agg (api_Shape.cs p0)), (1, api_Decl.sl p1), (2, api_Entry.sl p2)], [], 0⟩ := by
  unfold s24 at h
  refine CWP.seq ?_
  refine CWP.regionT ⟨[(1, api_Decl.sl p1), (2, api_Entry.sl p2), (3, .ptr 0 0)], [(0, .box (api_Shape.cs p0))], 16⟩ ?_ ?_
  · exact Le.keep (live := [1, 2, 3]) (names := [0]) (nx := 16) rfl
  refine CWP.seq ?_
  refine CWP.seq ?_
  refine CWP.regionT ⟨[(1, api_Decl.sl p1), (2, api_Entry.sl p2), (3, .ptr 0 0), (7, I 0)], [(0, .box (api_Shape.cs p0))], 24⟩ ?_ ?_
  · exact Le.keep (live := [1, 2, 3, 7]) (names := [0]) (nx := 24) rfl
  generalize hn78 : l24_1 n n p0 p1 p2 0 = o78 at h
  rcases o78 with _ | o78
  · cases h
  refine CWP.weaken (s' := ⟨[(1, api_Decl.sl p1), (2, api_Entry.sl p2), (3, .ptr 0 0), (7, I 0)], [(0, .box (api_Shape.cs p0))], 1⟩) (Le.keep (live := [1, 2, 3, 7]) (names := [0]) (nx := 1) rfl) ?_
  refine t24_1 hn78 ?_ ?_
  · intro b0_79 v1_79 v2_79 e
    subst e
    dsimp only at h
    refine CWP.seq ?_
    refine CWP.seq ?_
    refine CWP.regionT ⟨[(1, api_Decl.sl v1_79), (2, api_Entry.sl v2_79), (3, .ptr 0 0), (53, .tst (decide ((v2_79.length : Int) > 40)))], [(0, .box (api_Shape.cs b0_79))], 25⟩ ?_ ?_
    · exact Le.keep (live := [1, 2, 3, 53]) (names := [0]) (nx := 25) rfl
    refine CWP.cond (And.intro (fun hc => ?_) (fun hc => ?_))
    · have h := ite_t h hc
      refine CWP.seq ?_
      refine CWP.regionT ⟨[(6, .raw (.bool false))], [], 33⟩ ?_ ?_
      · exact Le.keep (live := [6]) (names := []) (nx := 33) rfl
      refine CWP.weaken (Le.rep (t := 6) rfl (RepLe.fr rfl (FrLe.tst rfl))) ?_
      refine CWP.ret ?_
      have e := Option.some.inj h
      subst e
      exact rfl
    · have h := ite_f h hc
      refine CWP.skip ?_
      refine CWP.seq ?_
      refine CWP.seq ?_
      refine CWP.regionT ⟨[(1, api_Decl.sl v1_79), (2, api_Entry.sl v2_79), (3, .ptr 0 0), (9, I 0)], [(0, .box (api_Shape.cs b0_79))], 33⟩ ?_ ?_
      · exact Le.keep (live := [1, 2, 3, 9]) (names := [0]) (nx := 33) rfl
      generalize hn86 : l24_2 n n b0_79 v1_79 v2_79 0 = o86 at h
      rcases o86 with _ | o86
      · cases h
      refine CWP.weaken (s' := ⟨[(1, api_Decl.sl v1_79), (2, api_Entry.sl v2_79), (3, .ptr 0 0), (9, I 0)], [(0, .box (api_Shape.cs b0_79))], 1⟩) (Le.keep (live := [1, 2, 3, 9]) (names := [0]) (nx := 1) rfl) ?_
      refine t24_2 hn86 ?_ ?_
      · intro e
        subst e
        dsimp only at h
        refine CWP.seq ?_
        refine CWP.regionT ⟨[(6, .raw (.bool true))], [], 8⟩ ?_ ?_
        · exact Le.keep (live := [6]) (names := []) (nx := 8) rfl
        refine CWP.weaken (Le.rep (t := 6) rfl (RepLe.fr rfl (FrLe.tst rfl))) ?_
        refine CWP.ret ?_
        have e := Option.some.inj h
        subst e
        exact rfl
      · intro r e s hs
        subst e
        dsimp only at h
        have e := Option.some.inj h
        subst e
        exact hs
  · intro r e s hs
    subst e
    dsimp only at h
    have e := Option.some.inj h
    subst e
    exact hs
theorem c24 {n : Nat} {p0 : api_Shape} {p1 : List api_Decl} {p2 : List api_Entry} {r : Bool} (h : s24 n p0 p1 p2 = some r) : FC Try.prog 24 [.agg (api_Shape.cs p0), api_Decl.sl p1, api_Entry.sl p2] (.tst r) [] false := FC.pureE (fn := Try.f24) (cc := code24) (res := .one 6) (by kernel_rfl) (by kernel_rfl) tr24 (by kernel_rfl) (Nat.le_of_ble_eq_true rfl) rfl (wf24 h)
def code52 : CCode :=
 (.seq
  (.region [⟨(some 4), (.mv (.const (.bool false))), none⟩] none)
  (.seq
  (.region [⟨(some 5), (.mv (.tmp 0)), none⟩,
   ⟨(some 6), (.mv (.tmp 1)), none⟩,
   ⟨(some 7), (.call (.func 63) [(.tmp 5), (.tmp 6)]), none⟩,
   ⟨(some 8), (.bin 0 .geq (.tmp 7) (.const (.int .i64 0))), none⟩,
   ⟨(some 4), (.mv (.tmp 8)), none⟩] none)
  .ret))
theorem tr52 : (Try.f52.body).bind (trCode Try.prog Try.f52.ntmps) = some code52 := by kernel_rfl
def s52_dfn53fp26 (n : Nat) (p0 : List api_Event) (p1 : List api_Decl) : Option Bool :=
  (s63_dfn53fp26 n p0 p1).bind fun r53 =>
  some (decide (r53 ≥ 0))
def E52_dfn53fp26 (r : Bool) (s : AS) : Prop := resOf s (.one 4) = some (.tst r)
theorem wf52_dfn53fp26 {n : Nat} {p0 : List api_Event} {p1 : List api_Decl} {r : Bool} (h : s52_dfn53fp26 n p0 p1 = some r) : CWP Try.prog Try.f52.ntmps code52 (AtE (E52_dfn53fp26 r)) ⟨[(0, api_Event.sl p0), (1, .fn (.func 53) [] [.fpt 1 ((fun (x : List api_Decl) _ => api_Decl.sl x) p1)])], [], 0⟩ := by
  unfold s52_dfn53fp26 at h
  refine CWP.seq ?_
  refine CWP.regionT ⟨[(0, api_Event.sl p0), (1, .fn (.func 53) [] [.fpt 1 ((fun (x : List api_Decl) _ => api_Decl.sl x) p1)])], [], 8⟩ ?_ ?_
  · exact Le.keep (live := [0, 1]) (names := []) (nx := 8) rfl
  refine CWP.seq ?_
  obtain ⟨r53, hr53, h⟩ := Option.bind_eq_some_iff.1 h
  refine CWP.regionT ⟨[(4, .tst (decide (r53 ≥ 0)))], [], 48⟩ ?_ ?_
  · refine FC.semT rfl rfl rfl trivial (FC.args (FrLes.cons (FrLe.refl _) (FrLes.cons (FrLe.fn FrLes.nil (FrLes.cons (FrLe.refl _) (FrLes.nil))) (FrLes.nil))) (c63_dfn53fp26 hr53)) (Or.inl rfl) ?_
    refine ex_refl ?_
    exact Le.keep (live := [4]) (names := []) (nx := 48) rfl
  refine CWP.ret ?_
  have e := Option.some.inj h
  subst e
  exact rfl
theorem c52_dfn53fp26 {n : Nat} {p0 : List api_Event} {p1 : List api_Decl} {r : Bool} (h : s52_dfn53fp26 n p0 p1 = some r) : FC Try.prog 52 [api_Event.sl p0, .fn (.func 53) [] [.fpt 1 ((fun (x : List api_Decl) _ => api_Decl.sl x) p1)]] (.tst r) [] false := FC.pureE (fn := Try.f52) (cc := code52) (res := .one 4) (by kernel_rfl) (by kernel_rfl) tr52 (by kernel_rfl) (Nat.le_of_ble_eq_true rfl) rfl (wf52_dfn53fp26 h)
def code38 : CCode :=
 (.seq
  (.region [⟨(some 2), (.box 2 (.tmp 0)), none⟩,
   ⟨(some 3), (.box 1 (.tmp 1)), none⟩,
   ⟨(some 4), (.mv (.const (.bool false))), none⟩] none)
  (.seq
  (.region [⟨(some 5), (.fad 0 (.tmp 2)), none⟩,
   ⟨(some 6), (.load false 1 (.tmp 5)), none⟩,
   ⟨(some 7), (.mkfn (.func 53) [] [(.tmp 3)]), none⟩,
   ⟨(some 8), (.call (.func 52) [(.tmp 6), (.tmp 7)]), none⟩,
   ⟨(some 9), (.un .not (.tmp 8)), none⟩,
   ⟨(some 4), (.mv (.tmp 9)), none⟩] none)
  .ret))
theorem tr38 : (Try.f38.body).bind (trCode Try.prog Try.f38.ntmps) = some code38 := by kernel_rfl
def s38 (n : Nat) (p0 : api_Shape) (p1 : List api_Decl) : Option Bool :=
  (s52_dfn53fp26 n p0.Events p1).bind fun r52 =>
  some !r52
def E38 (r : Bool) (s : AS) : Prop := resOf s (.one 4) = some (.tst r)
theorem wf38 {n : Nat} {p0 : api_Shape} {p1 : List api_Decl} {r : Bool} (h : s38 n p0 p1 = some r) : CWP Try.prog Try.f38.ntmps code38 (AtE (E38 r)) ⟨[(0, .agg (api_Shape.cs p0)), (1, api_Decl.sl p1)], [], 0⟩ := by
  unfold s38 at h
  refine CWP.seq ?_
  refine CWP.regionT ⟨[(2, .ptr 0 0), (3, .ptr 8 0)], [(0, .box (api_Shape.cs p0)), (8, .box [api_Decl.sl p1])], 24⟩ ?_ ?_
  · exact Le.keep (live := [2, 3]) (names := [0, 8]) (nx := 24) rfl
  refine CWP.seq ?_
  obtain ⟨r52, hr52, h⟩ := Option.bind_eq_some_iff.1 h
  refine CWP.regionT ⟨[(4, .tst !r52)], [], 72⟩ ?_ ?_
  · refine FC.semT rfl rfl rfl trivial (FC.args (FrLes.cons (FrLe.refl _) (FrLes.cons (FrLe.fn FrLes.nil (FrLes.cons (FrLe.fpt (fun i hi => match i, hi with | 0, _ => FrLe.refl _ | _ + 1, h => absurd h (by simp))) (FrLes.nil))) (FrLes.nil))) (c52_dfn53fp26 hr52)) (Or.inr (Or.inl rfl)) ?_
    refine ex_refl ?_
    exact Le.keep (live := [4]) (names := []) (nx := 72) rfl
  refine CWP.ret ?_
  have e := Option.some.inj h
  subst e
  exact rfl
theorem c38 {n : Nat} {p0 : api_Shape} {p1 : List api_Decl} {r : Bool} (h : s38 n p0 p1 = some r) : FC Try.prog 38 [.agg (api_Shape.cs p0), api_Decl.sl p1] (.tst r) [] false := FC.pureE (fn := Try.f38) (cc := code38) (res := .one 4) (by kernel_rfl) (by kernel_rfl) tr38 (by kernel_rfl) (Nat.le_of_ble_eq_true rfl) rfl (wf38 h)
/-- the kind of declaration that a kind asks for -/
def asks (k : Int) : Int := if k ≤ 2 then 1 else if k ≤ 6 then 2 else if k ≤ 8 then 3 else if k ≤ 10 then 4 else 0
theorem s34_eq (n : Nat) (k : Int) : s34 n k = some (asks k) := by
  unfold s34 asks
  simp only [decide_eq_true_eq]
  repeat' split
  all_goals rfl
theorem s54_eq (n : Nat) {k : Int} (h1 : 1 ≤ k) (h2 : k ≤ 11) : s54 n k = some (asks k) := by
  have : k = 1 ∨ k = 2 ∨ k = 3 ∨ k = 4 ∨ k = 5 ∨ k = 6 ∨ k = 7 ∨ k = 8 ∨ k = 9 ∨ k = 10 ∨ k = 11 := by omega
  rcases this with rfl | rfl | rfl | rfl | rfl | rfl | rfl | rfl | rfl | rfl | rfl <;> rfl
theorem asks_pos {k : Int} (h1 : 1 ≤ k) (h2 : k ≤ 11) : 0 ≤ asks k ∧ asks k ≤ 4 ∧ (0 < asks k ↔ k ≠ 11) ∧ (asks k = 4 ↔ (k = 9 ∨ k = 10)) := by
  have : k = 1 ∨ k = 2 ∨ k = 3 ∨ k = 4 ∨ k = 5 ∨ k = 6 ∨ k = 7 ∨ k = 8 ∨ k = 9 ∨ k = 10 ∨ k = 11 := by omega
  rcases this with rfl | rfl | rfl | rfl | rfl | rfl | rfl | rfl | rfl | rfl | rfl <;> decide
/-- is what an event is about declared? -/
def okD (s : api_Shape) (d : List api_Decl) (i : Nat) : Prop := 0 < asks (s.Events.getD i default).Kind → (s.Events.getD i default).Obj < d.length ∧ (d.getD (s.Events.getD i default).Obj.toNat default).Kind = asks (s.Events.getD i default).Kind
theorem ev53 {s : api_Shape} {d : List api_Decl} {n i : Nat} (hg : Good s) (hi : i < s.Events.length) : Ev (s53_dfp26 n (s.Events.getD i default) d) fun r => (r = false ↔ okD s d i) := by
  obtain ⟨⟨h1, h2, h3, h4, h5, h6⟩, _⟩ := hg.ev i hi
  unfold s53_dfp26
  rw [s54_eq n h4 h5]
  simp only [Option.bind_some]
  refine Ev.ask (fun h7 h8 => ?_) (Ev.some ?_)
  · simp only [decide_eq_false_iff_not] at h8; omega
  · unfold okD
    simp only [Bool.and_eq_false_iff, Bool.or_eq_false_iff, decide_eq_false_iff_not, bne_eq_false_iff_eq]
    constructor
    · intro h7 h8
      rcases h7 with h7 | h7
      · omega
      · exact ⟨by omega, h7.2⟩
    · intro h7
      by_cases h8 : 0 < asks (s.Events.getD i default).Kind
      · right
        obtain ⟨h9, h10⟩ := h7 h8
        exact ⟨by omega, h10⟩
      · left; omega
theorem ev63 {s : api_Shape} {d : List api_Decl} {n : Nat} (hg : Good s) : ∀ m k, k ≤ s.Events.length → s.Events.length < m + k → (∀ i, i < k → okD s d i) → Ev (l63_dfn53fp26__1 n m s.Events d s.Events.length k) fun o => (o = .ok ∧ ∀ i, i < s.Events.length → okD s d i) ∨ ∃ j : Nat, o = .ret j ∧ ¬ ∀ i, i < s.Events.length → okD s d i := by
  intro m
  have := hg.n
  induction m with
  | zero => intro k h1 h2 _; omega
  | succ m ih =>
    intro k h1 h2 hk
    rw [l63_dfn53fp26__1]
    refine Ev.ite (fun h => ?_) (fun h => ?_)
    · simp only [decide_eq_true_eq] at h
      refine Ev.ask ⟨by omega, h⟩ ?_
      simp only [Int.toNat_natCast]
      refine Ev.bind (ev53 hg (by omega)) fun r hr => ?_
      refine Ev.ite (fun hc => Ev.some (.inr ⟨k, rfl, fun h' => ?_⟩)) (fun hc => ?_)
      · have := hr.2 (h' k (by omega)); rw [this] at hc; cases hc
      · rw [w64_id (by omega) (by omega)]
        refine ih (k + 1) (by omega) (by omega) fun i hi => ?_
        by_cases hik : i < k
        · exact hk i hik
        · have : i = k := by omega
          subst this; exact hr.1 hc
    · simp only [decide_eq_false_iff_not] at h
      have : k = s.Events.length := by omega
      subst this
      exact Ev.some (.inl ⟨rfl, hk⟩)
theorem ev38 {s : api_Shape} {d : List api_Decl} {n : Nat} (hg : Good s) (hn : 64 ≤ n) : Ev (s38 n s d) fun r => (r = true ↔ ∀ i, i < s.Events.length → okD s d i) := by
  have := hg.n
  unfold s38 s52_dfn53fp26 s63_dfn53fp26
  obtain ⟨o, ho, h1⟩ := ev63 (d := d) (n := n) hg n 0 (Nat.zero_le _) (by omega) (fun i h => absurd h (Nat.not_lt_zero i))
  rw [show ((0 : Nat) : Int) = 0 from rfl] at ho
  rw [ho]
  rcases h1 with ⟨rfl, h1⟩ | ⟨j, rfl, h1⟩
  · exact Ev.some ⟨fun _ => h1, fun _ => rfl⟩
  · refine Ev.some ⟨fun h => ?_, fun h => absurd h h1⟩
    simp at h
theorem ev24_1 {s : api_Shape} {d : List api_Decl} {l : List api_Entry} {n : Nat} (hg : Good s) : ∀ m k, k ≤ s.Events.length → s.Events.length < m + k → (∀ i, i < k → okD s d i) → Ev (l24_1 n m s d l k) fun o => (o = .ok s d l ∧ ∀ i, i < s.Events.length → okD s d i) ∨ (o = .ret false ∧ ¬ ∀ i, i < s.Events.length → okD s d i) := by
  intro m
  have := hg.n
  induction m with
  | zero => intro k h1 h2 _; omega
  | succ m ih =>
    intro k h1 h2 hk
    rw [l24_1]
    refine Ev.ite (fun h => ?_) (fun h => ?_)
    · simp only [decide_eq_true_eq] at h
      refine Ev.ask ⟨by omega, h⟩ ?_
      simp only [Int.toNat_natCast]
      obtain ⟨⟨g1, g2, g3, g4, g5, g6⟩, _⟩ := hg.ev k (by omega)
      rw [s34_eq]
      simp only [Option.bind_some]
      refine Ev.ask (fun _ => ⟨by omega, h⟩) ?_
      refine Ev.ask (fun _ _ => ⟨by omega, h⟩) ?_
      refine Ev.ask (fun _ h8 => by simp only [decide_eq_false_iff_not] at h8; omega) ?_
      refine Ev.ite (fun hc => Ev.some (.inr ⟨rfl, fun h' => ?_⟩)) (fun hc => ?_)
      · simp only [Bool.and_eq_true, Bool.or_eq_true, decide_eq_true_eq, bne_iff_ne, ne_eq] at hc
        obtain ⟨h9, h10⟩ := h' k (by omega) hc.1
        rcases hc.2 with hc | hc
        · omega
        · exact hc h10
      · simp only [Bool.and_eq_false_iff, Bool.or_eq_false_iff, decide_eq_false_iff_not, bne_eq_false_iff_eq] at hc
        rw [w64_id (by omega) (by omega)]
        refine ih (k + 1) (by omega) (by omega) fun i hi => ?_
        by_cases hik : i < k
        · exact hk i hik
        · have : i = k := by omega
          subst this
          intro h9
          rcases hc with hc | hc
          · omega
          · exact ⟨by omega, hc.2⟩
    · simp only [decide_eq_false_iff_not] at h
      have : k = s.Events.length := by omega
      subst this
      exact Ev.some (.inl ⟨rfl, hk⟩)
inductive Path (E : Nat → Nat → Prop) : Nat → Nat → Prop
  | edge {i j : Nat} (h : E i j) : Path E i j
  | step {i k j : Nat} (h : Path E i k) (g : E k j) : Path E i j
theorem Path.trans {E : Nat → Nat → Prop} {i k j : Nat} (h : Path E i k) (g : Path E k j) : Path E i j := by
  induction g with
  | edge g => exact .step h g
  | step _ g ih => exact .step ih g
abbrev pr (s : api_Shape) (i : Nat) : Int := (s.Events.getD i default).Proc
abbrev sp (s : api_Shape) (i : Nat) : Int := s.Starts.getD (s.Events.getD i default).Proc.toNat 0
/-- one step ahead -/
def E0 (s : api_Shape) (i k : Nat) : Prop := i < s.Events.length ∧ k < s.Events.length ∧ ((pr s i = pr s k ∧ i < k) ∨ sp s k = i)
/-- surely ahead, as the document has it -/
def aR (s : api_Shape) : Nat → Nat → Nat → Bool
  | 0, _, _ => false
  | d + 1, a, b => if pr s a = pr s b then decide (a < b) else decide (0 ≤ sp s b) && (decide (sp s b = a) || aR s d a (sp s b).toNat)
theorem Good.start {s : api_Shape} (hg : Good s) {b : Nat} (hb : b < s.Events.length) (h0 : 0 ≤ sp s b) : (sp s b).toNat < s.Events.length ∧ pr s (sp s b).toNat < pr s b := by
  obtain ⟨⟨h1, h2, _⟩, _⟩ := hg.ev b hb
  have hlt : (s.Events.getD b default).Proc.toNat < s.Starts.length := by omega
  obtain ⟨h3, h4, h5⟩ := hg.st _ hlt
  have hi : (sp s b).toNat < s.Events.length := by simp only [sp] at h0 ⊢; omega
  obtain ⟨h6, h7⟩ := h5 h0
  obtain ⟨_, _, h8, _⟩ := hg.ev _ hi
  have h9 := (h8 h6).1
  refine ⟨hi, ?_⟩
  simp only [pr, sp] at h9 ⊢
  omega
theorem g33_tail {q : Int} {a : Nat} {r : Bool} (f : Int → Option Bool) (h : 0 ≤ q → f q = some r) : Ev ((if (decide (q ≥ 0) && !(q == (a : Int))) then f q else some false).bind fun r => some (decide (q ≥ 0) && (q == a || r))) (· = (decide (0 ≤ q) && (decide (q = a) || r))) := by
  by_cases h0 : 0 ≤ q
  · by_cases he : q = a
    · subst he; simp [Ev]
    · rw [if_pos (by simp [he, h0]), h h0]
      simp [Ev, he, h0]
  · simp [Ev, h0]
theorem g33_eq {s : api_Shape} {n : Nat} (hg : Good s) {a : Nat} (ha : a < s.Events.length) : ∀ (p b : Nat), b < s.Events.length → pr s b < (p : Int) → ∀ (d d' : Nat), p ≤ d → p ≤ d' → g33 n d s a b = some (aR s d' a b) := by
  intro p
  induction p with
  | zero =>
    intro b hb hp
    have := (hg.ev b hb).1.1
    simp only [pr] at hp
    omega
  | succ p ih =>
    intro b hb hp d d' hd hd'
    obtain ⟨d, rfl⟩ := Nat.exists_eq_add_of_le hd
    obtain ⟨d', rfl⟩ := Nat.exists_eq_add_of_le hd'
    rw [show p + 1 + d = (p + d) + 1 from by omega, show p + 1 + d' = (p + d') + 1 from by omega]
    obtain ⟨⟨h1, h2, _⟩, _⟩ := hg.ev b hb
    simp only [g33, b33, aR]
    refine Ev.run ?_
    refine Ev.ask ⟨by omega, by omega⟩ ?_
    refine Ev.ask ⟨by omega, by omega⟩ ?_
    simp only [Int.toNat_natCast]
    refine Ev.ite (fun h => ?_) (fun h => ?_)
    · simp only [beq_iff_eq] at h
      rw [if_pos h]
      refine Ev.some ?_
      simp
    · simp only [beq_eq_false_iff_ne, ne_eq] at h
      rw [if_neg h]
      refine Ev.ask ⟨by omega, by omega⟩ ?_
      refine Ev.ask ⟨h1, h2⟩ ?_
      have hst := hg.start hb
      have hih : 0 ≤ sp s b → g33 n (p + d) s a (sp s b) = some (aR s (p + d') a (sp s b).toNat) := fun h0 => by
        obtain ⟨g1, g2⟩ := hst h0
        have := ih (sp s b).toNat g1 (by omega) (p + d) (p + d') (by omega) (by omega)
        rwa [show (((sp s b).toNat : Nat) : Int) = sp s b from by omega] at this
      exact g33_tail (q := sp s b) (fun q => g33 n (p + d) s a q) hih
theorem s33_eq {s : api_Shape} {n : Nat} (hg : Good s) (hn : 64 ≤ n) {a b : Nat} (ha : a < s.Events.length) (hb : b < s.Events.length) : s33 n s a b = some (aR s 7 a b) := by
  have h1 := (hg.ev b hb).1.2.1
  have h2 := hg.m
  exact g33_eq hg ha 7 b hb (by simp only [pr]; omega) n 7 (by omega) (Nat.le_refl _)
theorem aR_le {s : api_Shape} (hg : Good s) {a : Nat} : ∀ d b, b < s.Events.length → aR s d a b = true → pr s a ≤ pr s b := by
  intro d
  induction d with
  | zero => intro b _ h; cases h
  | succ d ih =>
    intro b hb h
    simp only [aR] at h
    split at h
    · rename_i he; omega
    · simp only [Bool.and_eq_true, Bool.or_eq_true, decide_eq_true_eq] at h
      obtain ⟨g1, g2⟩ := hg.start hb h.1
      rcases h.2 with h3 | h3
      · rw [h3] at g2; simp only [Int.toNat_natCast] at g2; omega
      · have := ih _ g1 h3; omega
theorem aR_fuel {s : api_Shape} (hg : Good s) {a : Nat} (ha : a < s.Events.length) {b : Nat} (hb : b < s.Events.length) {d d' : Nat} (h1 : 6 ≤ d) (h2 : 6 ≤ d') : aR s d a b = aR s d' a b := by
  have h3 := (hg.ev b hb).1.2.1
  have h4 := hg.m
  have e1 := g33_eq (n := 0) hg ha 6 b hb (by simp only [pr]; omega) 6 d (Nat.le_refl _) h1
  have e2 := g33_eq (n := 0) hg ha 6 b hb (by simp only [pr]; omega) 6 d' (Nat.le_refl _) h2
  rw [e1] at e2
  exact Option.some.inj e2
theorem aR_path {s : api_Shape} (hg : Good s) {a : Nat} (ha : a < s.Events.length) : ∀ d b, b < s.Events.length → aR s d a b = true → Path (E0 s) a b := by
  intro d
  induction d with
  | zero => intro b _ h; cases h
  | succ d ih =>
    intro b hb h
    simp only [aR] at h
    split at h
    · rename_i he
      simp only [decide_eq_true_eq] at h
      exact .edge ⟨ha, hb, .inl ⟨he, h⟩⟩
    · simp only [Bool.and_eq_true, Bool.or_eq_true, decide_eq_true_eq] at h
      obtain ⟨g1, g2⟩ := hg.start hb h.1
      rcases h.2 with h3 | h3
      · exact .edge ⟨ha, hb, .inr h3⟩
      · exact .step (ih _ g1 h3) ⟨g1, hb, .inr (by have := h.1; omega)⟩
theorem path_aR {s : api_Shape} (hg : Good s) {a b : Nat} (h : Path (E0 s) a b) : a < s.Events.length ∧ b < s.Events.length ∧ aR s 7 a b = true := by
  induction h with
  | @edge j h =>
    obtain ⟨hi, hj, h | h⟩ := h
    · refine ⟨hi, hj, ?_⟩
      simp only [aR]
      rw [if_pos h.1]
      simpa using h.2
    · refine ⟨hi, hj, ?_⟩
      have h0 : 0 ≤ sp s j := by omega
      obtain ⟨_, g2⟩ := hg.start hj h0
      rw [h] at g2
      simp only [Int.toNat_natCast] at g2
      rw [aR]
      rw [if_neg (by omega), h]
      simp
  | @step k j h g ih =>
    obtain ⟨hi, hk, h1⟩ := ih
    obtain ⟨_, hj, g | g⟩ := g
    · refine ⟨hi, hj, ?_⟩
      simp only [aR] at h1 ⊢
      by_cases he : pr s a = pr s k
      · rw [if_pos he] at h1
        rw [if_pos (by omega)]
        simp only [decide_eq_true_eq] at h1 ⊢
        omega
      · rw [if_neg he] at h1
        rw [if_neg (by omega)]
        have e : sp s j = sp s k := by simp only [pr] at g; simp only [sp]; rw [g.1]
        rw [e]; exact h1
    · refine ⟨hi, hj, ?_⟩
      have h0 : 0 ≤ sp s j := by omega
      obtain ⟨_, g2⟩ := hg.start hj h0
      rw [g] at g2
      simp only [Int.toNat_natCast] at g2
      have h3 := aR_le hg 7 k hk h1
      rw [aR]
      rw [if_neg (by omega), g]
      simp only [Int.toNat_natCast]
      rw [aR_fuel hg hi hk (d := 6) (d' := 7) (by omega) (by omega), h1]
      simp
theorem aR_iff {s : api_Shape} (hg : Good s) {a b : Nat} (ha : a < s.Events.length) (hb : b < s.Events.length) : aR s 7 a b = true ↔ Path (E0 s) a b :=
  ⟨aR_path hg ha 7 b hb, fun h => (path_aR hg h).2.2⟩
def code61 : CCode :=
 (.seq
  (.region [⟨(some 3), (.mv (.const (.bool false))), none⟩] none)
  (.seq
  (.region [⟨(some 4), (.mv (.tmp 0)), none⟩,
   ⟨(some 5), (.len 1 (.tmp 4)), none⟩,
   ⟨(some 6), (.load false 1 (.tmp 1)), none⟩,
   ⟨(some 7), (.len 1 (.tmp 6)), none⟩,
   ⟨(some 8), (.bin 0 .neq (.tmp 5) (.tmp 7)), none⟩,
   ⟨(some 3), (.mv (.tmp 8)), none⟩] none)
  .ret))
theorem tr61 : (Try.f61.body).bind (trCode Try.prog Try.f61.ntmps) = some code61 := by kernel_rfl
def s61_dfp36 (n : Nat) (p0 : List Bool) (p1 : List (List Bool)) : Option Bool :=
  some ((p0.length : Int) != (p1.length : Int))
def E61_dfp36 (r : Bool) (s : AS) : Prop := resOf s (.one 3) = some (.tst r)
theorem wf61_dfp36 {n : Nat} {p0 : List Bool} {p1 : List (List Bool)} {r : Bool} (h : s61_dfp36 n p0 p1 = some r) : CWP Try.prog Try.f61.ntmps code61 (AtE (E61_dfp36 r)) ⟨[(0, AV.sl 1 cB false p0), (1, .fpt 1 ((fun (x : List (List Bool)) _ => AV.sl 1 (fun (x : List Bool) _ => AV.sl 1 cB false x) [] x) p1))], [], 0⟩ := by
  unfold s61_dfp36 at h
  refine CWP.seq ?_
  refine CWP.regionT ⟨[(0, AV.sl 1 cB false p0), (1, .fpt 1 ((fun (x : List (List Bool)) _ => AV.sl 1 (fun (x : List Bool) _ => AV.sl 1 cB false x) [] x) p1))], [], 8⟩ ?_ ?_
  · exact Le.keep (live := [0, 1]) (names := []) (nx := 8) rfl
  refine CWP.seq ?_
  refine CWP.regionT ⟨[(3, .tst ((p0.length : Int) != (p1.length : Int)))], [], 56⟩ ?_ ?_
  · exact Le.keep (live := [3]) (names := []) (nx := 56) rfl
  refine CWP.ret ?_
  have e := Option.some.inj h
  subst e
  exact rfl
theorem c61_dfp36 {n : Nat} {p0 : List Bool} {p1 : List (List Bool)} {r : Bool} (h : s61_dfp36 n p0 p1 = some r) : FC Try.prog 61 [AV.sl 1 cB false p0, .fpt 1 ((fun (x : List (List Bool)) _ => AV.sl 1 (fun (x : List Bool) _ => AV.sl 1 cB false x) [] x) p1)] (.tst r) [] false := FC.pureE (fn := Try.f61) (cc := code61) (res := .one 3) (by kernel_rfl) (by kernel_rfl) tr61 (by kernel_rfl) (Nat.le_of_ble_eq_true rfl) rfl (wf61_dfp36 h)
def code67_1 : CCode :=
 (.block 0
  (.loop
  (.seq
   (.region [⟨(some 9), (.bin 0 .lss (.tmp 8) (.tmp 7)), none⟩] none)
   (.seq
   (.cond (.tmp 9)
    .skip
    (.exit 0))
   (.seq
    (.block 1
    (.seq
     (.region [⟨(some 10), (.mv (.tmp 8)), none⟩,
      ⟨(some 5), (.mv (.tmp 10)), none⟩] none)
     (.seq
     (.region [⟨(some 11), (.mv (.tmp 1)), none⟩,
      ⟨(some 12), (.mv (.tmp 0)), none⟩,
      ⟨(some 13), (.mv (.tmp 5)), none⟩,
      ⟨(some 14), (.idx 1 (.tmp 12) (.tmp 13)), none⟩,
      ⟨(some 15), (.load false 1 (.tmp 14)), none⟩,
      ⟨(some 16), (.call (.tmp 11) [(.tmp 15)]), none⟩] none)
     (.cond (.tmp 16)
      (.seq
      (.region [⟨(some 17), (.mv (.tmp 5)), none⟩,
       ⟨(some 4), (.mv (.tmp 17)), none⟩] none)
      .ret)
      .skip))))
    (.region [⟨(some 18), (.bin 0 .add (.tmp 8) (.const (.int .i64 1))), none⟩,
     ⟨(some 8), (.mv (.tmp 18)), none⟩] none))))))
def code67 : CCode :=
 (.seq
  (.region [⟨(some 4), (.mv (.const (.int .i64 0))), none⟩] none)
  (.seq
  (.seq
   (.region [⟨(some 6), (.mv (.tmp 0)), none⟩,
    ⟨(some 7), (.len 1 (.tmp 6)), none⟩,
    ⟨(some 8), (.mv (.const (.int .i64 0))), none⟩] none)
   code67_1)
  (.seq
   (.region [⟨(some 4), (.mv (.const (.int .i64 (-1)))), none⟩] none)
   .ret)))
theorem tr67 : (Try.f67.body).bind (trCode Try.prog Try.f67.ntmps) = some code67 := by kernel_rfl
inductive O67_dfn61fp36__1 where
  | ok
  | ret (r : Int)
def l67_dfn61fp36__1 (n : Nat) : Nat → (List (List Bool)) → (List (List Bool)) → Int → Int → Option O67_dfn61fp36__1
  | 0, _, _, _, _ => none
  | m + 1, v0, v1_0, v7, v8 =>
    if decide (v8 < v7) then
      if 0 ≤ v8 ∧ v8 < (v0.length : Int) then
        (s61_dfp36 n (v0.getD v8.toNat []) v1_0).bind fun r101 =>
        if r101 then
          some (.ret v8)
        else
          l67_dfn61fp36__1 n m v0 v1_0 v7 (w64 (v8 + 1))
      else none
    else
      some (.ok)
def s67_dfn61fp36 (n : Nat) (p0 : List (List Bool)) (p1 : List (List Bool)) : Option Int :=
  (match l67_dfn61fp36__1 n n p0 p1 (p0.length : Int) 0 with
  | none => none
  | some (.ok) =>
    some (-1)
  | some (.ret r) =>
    some r)
def E67_dfn61fp36 (r : Int) (s : AS) : Prop := resOf s (.one 4) = some (I r)
theorem t67_dfn61fp36__1 {n fuel : Nat} {v0 : List (List Bool)} {v1_0 : List (List Bool)} {v7 : Int} {v8 : Int} {out : O67_dfn61fp36__1} (h : l67_dfn61fp36__1 n fuel v0 v1_0 v7 v8 = some out) {Q : Ex → AS → Prop} (hok : out = .ok → Q .normal ⟨[], [], 0⟩) (hret : ∀ r, out = .ret r → ∀ s, E67_dfn61fp36 r s → Q .ret s) : CWP Try.prog Try.f67.ntmps code67_1 Q ⟨[(0, AV.sl 1 (fun (x : List Bool) _ => AV.sl 1 cB false x) [] v0), (1, .fn (.func 61) [] [.fpt 1 ((fun (x : List (List Bool)) _ => AV.sl 1 (fun (x : List Bool) _ => AV.sl 1 cB false x) [] x) v1_0)]), (7, I v7), (8, I v8)], [], 0⟩ := by
  refine CWP.block ?_
  refine CWP.loop (fun k s => ∃ v0 : List (List Bool), ∃ v1_0 : List (List Bool), ∃ v7 : Int, ∃ v8 : Int, s = ⟨[(0, AV.sl 1 (fun (x : List Bool) _ => AV.sl 1 cB false x) [] v0), (1, .fn (.func 61) [] [.fpt 1 ((fun (x : List (List Bool)) _ => AV.sl 1 (fun (x : List Bool) _ => AV.sl 1 cB false x) [] x) v1_0)]), (7, I v7), (8, I v8)], [], 0⟩ ∧ l67_dfn61fp36__1 n k v0 v1_0 v7 v8 = some out) fuel ⟨v0, v1_0, v7, v8, rfl, h⟩ ?_
  clear h
  rintro k s ⟨v0, v1_0, v7, v8, rfl, h⟩
  cases k with
  | zero => cases h
  | succ m =>
    rw [l67_dfn61fp36__1] at h
    refine CWP.seq ?_
    refine CWP.regionT ⟨[(0, AV.sl 1 (fun (x : List Bool) _ => AV.sl 1 cB false x) [] v0), (1, .fn (.func 61) [] [.fpt 1 ((fun (x : List (List Bool)) _ => AV.sl 1 (fun (x : List Bool) _ => AV.sl 1 cB false x) [] x) v1_0)]), (7, I v7), (8, I v8), (9, .tst (decide (v8 < v7)))], [], 8⟩ ?_ ?_
    · exact Le.keep (live := [0, 1, 7, 8, 9]) (names := []) (nx := 8) rfl
    refine CWP.seq ?_
    refine CWP.cond (And.intro (fun hc => ?_) (fun hc => ?_))
    · have h := ite_t h hc
      refine CWP.skip ?_
      refine CWP.seq ?_
      refine CWP.block ?_
      refine CWP.seq ?_
      refine CWP.regionT ⟨[(0, AV.sl 1 (fun (x : List Bool) _ => AV.sl 1 cB false x) [] v0), (1, .fn (.func 61) [] [.fpt 1 ((fun (x : List (List Bool)) _ => AV.sl 1 (fun (x : List Bool) _ => AV.sl 1 cB false x) [] x) v1_0)]), (5, I v8), (7, I v7), (8, I v8)], [], 24⟩ ?_ ?_
      · exact Le.keep (live := [0, 1, 5, 7, 8]) (names := []) (nx := 24) rfl
      refine CWP.seq ?_
      obtain ⟨hs100, h⟩ := ite_some h
      obtain ⟨r101, hr101, h⟩ := Option.bind_eq_some_iff.1 h
      refine CWP.regionT ⟨[(0, AV.sl 1 (fun (x : List Bool) _ => AV.sl 1 cB false x) [] v0), (1, .fn (.func 61) [] [.fpt 1 ((fun (x : List (List Bool)) _ => AV.sl 1 (fun (x : List Bool) _ => AV.sl 1 cB false x) [] x) v1_0)]), (5, I v8), (7, I v7), (8, I v8), (16, .tst r101)], [], 72⟩ ?_ ?_
      · refine And.intro hs100 ?_
        refine FC.semT rfl rfl rfl trivial (c61_dfp36 hr101) (Or.inl rfl) ?_
        refine ex_refl ?_
        exact Le.keep (live := [0, 1, 5, 7, 8, 16]) (names := []) (nx := 72) rfl
      refine CWP.cond (And.intro (fun hc => ?_) (fun hc => ?_))
      · have h := ite_t h hc
        refine CWP.seq ?_
        refine CWP.regionT ⟨[(4, I v8)], [], 88⟩ ?_ ?_
        · exact Le.keep (live := [4]) (names := []) (nx := 88) rfl
        refine CWP.ret ?_
        exact hret _ (Option.some.inj h).symm _ rfl
      · have h := ite_f h hc
        refine CWP.skip ?_
        refine CWP.regionT ⟨[(0, AV.sl 1 (fun (x : List Bool) _ => AV.sl 1 cB false x) [] v0), (1, .fn (.func 61) [] [.fpt 1 ((fun (x : List (List Bool)) _ => AV.sl 1 (fun (x : List Bool) _ => AV.sl 1 cB false x) [] x) v1_0)]), (7, I v7), (8, I (w64 (v8 + 1)))], [], 0⟩ ?_ ?_
        · exact Le.trans (Le.keep (live := [0, 1, 7, 8]) (names := []) (nx := 88) rfl) (Le.keep (live := [0, 1, 7, 8]) (names := []) (nx := 0) rfl)
        exact ⟨m, Nat.lt_succ_self m, _, _, _, _, rfl, h⟩
    · have h := ite_f h hc
      refine CWP.exitL (Le.keep (live := []) (names := []) (nx := 0) rfl) (s' := ⟨[], [], 0⟩) ?_
      exact hok (Option.some.inj h).symm
theorem wf67_dfn61fp36 {n : Nat} {p0 : List (List Bool)} {p1 : List (List Bool)} {r : Int} (h : s67_dfn61fp36 n p0 p1 = some r) : CWP Try.prog Try.f67.ntmps code67 (AtE (E67_dfn61fp36 r)) ⟨[(0, AV.sl 1 (fun (x : List Bool) _ => AV.sl 1 cB false x) [] p0), (1, .fn (.func 61) [] [.fpt 1 ((fun (x : List (List Bool)) _ => AV.sl 1 (fun (x : List Bool) _ => AV.sl 1 cB false x) [] x) p1)])], [], 0⟩ := by
  unfold s67_dfn61fp36 at h
  refine CWP.seq ?_
  refine CWP.regionT ⟨[(0, AV.sl 1 (fun (x : List Bool) _ => AV.sl 1 cB false x) [] p0), (1, .fn (.func 61) [] [.fpt 1 ((fun (x : List (List Bool)) _ => AV.sl 1 (fun (x : List Bool) _ => AV.sl 1 cB false x) [] x) p1)])], [], 8⟩ ?_ ?_
  · exact Le.keep (live := [0, 1]) (names := []) (nx := 8) rfl
  refine CWP.seq ?_
  refine CWP.seq ?_
  refine CWP.regionT ⟨[(0, AV.sl 1 (fun (x : List Bool) _ => AV.sl 1 cB false x) [] p0), (1, .fn (.func 61) [] [.fpt 1 ((fun (x : List (List Bool)) _ => AV.sl 1 (fun (x : List Bool) _ => AV.sl 1 cB false x) [] x) p1)]), (7, I (p0.length : Int)), (8, I 0)], [], 32⟩ ?_ ?_
  · exact Le.keep (live := [0, 1, 7, 8]) (names := []) (nx := 32) rfl
  generalize hn102 : l67_dfn61fp36__1 n n p0 p1 (p0.length : Int) 0 = o102 at h
  rcases o102 with _ | o102
  · cases h
  refine CWP.weaken (s' := ⟨[(0, AV.sl 1 (fun (x : List Bool) _ => AV.sl 1 cB false x) [] p0), (1, .fn (.func 61) [] [.fpt 1 ((fun (x : List (List Bool)) _ => AV.sl 1 (fun (x : List Bool) _ => AV.sl 1 cB false x) [] x) p1)]), (7, I (p0.length : Int)), (8, I 0)], [], 0⟩) (Le.keep (live := [0, 1, 7, 8]) (names := []) (nx := 0) rfl) ?_
  refine t67_dfn61fp36__1 hn102 ?_ ?_
  · intro e
    subst e
    dsimp only at h
    refine CWP.seq ?_
    refine CWP.regionT ⟨[(4, I (-1))], [], 8⟩ ?_ ?_
    · exact Le.keep (live := [4]) (names := []) (nx := 8) rfl
    refine CWP.ret ?_
    have e := Option.some.inj h
    subst e
    exact rfl
  · intro r e s hs
    subst e
    dsimp only at h
    have e := Option.some.inj h
    subst e
    exact hs
theorem c67_dfn61fp36 {n : Nat} {p0 : List (List Bool)} {p1 : List (List Bool)} {r : Int} (h : s67_dfn61fp36 n p0 p1 = some r) : FC Try.prog 67 [AV.sl 1 (fun (x : List Bool) _ => AV.sl 1 cB false x) [] p0, .fn (.func 61) [] [.fpt 1 ((fun (x : List (List Bool)) _ => AV.sl 1 (fun (x : List Bool) _ => AV.sl 1 cB false x) [] x) p1)]] (I r) [] false := FC.pureE (fn := Try.f67) (cc := code67) (res := .one 4) (by kernel_rfl) (by kernel_rfl) tr67 (by kernel_rfl) (Nat.le_of_ble_eq_true rfl) rfl (wf67_dfn61fp36 h)
def code60 : CCode :=
 (.seq
  (.region [⟨(some 4), (.mv (.const (.bool false))), none⟩] none)
  (.seq
  (.region [⟨(some 5), (.mv (.tmp 0)), none⟩,
   ⟨(some 6), (.mv (.tmp 1)), none⟩,
   ⟨(some 7), (.call (.func 67) [(.tmp 5), (.tmp 6)]), none⟩,
   ⟨(some 8), (.bin 0 .geq (.tmp 7) (.const (.int .i64 0))), none⟩,
   ⟨(some 4), (.mv (.tmp 8)), none⟩] none)
  .ret))
theorem tr60 : (Try.f60.body).bind (trCode Try.prog Try.f60.ntmps) = some code60 := by kernel_rfl
def s60_dfn61fp36 (n : Nat) (p0 : List (List Bool)) (p1 : List (List Bool)) : Option Bool :=
  (s67_dfn61fp36 n p0 p1).bind fun r97 =>
  some (decide (r97 ≥ 0))
def E60_dfn61fp36 (r : Bool) (s : AS) : Prop := resOf s (.one 4) = some (.tst r)
theorem wf60_dfn61fp36 {n : Nat} {p0 : List (List Bool)} {p1 : List (List Bool)} {r : Bool} (h : s60_dfn61fp36 n p0 p1 = some r) : CWP Try.prog Try.f60.ntmps code60 (AtE (E60_dfn61fp36 r)) ⟨[(0, AV.sl 1 (fun (x : List Bool) _ => AV.sl 1 cB false x) [] p0), (1, .fn (.func 61) [] [.fpt 1 ((fun (x : List (List Bool)) _ => AV.sl 1 (fun (x : List Bool) _ => AV.sl 1 cB false x) [] x) p1)])], [], 0⟩ := by
  unfold s60_dfn61fp36 at h
  refine CWP.seq ?_
  refine CWP.regionT ⟨[(0, AV.sl 1 (fun (x : List Bool) _ => AV.sl 1 cB false x) [] p0), (1, .fn (.func 61) [] [.fpt 1 ((fun (x : List (List Bool)) _ => AV.sl 1 (fun (x : List Bool) _ => AV.sl 1 cB false x) [] x) p1)])], [], 8⟩ ?_ ?_
  · exact Le.keep (live := [0, 1]) (names := []) (nx := 8) rfl
  refine CWP.seq ?_
  obtain ⟨r97, hr97, h⟩ := Option.bind_eq_some_iff.1 h
  refine CWP.regionT ⟨[(4, .tst (decide (r97 ≥ 0)))], [], 48⟩ ?_ ?_
  · refine FC.semT rfl rfl rfl trivial (FC.args (FrLes.cons (FrLe.refl _) (FrLes.cons (FrLe.fn FrLes.nil (FrLes.cons (FrLe.refl _) (FrLes.nil))) (FrLes.nil))) (c67_dfn61fp36 hr97)) (Or.inl rfl) ?_
    refine ex_refl ?_
    exact Le.keep (live := [4]) (names := []) (nx := 48) rfl
  refine CWP.ret ?_
  have e := Option.some.inj h
  subst e
  exact rfl
theorem c60_dfn61fp36 {n : Nat} {p0 : List (List Bool)} {p1 : List (List Bool)} {r : Bool} (h : s60_dfn61fp36 n p0 p1 = some r) : FC Try.prog 60 [AV.sl 1 (fun (x : List Bool) _ => AV.sl 1 cB false x) [] p0, .fn (.func 61) [] [.fpt 1 ((fun (x : List (List Bool)) _ => AV.sl 1 (fun (x : List Bool) _ => AV.sl 1 cB false x) [] x) p1)]] (.tst r) [] false := FC.pureE (fn := Try.f60) (cc := code60) (res := .one 4) (by kernel_rfl) (by kernel_rfl) tr60 (by kernel_rfl) (Nat.le_of_ble_eq_true rfl) rfl (wf60_dfn61fp36 h)
def code40 : CCode :=
 (.seq
  (.region [⟨(some 1), (.box 1 (.tmp 0)), none⟩,
   ⟨(some 2), (.mv (.const (.bool false))), none⟩] none)
  (.seq
  (.region [⟨(some 3), (.load false 1 (.tmp 1)), none⟩,
   ⟨(some 4), (.len 1 (.tmp 3)), none⟩,
   ⟨(some 5), (.bin 0 .leq (.tmp 4) (.const (.int .i64 40))), none⟩,
   ⟨(some 6), (.mv (.tmp 5)), none⟩,
   ⟨(some 7), (.load false 1 (.tmp 1)), (some (6, true))⟩,
   ⟨(some 8), (.mkfn (.func 61) [] [(.tmp 1)]), (some (6, true))⟩,
   ⟨(some 9), (.call (.func 60) [(.tmp 7), (.tmp 8)]), (some (6, true))⟩,
   ⟨(some 10), (.un .not (.tmp 9)), (some (6, true))⟩,
   ⟨(some 11), (.pick (.tmp 6) (.tmp 10) (.const (.bool false))), none⟩,
   ⟨(some 2), (.mv (.tmp 11)), none⟩] none)
  .ret))
theorem tr40 : (Try.f40.body).bind (trCode Try.prog Try.f40.ntmps) = some code40 := by kernel_rfl
def s40 (n : Nat) (p0 : List (List Bool)) : Option Bool :=
  (if (decide ((p0.length : Int) ≤ 40)) then s60_dfn61fp36 n p0 p0 else some false).bind fun r96 =>
  some ((decide ((p0.length : Int) ≤ 40)) && !r96)
def E40 (r : Bool) (s : AS) : Prop := resOf s (.one 2) = some (.tst r)
theorem wf40 {n : Nat} {p0 : List (List Bool)} {r : Bool} (h : s40 n p0 = some r) : CWP Try.prog Try.f40.ntmps code40 (AtE (E40 r)) ⟨[(0, AV.sl 1 (fun (x : List Bool) _ => AV.sl 1 cB false x) [] p0)], [], 0⟩ := by
  unfold s40 at h
  refine CWP.seq ?_
  refine CWP.regionT ⟨[(1, .ptr 0 0)], [(0, .box [AV.sl 1 (fun (x : List Bool) _ => AV.sl 1 cB false x) [] p0])], 16⟩ ?_ ?_
  · exact Le.keep (live := [1]) (names := [0]) (nx := 16) rfl
  refine CWP.seq ?_
  obtain ⟨r96, hr96, h⟩ := Option.bind_eq_some_iff.1 h
  refine CWP.regionT ⟨[(2, .tst ((decide ((p0.length : Int) ≤ 40)) && !r96))], [], 96⟩ ?_ ?_
  · refine And.intro (fun hg97 => ?_) (fun hg97 => ?_)
    · have hg97 : (decide ((p0.length : Int) ≤ 40)) = true := hg97
      refine FC.semT rfl rfl rfl trivial (FC.args (FrLes.cons (FrLe.refl _) (FrLes.cons (FrLe.fn FrLes.nil (FrLes.cons (FrLe.fpt (fun i hi => match i, hi with | 0, _ => FrLe.refl _ | _ + 1, h => absurd h (by simp))) (FrLes.nil))) (FrLes.nil))) (c60_dfn61fp36 (ite_t hr96 (by simp only [hg97, sB, reduceIte])))) (Or.inr (Or.inl rfl)) ?_
      refine ex_refl ?_
      exact Le.trans (Le.rep (t := 2) rfl (RepLe.fr rfl (FrLe.tst2 (by simp only [hg97, sB, reduceIte])))) (Le.keep (live := [2]) (names := []) (nx := 96) rfl)
    · have hg97 : (decide ((p0.length : Int) ≤ 40)) = false := hg97
      exact Le.trans (Le.rep (t := 2) rfl (RepLe.fr rfl (FrLe.tst (by simp only [hg97, sB, reduceIte])))) (Le.keep (live := [2]) (names := []) (nx := 96) rfl)
  refine CWP.ret ?_
  have e := Option.some.inj h
  subst e
  exact rfl
theorem c40 {n : Nat} {p0 : List (List Bool)} {r : Bool} (h : s40 n p0 = some r) : FC Try.prog 40 [AV.sl 1 (fun (x : List Bool) _ => AV.sl 1 cB false x) [] p0] (.tst r) [] false := FC.pureE (fn := Try.f40) (cc := code40) (res := .one 2) (by kernel_rfl) (by kernel_rfl) tr40 (by kernel_rfl) (Nat.le_of_ble_eq_true rfl) rfl (wf40 h)
def code41 : CCode :=
 (.seq
  (.region [⟨(some 2), (.mv (.const (.slice none 0 0))), none⟩] none)
  (.seq
  (.seq
   (.region [⟨(some 3), (.mv (.tmp 0)), none⟩,
    ⟨(some 4), (.cmp 0 .eql (.tmp 3) (.const (.slice none 0 0))), none⟩] none)
   (.cond (.tmp 4)
   (.seq
    (.region [⟨(some 2), (.mv (.const (.slice none 0 0))), none⟩] none)
    .ret)
   .skip))
  (.seq
   (.region [⟨(some 5), (.lit 0 1 0 []), none⟩,
    ⟨(some 6), (.mv (.tmp 0)), none⟩,
    ⟨(some 7), (.app 1 1 (.tmp 5) (.tmp 6)), none⟩,
    ⟨(some 2), (.mv (.tmp 7)), none⟩] none)
   .ret)))
theorem tr41 : (Try.f41.body).bind (trCode Try.prog Try.f41.ntmps) = some code41 := by kernel_rfl
def s41 (n : Nat) (p0 : List Bool) : Option (List Bool) := if (0 + p0.length) * 1 ≤ 140737488355328 then some p0 else none
def E41 (r : List Bool) (s : AS) : Prop := resOf s (.one 2) = some (.own 0 1 0 r.length) ∧ EndSt [(0, 0)] s.st [(0, .li 1 cB false r)] ∧ PinEnd (fun _ => none) s.st []
theorem wf41 {n : Nat} {p0 : List Bool} {r : List Bool} (h : s41 n p0 = some r) : CWP Try.prog Try.f41.ntmps code41 (AtE (E41 r)) ⟨[(0, AV.sl 1 cB false p0)], [], 0⟩ := by
  unfold s41 at h
  obtain ⟨hs, h⟩ := ite_some h
  have e := Option.some.inj h
  subst e
  refine CWP.seq ?_
  refine CWP.regionT ⟨[(0, AV.sl 1 cB false p0)], [], 8⟩ ?_ ?_
  · exact Le.keep (live := [0]) (names := []) (nx := 8) rfl
  refine CWP.seq ?_
  refine CWP.seq ?_
  refine CWP.regionL ?_
  refine SemOp.cmpNil (c := AV.sl 1 cB false p0) (Or.inl rfl) rfl rfl rfl (fun b hb => ?_)
  refine Exists.intro ⟨[(0, AV.sl 1 cB false p0), (4, .tst b)], [], 24⟩ (And.intro (Le.keep (live := [0, 4]) (names := []) (nx := 24) rfl) ?_)
  refine CWP.cond (And.intro (fun hc => ?_) (fun hc => ?_))
  · refine CWP.seq ?_
    refine CWP.regionT ⟨[(2, .own 0 1 0 p0.length)], [(0, .li 1 cB false p0)], 1⟩ ?_ ?_
    · exact Le.trans (Le.nilOwn (t := 2) (sz := 1) (f := fun j => cB (p0.getD j false)) rfl (by decide)) (Le.trans (Le.ownLen (t := 2) rfl (hb hc).symm) (Le.trans (Le.list (x := 32) rfl (cell := cB) (d := false) (l := p0) (hb hc) (fun _ _ _ _ => rfl)) (Le.ren [(0, 32)] rfl ⟨rfl, trivial⟩ ⟨⟨_, rfl, rfl⟩, trivial⟩)))
    refine CWP.ret ?_
    exact ⟨rfl, ⟨⟨_, rfl, rfl⟩, trivial⟩, trivial⟩
  · refine CWP.skip ?_
    refine CWP.seq ?_
    refine CWP.regionT ⟨[(2, .own 0 1 0 p0.length)], [(0, .li 1 cB false p0)], 1⟩ ?_ ?_
    · refine SemOp.ofT ?_
      refine ex_refl ?_
      refine SemOp.ofT ?_
      refine And.intro ⟨trivial, hs, Nat.le_refl _⟩ ?_
      refine ex_refl ?_
      exact Le.trans (Le.ownLen (t := 2) rfl (Nat.zero_add _)) (Le.trans (Le.list (x := 24) rfl (cell := cB) (d := false) (l := p0) (Nat.zero_add _).symm (fun j c _ _ => by simp)) (Le.ren [(0, 24)] rfl ⟨rfl, trivial⟩ ⟨⟨_, rfl, rfl⟩, trivial⟩))
    refine CWP.ret ?_
    exact ⟨rfl, ⟨⟨_, rfl, rfl⟩, trivial⟩, trivial⟩
theorem c41 {n : Nat} {p0 : List Bool} {r : List Bool} (h : s41 n p0 = some r) : FC Try.prog 41 [AV.sl 1 cB false p0] (.own 0 1 0 r.length) [(0, .li 1 cB false r)] true := FC.new rfl rfl (RC.ofE (st := []) (r := .own 0 1 0 r.length) (st' := [(0, .li 1 cB false r)]) (pins := []) 0 [(0, 0)] (fn := Try.f41) (cc := code41) (res := .one 2) (by kernel_rfl) (by kernel_rfl) tr41 (by kernel_rfl) (Nat.le_of_ble_eq_true rfl) rfl rfl (fun _ => wf41 h)) rfl ⟨(fun _ _ _ _ => rfl), trivial⟩
def code26_1 : CCode :=
 (.block 0
  (.loop
  (.seq
   (.region [⟨(some 15), (.bin 0 .lss (.tmp 14) (.tmp 13)), none⟩] none)
   (.seq
   (.cond (.tmp 15)
    .skip
    (.exit 0))
   (.seq
    (.block 1
    (.seq
     (.region [⟨(some 16), (.idx 1 (.tmp 12) (.tmp 14)), none⟩,
      ⟨(some 17), (.load false 1 (.tmp 16)), none⟩,
      ⟨(some 5), (.mv (.tmp 17)), none⟩] none)
     (.region [⟨(some 18), (.mv (.tmp 3)), none⟩,
      ⟨(some 19), (.mv (.tmp 5)), none⟩,
      ⟨(some 20), (.call (.func 41) [(.tmp 19)]), none⟩,
      ⟨(some 21), (.lit 0 1 1 [(0, (.tmp 20))]), none⟩,
      ⟨(some 22), (.app 1 24 (.tmp 18) (.tmp 21)), none⟩,
      ⟨(some 3), (.mv (.tmp 22)), none⟩] none)))
    (.region [⟨(some 23), (.bin 0 .add (.tmp 14) (.const (.int .i64 1))), none⟩,
     ⟨(some 14), (.mv (.tmp 23)), none⟩] none))))))
def code26_2 : CCode :=
 (.block 6
  (.loop
  (.seq
   (.region [⟨(some 37), (.bin 0 .lss (.tmp 36) (.tmp 35)), none⟩] none)
   (.seq
   (.cond (.tmp 37)
    .skip
    (.exit 6))
   (.seq
    (.block 7
    (.seq
     (.region [⟨(some 38), (.mv (.tmp 36)), none⟩,
      ⟨(some 8), (.mv (.tmp 38)), none⟩] none)
     (.region [⟨(some 39), (.mv (.tmp 3)), none⟩,
      ⟨(some 40), (.mv (.tmp 7)), none⟩,
      ⟨(some 41), (.idx 1 (.tmp 39) (.tmp 40)), none⟩,
      ⟨(some 42), (.load false 1 (.tmp 41)), none⟩,
      ⟨(some 43), (.mv (.tmp 8)), none⟩,
      ⟨(some 44), (.mv (.tmp 3)), none⟩,
      ⟨(some 45), (.mv (.tmp 7)), none⟩,
      ⟨(some 46), (.idx 1 (.tmp 44) (.tmp 45)), none⟩,
      ⟨(some 47), (.load false 1 (.tmp 46)), none⟩,
      ⟨(some 48), (.mv (.tmp 8)), none⟩,
      ⟨(some 49), (.idx 1 (.tmp 47) (.tmp 48)), none⟩,
      ⟨(some 50), (.load false 1 (.tmp 49)), none⟩,
      ⟨(some 51), (.mv (.tmp 50)), none⟩,
      ⟨(some 52), (.mv (.tmp 3)), (some (51, false))⟩,
      ⟨(some 53), (.mv (.tmp 7)), (some (51, false))⟩,
      ⟨(some 54), (.idx 1 (.tmp 52) (.tmp 53)), (some (51, false))⟩,
      ⟨(some 55), (.load false 1 (.tmp 54)), (some (51, false))⟩,
      ⟨(some 56), (.mv (.tmp 6)), (some (51, false))⟩,
      ⟨(some 57), (.idx 1 (.tmp 55) (.tmp 56)), (some (51, false))⟩,
      ⟨(some 58), (.load false 1 (.tmp 57)), (some (51, false))⟩,
      ⟨(some 59), (.mv (.tmp 58)), (some (51, false))⟩,
      ⟨(some 60), (.mv (.tmp 3)), (some (59, true))⟩,
      ⟨(some 61), (.mv (.tmp 6)), (some (59, true))⟩,
      ⟨(some 62), (.idx 1 (.tmp 60) (.tmp 61)), (some (59, true))⟩,
      ⟨(some 63), (.load false 1 (.tmp 62)), (some (59, true))⟩,
      ⟨(some 64), (.mv (.tmp 8)), (some (59, true))⟩,
      ⟨(some 65), (.idx 1 (.tmp 63) (.tmp 64)), (some (59, true))⟩,
      ⟨(some 66), (.load false 1 (.tmp 65)), (some (59, true))⟩,
      ⟨(some 67), (.pick (.tmp 59) (.tmp 66) (.const (.bool false))), (some (51, false))⟩,
      ⟨(some 68), (.pick (.tmp 51) (.const (.bool true)) (.tmp 67)), none⟩,
      ⟨(some 69), (.idx 1 (.tmp 42) (.tmp 43)), none⟩,
      ⟨none, (.store 1 (.tmp 69) (.tmp 68)), none⟩] (some (.take 0 (.take 1 (.take 2 (.take 3 (.take 4 (.take 5 (.take 6 (.take 7 (.take 8 (.take 9 (.take 10 (.alt 11 (.take 12 (.take 13 (.take 14 (.take 15 (.take 17 (.alt 16 (.take 18 (.alt 19 (.take 20 (.take 21 (.take 22 (.take 23 (.take 25 (.alt 24 (.take 26 (.alt 27 (.take 28 (.take 29 (.take 30 (.alt 31 .done .alt0)))) .alt0)) .alt0)))))) .alt0)) .alt0)))))) .alt0))))))))))))))))
    (.region [⟨(some 70), (.bin 0 .add (.tmp 36) (.const (.int .i64 1))), none⟩,
     ⟨(some 36), (.mv (.tmp 70)), none⟩] none))))))
def code26_3 : CCode :=
 (.block 4
  (.loop
  (.seq
   (.region [⟨(some 32), (.bin 0 .lss (.tmp 31) (.tmp 30)), none⟩] none)
   (.seq
   (.cond (.tmp 32)
    .skip
    (.exit 4))
   (.seq
    (.block 5
    (.seq
     (.region [⟨(some 33), (.mv (.tmp 31)), none⟩,
      ⟨(some 7), (.mv (.tmp 33)), none⟩] none)
     (.seq
     (.region [⟨(some 34), (.mv (.tmp 3)), none⟩,
      ⟨(some 35), (.len 1 (.tmp 34)), none⟩,
      ⟨(some 36), (.mv (.const (.int .i64 0))), none⟩] none)
     code26_2)))
    (.region [⟨(some 71), (.bin 0 .add (.tmp 31) (.const (.int .i64 1))), none⟩,
     ⟨(some 31), (.mv (.tmp 71)), none⟩] none))))))
def code26_4 : CCode :=
 (.block 2
  (.loop
  (.seq
   (.region [⟨(some 27), (.bin 0 .lss (.tmp 26) (.tmp 25)), none⟩] none)
   (.seq
   (.cond (.tmp 27)
    .skip
    (.exit 2))
   (.seq
    (.block 3
    (.seq
     (.region [⟨(some 28), (.mv (.tmp 26)), none⟩,
      ⟨(some 6), (.mv (.tmp 28)), none⟩] none)
     (.seq
     (.region [⟨(some 29), (.mv (.tmp 3)), none⟩,
      ⟨(some 30), (.len 1 (.tmp 29)), none⟩,
      ⟨(some 31), (.mv (.const (.int .i64 0))), none⟩] none)
     code26_3)))
    (.region [⟨(some 72), (.bin 0 .add (.tmp 26) (.const (.int .i64 1))), none⟩,
     ⟨(some 26), (.mv (.tmp 72)), none⟩] none))))))
def code26 : CCode :=
 (.seq
  (.region [⟨(some 2), (.mv (.const (.slice none 0 0))), none⟩] none)
  (.seq
  (.seq
   (.region [⟨(some 9), (.mv (.tmp 0)), none⟩,
    ⟨(some 10), (.call (.func 40) [(.tmp 9)]), none⟩,
    ⟨(some 11), (.un .not (.tmp 10)), none⟩] none)
   (.cond (.tmp 11)
   (.seq
    (.region [⟨(some 2), (.mv (.const (.slice none 0 0))), none⟩] none)
    .ret)
   .skip))
  (.seq
   (.region [⟨(some 3), (.mv (.const (.slice none 0 0))), none⟩] none)
   (.seq
   (.seq
    (.region [⟨(some 12), (.mv (.tmp 0)), none⟩,
     ⟨(some 13), (.len 1 (.tmp 12)), none⟩,
     ⟨(some 14), (.mv (.const (.int .i64 0))), none⟩] none)
    code26_1)
   (.seq
    (.seq
    (.region [⟨(some 24), (.mv (.tmp 3)), none⟩,
     ⟨(some 25), (.len 1 (.tmp 24)), none⟩,
     ⟨(some 26), (.mv (.const (.int .i64 0))), none⟩] none)
    code26_4)
    (.seq
    (.region [⟨(some 73), (.mv (.tmp 3)), none⟩,
     ⟨(some 2), (.mv (.tmp 73)), none⟩] none)
    .ret))))))
theorem tr26 : (Try.f26.body).bind (trCode Try.prog Try.f26.ntmps) = some code26 := by kernel_rfl
inductive O26_1 where
  | ok (b0 : List (List Bool))
def l26_1 (n : Nat) : Nat → (List (List Bool)) → (List (List Bool)) → Int → Int → Option O26_1
  | 0, _, _, _, _ => none
  | m + 1, b0, v12, v13, v14 =>
    if decide (v14 < v13) then
      if 0 ≤ v14 ∧ v14 < (v12.length : Int) then
        (s41 n (v12.getD v14.toNat [])).bind fun r103 =>
        if (b0.length + 1) * 24 ≤ 140737488355328 then
          l26_1 n m (b0 ++ [r103]) v12 v13 (w64 (v14 + 1))
        else none
      else none
    else
      some (.ok b0)
inductive O26_2 where
  | ok (b0 : List (List Bool)) (v25 : Int) (v26 : Int) (v30 : Int) (v31 : Int) (v6 : Int)
def l26_2 (n : Nat) : Nat → (List (List Bool)) → Int → Int → Int → Int → Int → Int → Int → Int → Option O26_2
  | 0, _, _, _, _, _, _, _, _, _ => none
  | m + 1, b0, v25, v26, v30, v31, v35, v36, v6, v7 =>
    if decide (v36 < v35) then
      if 0 ≤ v7 ∧ v7 < (b0.length : Int) then
        if 0 ≤ v7 ∧ v7 < (b0.length : Int) then
          if 0 ≤ v36 ∧ v36 < (((b0.getD v7.toNat []).length) : Int) then
            if ((b0.getD v7.toNat []).getD v36.toNat false) = false → 0 ≤ v7 ∧ v7 < (b0.length : Int) then
              if ((b0.getD v7.toNat []).getD v36.toNat false) = false → 0 ≤ v6 ∧ v6 < (((b0.getD v7.toNat []).length) : Int) then
                if ((b0.getD v7.toNat []).getD v36.toNat false) = false → ((b0.getD v7.toNat []).getD v6.toNat false) = true → 0 ≤ v6 ∧ v6 < (b0.length : Int) then
                  if ((b0.getD v7.toNat []).getD v36.toNat false) = false → ((b0.getD v7.toNat []).getD v6.toNat false) = true → 0 ≤ v36 ∧ v36 < (((b0.getD v6.toNat []).length) : Int) then
                    if 0 ≤ v36 ∧ v36 < (((b0.getD v7.toNat []).length) : Int) then
                      l26_2 n m (b0.set v7.toNat ((b0.getD v7.toNat []).set v36.toNat (((b0.getD v7.toNat []).getD v36.toNat false) || (((b0.getD v7.toNat []).getD v6.toNat false) && ((b0.getD v6.toNat []).getD v36.toNat false))))) v25 v26 v30 v31 v35 (w64 (v36 + 1)) v6 v7
                    else none
                  else none
                else none
              else none
            else none
          else none
        else none
      else none
    else
      some (.ok b0 v25 v26 v30 v31 v6)
inductive O26_3 where
  | ok (b0 : List (List Bool)) (v25 : Int) (v26 : Int)
def l26_3 (n : Nat) : Nat → (List (List Bool)) → Int → Int → Int → Int → Int → Option O26_3
  | 0, _, _, _, _, _, _ => none
  | m + 1, b0, v25, v26, v30, v31, v6 =>
    if decide (v31 < v30) then
      (match l26_2 n n b0 v25 v26 v30 v31 (b0.length : Int) 0 v6 v31 with
      | none => none
      | some (.ok b0_130 v25_130 v26_130 v30_130 v31_130 v6_130) =>
        l26_3 n m b0_130 v25_130 v26_130 v30_130 (w64 (v31_130 + 1)) v6_130)
    else
      some (.ok b0 v25 v26)
inductive O26_4 where
  | ok (b0 : List (List Bool))
def l26_4 (n : Nat) : Nat → (List (List Bool)) → Int → Int → Option O26_4
  | 0, _, _, _ => none
  | m + 1, b0, v25, v26 =>
    if decide (v26 < v25) then
      (match l26_3 n n b0 v25 v26 (b0.length : Int) 0 v26 with
      | none => none
      | some (.ok b0_134 v25_134 v26_134) =>
        l26_4 n m b0_134 v25_134 (w64 (v26_134 + 1)))
    else
      some (.ok b0)
def s26 (n : Nat) (p0 : List (List Bool)) : Option (List (List Bool)) :=
  (s40 n p0).bind fun r95 =>
  if !r95 then
    some ([] : List (List Bool))
  else
    (match l26_1 n n ([] : List (List Bool)) p0 (p0.length : Int) 0 with
    | none => none
    | some (.ok b0_106) =>
      (match l26_4 n n b0_106 (b0_106.length : Int) 0 with
      | none => none
      | some (.ok b0_136) =>
        some b0_136))
def E26 (r : List (List Bool)) (s : AS) : Prop := resOf s (.one 2) = some (.own 0 1 0 r.length) ∧ EndSt [(0, 0)] s.st [(0, .ml cB false r)] ∧ PinEnd (fun _ => none) s.st []
theorem t26_1 {n fuel : Nat} {b0 : List (List Bool)} {v12 : List (List Bool)} {v13 : Int} {v14 : Int} {out : O26_1} (h : l26_1 n fuel b0 v12 v13 v14 = some out) {Q : Ex → AS → Prop} (hok : ∀ b0, out = .ok b0 → Q .normal ⟨[(3, .own 0 1 0 b0.length)], [(0, .ml cB false b0)], 1⟩) : CWP Try.prog Try.f26.ntmps code26_1 Q ⟨[(3, .own 0 1 0 b0.length), (12, AV.sl 1 (fun (x : List Bool) _ => AV.sl 1 cB false x) [] v12), (13, I v13), (14, I v14)], [(0, .ml cB false b0)], 1⟩ := by
  refine CWP.block ?_
  refine CWP.loop (fun k s => ∃ b0 : List (List Bool), ∃ v12 : List (List Bool), ∃ v13 : Int, ∃ v14 : Int, s = ⟨[(3, .own 0 1 0 b0.length), (12, AV.sl 1 (fun (x : List Bool) _ => AV.sl 1 cB false x) [] v12), (13, I v13), (14, I v14)], [(0, .ml cB false b0)], 1⟩ ∧ l26_1 n k b0 v12 v13 v14 = some out) fuel ⟨b0, v12, v13, v14, rfl, h⟩ ?_
  clear h
  rintro k s ⟨b0, v12, v13, v14, rfl, h⟩
  cases k with
  | zero => cases h
  | succ m =>
    rw [l26_1] at h
    refine CWP.seq ?_
    refine CWP.regionT ⟨[(3, .own 0 1 0 b0.length), (12, AV.sl 1 (fun (x : List Bool) _ => AV.sl 1 cB false x) [] v12), (13, I v13), (14, I v14), (15, .tst (decide (v14 < v13)))], [(0, .ml cB false b0)], 9⟩ ?_ ?_
    · exact Le.keep (live := [3, 12, 13, 14, 15]) (names := [0]) (nx := 9) rfl
    refine CWP.seq ?_
    refine CWP.cond (And.intro (fun hc => ?_) (fun hc => ?_))
    · have h := ite_t h hc
      refine CWP.skip ?_
      refine CWP.seq ?_
      refine CWP.block ?_
      refine CWP.seq ?_
      obtain ⟨hs102, h⟩ := ite_some h
      refine CWP.regionT ⟨[(3, .own 0 1 0 b0.length), (5, AV.sl 1 cB false (v12.getD v14.toNat [])), (12, AV.sl 1 (fun (x : List Bool) _ => AV.sl 1 cB false x) [] v12), (13, I v13), (14, I v14)], [(0, .ml cB false b0)], 33⟩ ?_ ?_
      · refine And.intro hs102 ?_
        exact Le.keep (live := [3, 5, 12, 13, 14]) (names := [0]) (nx := 33) rfl
      obtain ⟨r103, hr103, h⟩ := Option.bind_eq_some_iff.1 h
      obtain ⟨hs104, h⟩ := ite_some h
      refine CWP.regionT ⟨[(3, .own 0 1 0 ((b0 ++ [r103]).length)), (12, AV.sl 1 (fun (x : List Bool) _ => AV.sl 1 cB false x) [] v12), (13, I v13), (14, I v14)], [(0, .ml cB false (b0 ++ [r103]))], 81⟩ ?_ ?_
      · refine FC.semT rfl rfl rfl trivial (c41 hr103) (Or.inl rfl) ?_
        refine ex_refl ?_
        refine SemOp.litRow rfl rfl (Nat.le_refl _) (fun _ => trivial) trivial ?_
        refine Exists.intro ⟨[(3, .own 0 1 0 b0.length), (5, AV.sl 1 cB false (v12.getD v14.toNat [])), (12, AV.sl 1 (fun (x : List Bool) _ => AV.sl 1 cB false x) [] v12), (13, I v13), (14, I v14), (18, .own 0 1 0 b0.length), (19, AV.sl 1 cB false (v12.getD v14.toNat [])), (20, .any), (21, .own 57 1 0 1)], [(0, .ml cB false b0), (57, .ml cB false [r103])], 33⟩ (And.intro (LeM.mat (x := 57) rfl rfl (ml_one (cell := cB) (d := false) rfl).1 (ml_one (cell := cB) (d := false) rfl).2) ?_)
        refine SemOp.appMat rfl rfl rfl rfl (Nat.le_refl _) (Nat.le_refl _) hs104 (fun _ => trivial) (fun _ => trivial) rfl ?_
        refine Exists.intro ⟨[(3, .any), (5, AV.sl 1 cB false (v12.getD v14.toNat [])), (12, AV.sl 1 (fun (x : List Bool) _ => AV.sl 1 cB false x) [] v12), (13, I v13), (14, I v14), (18, .any), (19, AV.sl 1 cB false (v12.getD v14.toNat [])), (20, .any), (21, .own 57 1 0 1), (22, .own 0 1 0 ((b0 ++ [r103]).length))], [(0, .ml cB false (b0 ++ [r103]))], 33⟩ (And.intro (LeM.trans (LeM.mat (x := 0) rfl (ml_app (cell := cB) (d := false) (l := b0) (k := [r103])).1 (ml_app (cell := cB) (d := false) (l := b0) (k := [r103])).2.1 (ml_app (cell := cB) (d := false) (l := b0) (k := [r103])).2.2) (LeM.ownLen (t := 22) rfl (ml_app (cell := cB) (d := false) (l := b0) (k := [r103])).1.symm)) ?_)
        exact Le.keep (live := [3, 12, 13, 14]) (names := [0]) (nx := 81) rfl
      refine CWP.regionT ⟨[(3, .own 0 1 0 ((b0 ++ [r103]).length)), (12, AV.sl 1 (fun (x : List Bool) _ => AV.sl 1 cB false x) [] v12), (13, I v13), (14, I (w64 (v14 + 1)))], [(0, .ml cB false (b0 ++ [r103]))], 1⟩ ?_ ?_
      · exact Le.trans (Le.keep (live := [3, 12, 13, 14]) (names := [0]) (nx := 97) rfl) (Le.keep (live := [3, 12, 13, 14]) (names := [0]) (nx := 1) rfl)
      exact ⟨m, Nat.lt_succ_self m, _, _, _, _, rfl, h⟩
    · have h := ite_f h hc
      refine CWP.exitL (Le.keep (live := [3]) (names := [0]) (nx := 1) rfl) (s' := ⟨[(3, .own 0 1 0 b0.length)], [(0, .ml cB false b0)], 1⟩) ?_
      exact hok _ (Option.some.inj h).symm
theorem t26_2 {n fuel : Nat} {b0 : List (List Bool)} {v25 : Int} {v26 : Int} {v30 : Int} {v31 : Int} {v35 : Int} {v36 : Int} {v6 : Int} {v7 : Int} {out : O26_2} (h : l26_2 n fuel b0 v25 v26 v30 v31 v35 v36 v6 v7 = some out) {Q : Ex → AS → Prop} (hok : ∀ b0 v25 v26 v30 v31 v6, out = .ok b0 v25 v26 v30 v31 v6 → Q .normal ⟨[(3, .own 0 1 0 b0.length), (6, I v6), (25, I v25), (26, I v26), (30, I v30), (31, I v31)], [(0, .ml cB false b0)], 1⟩) : CWP Try.prog Try.f26.ntmps code26_2 Q ⟨[(3, .own 0 1 0 b0.length), (6, I v6), (7, I v7), (25, I v25), (26, I v26), (30, I v30), (31, I v31), (35, I v35), (36, I v36)], [(0, .ml cB false b0)], 1⟩ := by
  refine CWP.block ?_
  refine CWP.loop (fun k s => ∃ b0 : List (List Bool), ∃ v25 : Int, ∃ v26 : Int, ∃ v30 : Int, ∃ v31 : Int, ∃ v35 : Int, ∃ v36 : Int, ∃ v6 : Int, ∃ v7 : Int, s = ⟨[(3, .own 0 1 0 b0.length), (6, I v6), (7, I v7), (25, I v25), (26, I v26), (30, I v30), (31, I v31), (35, I v35), (36, I v36)], [(0, .ml cB false b0)], 1⟩ ∧ l26_2 n k b0 v25 v26 v30 v31 v35 v36 v6 v7 = some out) fuel ⟨b0, v25, v26, v30, v31, v35, v36, v6, v7, rfl, h⟩ ?_
  clear h
  rintro k s ⟨b0, v25, v26, v30, v31, v35, v36, v6, v7, rfl, h⟩
  cases k with
  | zero => cases h
  | succ m =>
    rw [l26_2] at h
    refine CWP.seq ?_
    refine CWP.regionT ⟨[(3, .own 0 1 0 b0.length), (6, I v6), (7, I v7), (25, I v25), (26, I v26), (30, I v30), (31, I v31), (35, I v35), (36, I v36), (37, .tst (decide (v36 < v35)))], [(0, .ml cB false b0)], 9⟩ ?_ ?_
    · exact Le.keep (live := [3, 6, 7, 25, 26, 30, 31, 35, 36, 37]) (names := [0]) (nx := 9) rfl
    refine CWP.seq ?_
    refine CWP.cond (And.intro (fun hc => ?_) (fun hc => ?_))
    · have h := ite_t h hc
      refine CWP.skip ?_
      refine CWP.seq ?_
      refine CWP.block ?_
      refine CWP.seq ?_
      refine CWP.regionT ⟨[(3, .own 0 1 0 b0.length), (6, I v6), (7, I v7), (8, I v36), (25, I v25), (26, I v26), (30, I v30), (31, I v31), (35, I v35), (36, I v36)], [(0, .ml cB false b0)], 25⟩ ?_ ?_
      · exact Le.keep (live := [3, 6, 7, 8, 25, 26, 30, 31, 35, 36]) (names := [0]) (nx := 25) rfl
      obtain ⟨hs117, h⟩ := ite_some h
      obtain ⟨hs118, h⟩ := ite_some h
      obtain ⟨hs119, h⟩ := ite_some h
      obtain ⟨hs120, h⟩ := ite_some h
      obtain ⟨hs121, h⟩ := ite_some h
      obtain ⟨hs122, h⟩ := ite_some h
      obtain ⟨hs123, h⟩ := ite_some h
      obtain ⟨hs124, h⟩ := ite_some h
      refine CWP.drawT [] [0] ⟨[(3, .own 0 1 0 ((b0.set v7.toNat ((b0.getD v7.toNat []).set v36.toNat (((b0.getD v7.toNat []).getD v36.toNat false) || (((b0.getD v7.toNat []).getD v6.toNat false) && ((b0.getD v6.toNat []).getD v36.toNat false))))).length)), (6, I v6), (7, I v7), (25, I v25), (26, I v26), (30, I v30), (31, I v31), (35, I v35), (36, I v36)], [(0, .ml cB false (b0.set v7.toNat ((b0.getD v7.toNat []).set v36.toNat (((b0.getD v7.toNat []).getD v36.toNat false) || (((b0.getD v7.toNat []).getD v6.toNat false) && ((b0.getD v6.toNat []).getD v36.toNat false))))))], 281⟩ ?_ ?_
      · refine And.intro rfl ?_
        iterate 2 refine And.intro rfl ?_
        refine And.intro hs117 ?_
        refine And.intro rfl ?_
        refine And.intro (idx_lt hs117) ?_
        iterate 4 refine And.intro rfl ?_
        refine And.intro hs118 ?_
        refine And.intro rfl ?_
        refine And.intro (idx_lt hs118) ?_
        iterate 2 refine And.intro rfl ?_
        refine And.intro hs119 ?_
        refine And.intro ?_ ?_
        · refine And.intro rfl ?_
          refine And.intro ⟨idx_lt hs118, idx_lt hs119⟩ ?_
          refine And.intro rfl ?_
          refine And.intro (fun hg125 => ?_) (fun hg125 => ?_)
          · have hg125 : ((b0.getD v7.toNat []).getD v36.toNat false) = false := hg125
            iterate 3 refine And.intro rfl ?_
            refine And.intro (hs120 (by simp only [hg125, sB, reduceIte])) ?_
            refine And.intro rfl ?_
            refine And.intro ?_ ?_
            · refine And.intro rfl ?_
              refine And.intro (idx_lt (hs120 (by simp only [hg125, sB, reduceIte]))) ?_
              refine And.intro rfl ?_
              refine And.intro (hs121 (by simp only [hg125, sB, reduceIte])) ?_
              refine And.intro ?_ ?_
              · refine And.intro rfl ?_
                refine And.intro ⟨idx_lt (hs120 (by simp only [hg125, sB, reduceIte])), idx_lt (hs121 (by simp only [hg125, sB, reduceIte]))⟩ ?_
                refine And.intro rfl ?_
                refine And.intro (fun hg126 => ?_) (fun hg126 => ?_)
                · have hg126 : ((b0.getD v7.toNat []).getD v6.toNat false) = true := hg126
                  iterate 3 refine And.intro rfl ?_
                  refine And.intro (hs122 (by simp only [hg125, hg126, sB, reduceIte]) (by simp only [hg125, hg126, sB, reduceIte])) ?_
                  refine And.intro rfl ?_
                  refine And.intro ?_ ?_
                  · refine And.intro rfl ?_
                    refine And.intro (idx_lt (hs122 (by simp only [hg125, hg126, sB, reduceIte]) (by simp only [hg125, hg126, sB, reduceIte]))) ?_
                    refine And.intro rfl ?_
                    refine And.intro (hs123 (by simp only [hg125, hg126, sB, reduceIte]) (by simp only [hg125, hg126, sB, reduceIte])) ?_
                    refine And.intro ?_ ?_
                    · refine And.intro rfl ?_
                      refine And.intro ⟨idx_lt (hs122 (by simp only [hg125, hg126, sB, reduceIte]) (by simp only [hg125, hg126, sB, reduceIte])), idx_lt (hs123 (by simp only [hg125, hg126, sB, reduceIte]) (by simp only [hg125, hg126, sB, reduceIte]))⟩ ?_
                      iterate 3 refine And.intro rfl ?_
                      refine And.intro hs124 ?_
                      refine And.intro ?_ ?_
                      · refine And.intro rfl ?_
                        refine SemOp.ofD rfl ?_
                        refine And.intro ⟨idx_lt hs117, idx_lt hs124⟩ ?_
                        refine ex_cellm b0 b0 (((b0.getD v7.toNat []).getD v36.toNat false) || (((b0.getD v7.toNat []).getD v6.toNat false) && ((b0.getD v6.toNat []).getD v36.toNat false))) (x := 0) (cell := cB) (d := false) rfl rfl (fun _ => rfl) (idx_lt hs117) (idx_lt hs124) (congrArg AV.tst (by simp only [hg125, hg126, sB, reduceIte])) ?_
                        exact Le.trans (Le.mat (x := 0) (n' := (b0.set v7.toNat ((b0.getD v7.toNat []).set v36.toNat (((b0.getD v7.toNat []).getD v36.toNat false) || (((b0.getD v7.toNat []).getD v6.toNat false) && ((b0.getD v6.toNat []).getD v36.toNat false))))).length) (len' := fun j => ((b0.set v7.toNat ((b0.getD v7.toNat []).set v36.toNat (((b0.getD v7.toNat []).getD v36.toNat false) || (((b0.getD v7.toNat []).getD v6.toNat false) && ((b0.getD v6.toNat []).getD v36.toNat false))))).getD j []).length) (f' := fun j c => cB (((b0.set v7.toNat ((b0.getD v7.toNat []).set v36.toNat (((b0.getD v7.toNat []).getD v36.toNat false) || (((b0.getD v7.toNat []).getD v6.toNat false) && ((b0.getD v6.toNat []).getD v36.toNat false))))).getD j []).getD c false) 0) rfl ((List.length_set).trans rfl) (fun j _ => (fun k => (ml_len k).trans ((fun _ => rfl) k)) j) (fun _ _ _ _ => rfl)) (Le.trans (Le.rep (t := 3) rfl (RepLe.ownLen ((List.length_set).trans rfl).symm)) (Le.keep (live := [3, 6, 7, 25, 26, 30, 31, 35, 36]) (names := [0]) (nx := 281) rfl))
                      · exact trivial
                    · exact trivial
                  · exact trivial
                · have hg126 : ((b0.getD v7.toNat []).getD v6.toNat false) = false := hg126
                  refine And.intro ?_ ?_
                  · refine And.intro ?_ ?_
                    · refine And.intro rfl ?_
                      iterate 2 refine And.intro rfl ?_
                      refine And.intro hs124 ?_
                      refine And.intro ?_ ?_
                      · refine And.intro rfl ?_
                        refine SemOp.ofD rfl ?_
                        refine And.intro ⟨idx_lt hs117, idx_lt hs124⟩ ?_
                        refine ex_cellm b0 b0 (((b0.getD v7.toNat []).getD v36.toNat false) || (((b0.getD v7.toNat []).getD v6.toNat false) && ((b0.getD v6.toNat []).getD v36.toNat false))) (x := 0) (cell := cB) (d := false) rfl rfl (fun _ => rfl) (idx_lt hs117) (idx_lt hs124) (congrArg AV.tst (by simp only [hg125, hg126, sB, reduceIte])) ?_
                        exact Le.trans (Le.mat (x := 0) (n' := (b0.set v7.toNat ((b0.getD v7.toNat []).set v36.toNat (((b0.getD v7.toNat []).getD v36.toNat false) || (((b0.getD v7.toNat []).getD v6.toNat false) && ((b0.getD v6.toNat []).getD v36.toNat false))))).length) (len' := fun j => ((b0.set v7.toNat ((b0.getD v7.toNat []).set v36.toNat (((b0.getD v7.toNat []).getD v36.toNat false) || (((b0.getD v7.toNat []).getD v6.toNat false) && ((b0.getD v6.toNat []).getD v36.toNat false))))).getD j []).length) (f' := fun j c => cB (((b0.set v7.toNat ((b0.getD v7.toNat []).set v36.toNat (((b0.getD v7.toNat []).getD v36.toNat false) || (((b0.getD v7.toNat []).getD v6.toNat false) && ((b0.getD v6.toNat []).getD v36.toNat false))))).getD j []).getD c false) 0) rfl ((List.length_set).trans rfl) (fun j _ => (fun k => (ml_len k).trans ((fun _ => rfl) k)) j) (fun _ _ _ _ => rfl)) (Le.trans (Le.rep (t := 3) rfl (RepLe.ownLen ((List.length_set).trans rfl).symm)) (Le.keep (live := [3, 6, 7, 25, 26, 30, 31, 35, 36]) (names := [0]) (nx := 281) rfl))
                      · exact trivial
                    · exact trivial
                  · exact trivial
              · exact trivial
            · exact trivial
          · have hg125 : ((b0.getD v7.toNat []).getD v36.toNat false) = true := hg125
            refine And.intro ?_ ?_
            · refine And.intro ?_ ?_
              · refine And.intro ?_ ?_
                · refine And.intro ?_ ?_
                  · refine And.intro rfl ?_
                    refine And.intro rfl ?_
                    refine And.intro hs124 ?_
                    refine And.intro ?_ ?_
                    · refine And.intro rfl ?_
                      refine SemOp.ofD rfl ?_
                      refine And.intro ⟨idx_lt hs117, idx_lt hs124⟩ ?_
                      refine ex_cellm b0 b0 (((b0.getD v7.toNat []).getD v36.toNat false) || (((b0.getD v7.toNat []).getD v6.toNat false) && ((b0.getD v6.toNat []).getD v36.toNat false))) (x := 0) (cell := cB) (d := false) rfl rfl (fun _ => rfl) (idx_lt hs117) (idx_lt hs124) (congrArg AV.tst (by simp only [hg125, sB, reduceIte])) ?_
                      exact Le.trans (Le.mat (x := 0) (n' := (b0.set v7.toNat ((b0.getD v7.toNat []).set v36.toNat (((b0.getD v7.toNat []).getD v36.toNat false) || (((b0.getD v7.toNat []).getD v6.toNat false) && ((b0.getD v6.toNat []).getD v36.toNat false))))).length) (len' := fun j => ((b0.set v7.toNat ((b0.getD v7.toNat []).set v36.toNat (((b0.getD v7.toNat []).getD v36.toNat false) || (((b0.getD v7.toNat []).getD v6.toNat false) && ((b0.getD v6.toNat []).getD v36.toNat false))))).getD j []).length) (f' := fun j c => cB (((b0.set v7.toNat ((b0.getD v7.toNat []).set v36.toNat (((b0.getD v7.toNat []).getD v36.toNat false) || (((b0.getD v7.toNat []).getD v6.toNat false) && ((b0.getD v6.toNat []).getD v36.toNat false))))).getD j []).getD c false) 0) rfl ((List.length_set).trans rfl) (fun j _ => (fun k => (ml_len k).trans ((fun _ => rfl) k)) j) (fun _ _ _ _ => rfl)) (Le.trans (Le.rep (t := 3) rfl (RepLe.ownLen ((List.length_set).trans rfl).symm)) (Le.keep (live := [3, 6, 7, 25, 26, 30, 31, 35, 36]) (names := [0]) (nx := 281) rfl))
                    · exact trivial
                  · exact trivial
                · exact trivial
              · exact trivial
            · exact trivial
        · exact trivial
      refine CWP.regionT ⟨[(3, .own 0 1 0 ((b0.set v7.toNat ((b0.getD v7.toNat []).set v36.toNat (((b0.getD v7.toNat []).getD v36.toNat false) || (((b0.getD v7.toNat []).getD v6.toNat false) && ((b0.getD v6.toNat []).getD v36.toNat false))))).length)), (6, I v6), (7, I v7), (25, I v25), (26, I v26), (30, I v30), (31, I v31), (35, I v35), (36, I (w64 (v36 + 1)))], [(0, .ml cB false (b0.set v7.toNat ((b0.getD v7.toNat []).set v36.toNat (((b0.getD v7.toNat []).getD v36.toNat false) || (((b0.getD v7.toNat []).getD v6.toNat false) && ((b0.getD v6.toNat []).getD v36.toNat false))))))], 1⟩ ?_ ?_
      · exact Le.trans (Le.keep (live := [3, 6, 7, 25, 26, 30, 31, 35, 36]) (names := [0]) (nx := 297) rfl) (Le.keep (live := [3, 6, 7, 25, 26, 30, 31, 35, 36]) (names := [0]) (nx := 1) rfl)
      exact ⟨m, Nat.lt_succ_self m, _, _, _, _, _, _, _, _, _, rfl, h⟩
    · have h := ite_f h hc
      refine CWP.exitL (Le.keep (live := [3, 6, 25, 26, 30, 31]) (names := [0]) (nx := 1) rfl) (s' := ⟨[(3, .own 0 1 0 b0.length), (6, I v6), (25, I v25), (26, I v26), (30, I v30), (31, I v31)], [(0, .ml cB false b0)], 1⟩) ?_
      exact hok _ _ _ _ _ _ (Option.some.inj h).symm
theorem t26_3 {n fuel : Nat} {b0 : List (List Bool)} {v25 : Int} {v26 : Int} {v30 : Int} {v31 : Int} {v6 : Int} {out : O26_3} (h : l26_3 n fuel b0 v25 v26 v30 v31 v6 = some out) {Q : Ex → AS → Prop} (hok : ∀ b0 v25 v26, out = .ok b0 v25 v26 → Q .normal ⟨[(3, .own 0 1 0 b0.length), (25, I v25), (26, I v26)], [(0, .ml cB false b0)], 1⟩) : CWP Try.prog Try.f26.ntmps code26_3 Q ⟨[(3, .own 0 1 0 b0.length), (6, I v6), (25, I v25), (26, I v26), (30, I v30), (31, I v31)], [(0, .ml cB false b0)], 1⟩ := by
  refine CWP.block ?_
  refine CWP.loop (fun k s => ∃ b0 : List (List Bool), ∃ v25 : Int, ∃ v26 : Int, ∃ v30 : Int, ∃ v31 : Int, ∃ v6 : Int, s = ⟨[(3, .own 0 1 0 b0.length), (6, I v6), (25, I v25), (26, I v26), (30, I v30), (31, I v31)], [(0, .ml cB false b0)], 1⟩ ∧ l26_3 n k b0 v25 v26 v30 v31 v6 = some out) fuel ⟨b0, v25, v26, v30, v31, v6, rfl, h⟩ ?_
  clear h
  rintro k s ⟨b0, v25, v26, v30, v31, v6, rfl, h⟩
  cases k with
  | zero => cases h
  | succ m =>
    rw [l26_3] at h
    refine CWP.seq ?_
    refine CWP.regionT ⟨[(3, .own 0 1 0 b0.length), (6, I v6), (25, I v25), (26, I v26), (30, I v30), (31, I v31), (32, .tst (decide (v31 < v30)))], [(0, .ml cB false b0)], 9⟩ ?_ ?_
    · exact Le.keep (live := [3, 6, 25, 26, 30, 31, 32]) (names := [0]) (nx := 9) rfl
    refine CWP.seq ?_
    refine CWP.cond (And.intro (fun hc => ?_) (fun hc => ?_))
    · have h := ite_t h hc
      refine CWP.skip ?_
      refine CWP.seq ?_
      refine CWP.block ?_
      refine CWP.seq ?_
      refine CWP.regionT ⟨[(3, .own 0 1 0 b0.length), (6, I v6), (7, I v31), (25, I v25), (26, I v26), (30, I v30), (31, I v31)], [(0, .ml cB false b0)], 25⟩ ?_ ?_
      · exact Le.keep (live := [3, 6, 7, 25, 26, 30, 31]) (names := [0]) (nx := 25) rfl
      refine CWP.seq ?_
      refine CWP.regionT ⟨[(3, .own 0 1 0 b0.length), (6, I v6), (7, I v31), (25, I v25), (26, I v26), (30, I v30), (31, I v31), (35, I (b0.length : Int)), (36, I 0)], [(0, .ml cB false b0)], 49⟩ ?_ ?_
      · exact Le.keep (live := [3, 6, 7, 25, 26, 30, 31, 35, 36]) (names := [0]) (nx := 49) rfl
      generalize hn129 : l26_2 n n b0 v25 v26 v30 v31 (b0.length : Int) 0 v6 v31 = o129 at h
      rcases o129 with _ | o129
      · cases h
      refine CWP.weaken (s' := ⟨[(3, .own 0 1 0 b0.length), (6, I v6), (7, I v31), (25, I v25), (26, I v26), (30, I v30), (31, I v31), (35, I (b0.length : Int)), (36, I 0)], [(0, .ml cB false b0)], 1⟩) (Le.keep (live := [3, 6, 7, 25, 26, 30, 31, 35, 36]) (names := [0]) (nx := 1) rfl) ?_
      refine t26_2 hn129 ?_
      · intro b0_130 v25_130 v26_130 v30_130 v31_130 v6_130 e
        subst e
        dsimp only at h
        refine CWP.regionT ⟨[(3, .own 0 1 0 b0_130.length), (6, I v6_130), (25, I v25_130), (26, I v26_130), (30, I v30_130), (31, I (w64 (v31_130 + 1)))], [(0, .ml cB false b0_130)], 1⟩ ?_ ?_
        · exact Le.trans (Le.keep (live := [3, 6, 25, 26, 30, 31]) (names := [0]) (nx := 17) rfl) (Le.keep (live := [3, 6, 25, 26, 30, 31]) (names := [0]) (nx := 1) rfl)
        exact ⟨m, Nat.lt_succ_self m, _, _, _, _, _, _, rfl, h⟩
    · have h := ite_f h hc
      refine CWP.exitL (Le.keep (live := [3, 25, 26]) (names := [0]) (nx := 1) rfl) (s' := ⟨[(3, .own 0 1 0 b0.length), (25, I v25), (26, I v26)], [(0, .ml cB false b0)], 1⟩) ?_
      exact hok _ _ _ (Option.some.inj h).symm
theorem t26_4 {n fuel : Nat} {b0 : List (List Bool)} {v25 : Int} {v26 : Int} {out : O26_4} (h : l26_4 n fuel b0 v25 v26 = some out) {Q : Ex → AS → Prop} (hok : ∀ b0, out = .ok b0 → Q .normal ⟨[(3, .own 0 1 0 b0.length)], [(0, .ml cB false b0)], 1⟩) : CWP Try.prog Try.f26.ntmps code26_4 Q ⟨[(3, .own 0 1 0 b0.length), (25, I v25), (26, I v26)], [(0, .ml cB false b0)], 1⟩ := by
  refine CWP.block ?_
  refine CWP.loop (fun k s => ∃ b0 : List (List Bool), ∃ v25 : Int, ∃ v26 : Int, s = ⟨[(3, .own 0 1 0 b0.length), (25, I v25), (26, I v26)], [(0, .ml cB false b0)], 1⟩ ∧ l26_4 n k b0 v25 v26 = some out) fuel ⟨b0, v25, v26, rfl, h⟩ ?_
  clear h
  rintro k s ⟨b0, v25, v26, rfl, h⟩
  cases k with
  | zero => cases h
  | succ m =>
    rw [l26_4] at h
    refine CWP.seq ?_
    refine CWP.regionT ⟨[(3, .own 0 1 0 b0.length), (25, I v25), (26, I v26), (27, .tst (decide (v26 < v25)))], [(0, .ml cB false b0)], 9⟩ ?_ ?_
    · exact Le.keep (live := [3, 25, 26, 27]) (names := [0]) (nx := 9) rfl
    refine CWP.seq ?_
    refine CWP.cond (And.intro (fun hc => ?_) (fun hc => ?_))
    · have h := ite_t h hc
      refine CWP.skip ?_
      refine CWP.seq ?_
      refine CWP.block ?_
      refine CWP.seq ?_
      refine CWP.regionT ⟨[(3, .own 0 1 0 b0.length), (6, I v26), (25, I v25), (26, I v26)], [(0, .ml cB false b0)], 25⟩ ?_ ?_
      · exact Le.keep (live := [3, 6, 25, 26]) (names := [0]) (nx := 25) rfl
      refine CWP.seq ?_
      refine CWP.regionT ⟨[(3, .own 0 1 0 b0.length), (6, I v26), (25, I v25), (26, I v26), (30, I (b0.length : Int)), (31, I 0)], [(0, .ml cB false b0)], 49⟩ ?_ ?_
      · exact Le.keep (live := [3, 6, 25, 26, 30, 31]) (names := [0]) (nx := 49) rfl
      generalize hn133 : l26_3 n n b0 v25 v26 (b0.length : Int) 0 v26 = o133 at h
      rcases o133 with _ | o133
      · cases h
      refine CWP.weaken (s' := ⟨[(3, .own 0 1 0 b0.length), (6, I v26), (25, I v25), (26, I v26), (30, I (b0.length : Int)), (31, I 0)], [(0, .ml cB false b0)], 1⟩) (Le.keep (live := [3, 6, 25, 26, 30, 31]) (names := [0]) (nx := 1) rfl) ?_
      refine t26_3 hn133 ?_
      · intro b0_134 v25_134 v26_134 e
        subst e
        dsimp only at h
        refine CWP.regionT ⟨[(3, .own 0 1 0 b0_134.length), (25, I v25_134), (26, I (w64 (v26_134 + 1)))], [(0, .ml cB false b0_134)], 1⟩ ?_ ?_
        · exact Le.trans (Le.keep (live := [3, 25, 26]) (names := [0]) (nx := 17) rfl) (Le.keep (live := [3, 25, 26]) (names := [0]) (nx := 1) rfl)
        exact ⟨m, Nat.lt_succ_self m, _, _, _, rfl, h⟩
    · have h := ite_f h hc
      refine CWP.exitL (Le.keep (live := [3]) (names := [0]) (nx := 1) rfl) (s' := ⟨[(3, .own 0 1 0 b0.length)], [(0, .ml cB false b0)], 1⟩) ?_
      exact hok _ (Option.some.inj h).symm
theorem wf26 {n : Nat} {p0 : List (List Bool)} {r : List (List Bool)} (h : s26 n p0 = some r) : CWP Try.prog Try.f26.ntmps code26 (AtE (E26 r)) ⟨[(0, AV.sl 1 (fun (x : List Bool) _ => AV.sl 1 cB false x) [] p0)], [], 0⟩ := by
  unfold s26 at h
  refine CWP.seq ?_
  refine CWP.regionT ⟨[(0, AV.sl 1 (fun (x : List Bool) _ => AV.sl 1 cB false x) [] p0)], [], 8⟩ ?_ ?_
  · exact Le.keep (live := [0]) (names := []) (nx := 8) rfl
  refine CWP.seq ?_
  refine CWP.seq ?_
  obtain ⟨r95, hr95, h⟩ := Option.bind_eq_some_iff.1 h
  refine CWP.regionT ⟨[(0, AV.sl 1 (fun (x : List Bool) _ => AV.sl 1 cB false x) [] p0), (11, .tst !r95)], [], 32⟩ ?_ ?_
  · refine FC.semT rfl rfl rfl trivial (c40 hr95) (Or.inl rfl) ?_
    refine ex_refl ?_
    exact Le.keep (live := [0, 11]) (names := []) (nx := 32) rfl
  refine CWP.cond (And.intro (fun hc => ?_) (fun hc => ?_))
  · have h := ite_t h hc
    refine CWP.seq ?_
    refine CWP.regionT ⟨[(2, .raw (.slice none 0 0))], [], 40⟩ ?_ ?_
    · exact Le.keep (live := [2]) (names := []) (nx := 40) rfl
    refine CWP.weaken (s' := ⟨[(2, .own 0 1 0 (([] : List (List Bool)).length))], [(0, .ml cB false ([] : List (List Bool)))], 1⟩) (Le.trans (Le.nilMat (t := 2) rfl (fun _ _ => .any) (fun _ => 0) trivial) (Le.trans (Le.mat (x := 40) (n' := ([] : List (List Bool)).length) (len' := fun j => (([] : List (List Bool)).getD j []).length) (f' := fun j c => cB ((([] : List (List Bool)).getD j []).getD c false) 0) rfl rfl (fun j hj => absurd hj (Nat.not_lt_zero j)) (fun j _ hj _ => absurd hj (Nat.not_lt_zero j))) (Le.ren [(0, 40)] rfl ⟨rfl, trivial⟩ ⟨⟨_, rfl, rfl⟩, trivial⟩))) ?_
    refine CWP.ret ?_
    have e := Option.some.inj h
    subst e
    exact ⟨rfl, ⟨⟨_, rfl, rfl⟩, trivial⟩, trivial⟩
  · have h := ite_f h hc
    refine CWP.skip ?_
    refine CWP.seq ?_
    refine CWP.regionT ⟨[(0, AV.sl 1 (fun (x : List Bool) _ => AV.sl 1 cB false x) [] p0), (3, .raw (.slice none 0 0))], [], 40⟩ ?_ ?_
    · exact Le.keep (live := [0, 3]) (names := []) (nx := 40) rfl
    refine CWP.seq ?_
    refine CWP.seq ?_
    refine CWP.regionT ⟨[(3, .raw (.slice none 0 0)), (12, AV.sl 1 (fun (x : List Bool) _ => AV.sl 1 cB false x) [] p0), (13, I (p0.length : Int)), (14, I 0)], [], 64⟩ ?_ ?_
    · exact Le.keep (live := [3, 12, 13, 14]) (names := []) (nx := 64) rfl
    generalize hn105 : l26_1 n n ([] : List (List Bool)) p0 (p0.length : Int) 0 = o105 at h
    rcases o105 with _ | o105
    · cases h
    refine CWP.weaken (s' := ⟨[(3, .own 0 1 0 (([] : List (List Bool)).length)), (12, AV.sl 1 (fun (x : List Bool) _ => AV.sl 1 cB false x) [] p0), (13, I (p0.length : Int)), (14, I 0)], [(0, .ml cB false ([] : List (List Bool)))], 1⟩) (Le.trans (Le.nilMat (t := 3) rfl (fun _ _ => .any) (fun _ => 0) trivial) (Le.trans (Le.mat (x := 64) (n' := ([] : List (List Bool)).length) (len' := fun j => (([] : List (List Bool)).getD j []).length) (f' := fun j c => cB ((([] : List (List Bool)).getD j []).getD c false) 0) rfl rfl (fun j hj => absurd hj (Nat.not_lt_zero j)) (fun j _ hj _ => absurd hj (Nat.not_lt_zero j))) (Le.ren [(0, 64)] rfl ⟨rfl, rfl, rfl, rfl, trivial⟩ ⟨⟨_, rfl, rfl⟩, trivial⟩))) ?_
    refine t26_1 hn105 ?_
    · intro b0_106 e
      subst e
      dsimp only at h
      refine CWP.seq ?_
      refine CWP.seq ?_
      refine CWP.regionT ⟨[(3, .own 0 1 0 b0_106.length), (25, I (b0_106.length : Int)), (26, I 0)], [(0, .ml cB false b0_106)], 25⟩ ?_ ?_
      · exact Le.keep (live := [3, 25, 26]) (names := [0]) (nx := 25) rfl
      generalize hn135 : l26_4 n n b0_106 (b0_106.length : Int) 0 = o135 at h
      rcases o135 with _ | o135
      · cases h
      refine CWP.weaken (s' := ⟨[(3, .own 0 1 0 b0_106.length), (25, I (b0_106.length : Int)), (26, I 0)], [(0, .ml cB false b0_106)], 1⟩) (Le.keep (live := [3, 25, 26]) (names := [0]) (nx := 1) rfl) ?_
      refine t26_4 hn135 ?_
      · intro b0_136 e
        subst e
        dsimp only at h
        refine CWP.seq ?_
        refine CWP.regionT ⟨[(2, .own 0 1 0 b0_136.length)], [(0, .ml cB false b0_136)], 17⟩ ?_ ?_
        · exact Le.keep (live := [2]) (names := [0]) (nx := 17) rfl
        refine CWP.weaken (s' := ⟨[(2, .own 0 1 0 b0_136.length)], [(0, .ml cB false b0_136)], 1⟩) (Le.keep (live := [2]) (names := [0]) (nx := 1) rfl) ?_
        refine CWP.ret ?_
        have e := Option.some.inj h
        subst e
        exact ⟨rfl, ⟨⟨_, rfl, rfl⟩, trivial⟩, trivial⟩
theorem c26 {n : Nat} {p0 : List (List Bool)} {r : List (List Bool)} (h : s26 n p0 = some r) : FC Try.prog 26 [AV.sl 1 (fun (x : List Bool) _ => AV.sl 1 cB false x) [] p0] (.own 0 1 0 r.length) [(0, .ml cB false r)] true := FC.new rfl rfl (RC.ofE (st := []) (r := .own 0 1 0 r.length) (st' := [(0, .ml cB false r)]) (pins := []) 0 [(0, 0)] (fn := Try.f26) (cc := code26) (res := .one 2) (by kernel_rfl) (by kernel_rfl) tr26 (by kernel_rfl) (Nat.le_of_ble_eq_true rfl) rfl rfl (fun β => wf26 h)) rfl ⟨(fun _ _ _ _ => rfl), trivial⟩
def code42_1 : CCode :=
 (.block 2
  (.loop
  (.seq
   (.region [⟨(some 34), (.bin 0 .lss (.tmp 33) (.tmp 32)), none⟩] none)
   (.seq
   (.cond (.tmp 34)
    .skip
    (.exit 2))
   (.seq
    (.block 3
    (.seq
     (.region [⟨(some 35), (.mv (.tmp 33)), none⟩,
      ⟨(some 36), (.idx 4 (.tmp 31) (.tmp 33)), none⟩,
      ⟨(some 37), (.load true 4 (.tmp 36)), none⟩,
      ⟨(some 7), (.alloc [(.int .i64 0), (.int .i64 0), (.int .i64 0), (.int .i64 0)]), none⟩,
      ⟨(some 6), (.mv (.tmp 35)), none⟩,
      ⟨none, (.store 4 (.tmp 7) (.tmp 37)), none⟩] none)
     (.region [⟨(some 38), (.mv (.tmp 3)), none⟩,
      ⟨(some 39), (.mv (.tmp 4)), none⟩,
      ⟨(some 40), (.idx 1 (.tmp 38) (.tmp 39)), none⟩,
      ⟨(some 41), (.load false 1 (.tmp 40)), none⟩,
      ⟨(some 42), (.mv (.tmp 6)), none⟩,
      ⟨(some 43), (.fad 0 (.tmp 5)), none⟩,
      ⟨(some 44), (.load false 1 (.tmp 43)), none⟩,
      ⟨(some 45), (.fad 0 (.tmp 7)), none⟩,
      ⟨(some 46), (.load false 1 (.tmp 45)), none⟩,
      ⟨(some 47), (.bin 0 .eql (.tmp 44) (.tmp 46)), none⟩,
      ⟨(some 48), (.mv (.tmp 47)), none⟩,
      ⟨(some 49), (.mv (.tmp 4)), (some (48, true))⟩,
      ⟨(some 50), (.mv (.tmp 6)), (some (48, true))⟩,
      ⟨(some 51), (.bin 0 .lss (.tmp 49) (.tmp 50)), (some (48, true))⟩,
      ⟨(some 52), (.pick (.tmp 48) (.tmp 51) (.const (.bool false))), none⟩,
      ⟨(some 53), (.mv (.tmp 52)), none⟩,
      ⟨(some 54), (.fad 1 (.tmp 1)), (some (53, false))⟩,
      ⟨(some 55), (.load false 1 (.tmp 54)), (some (53, false))⟩,
      ⟨(some 56), (.fad 0 (.tmp 7)), (some (53, false))⟩,
      ⟨(some 57), (.load false 1 (.tmp 56)), (some (53, false))⟩,
      ⟨(some 58), (.idx 1 (.tmp 55) (.tmp 57)), (some (53, false))⟩,
      ⟨(some 59), (.load false 1 (.tmp 58)), (some (53, false))⟩,
      ⟨(some 60), (.mv (.tmp 4)), (some (53, false))⟩,
      ⟨(some 61), (.bin 0 .eql (.tmp 59) (.tmp 60)), (some (53, false))⟩,
      ⟨(some 62), (.pick (.tmp 53) (.const (.bool true)) (.tmp 61)), none⟩,
      ⟨(some 63), (.idx 1 (.tmp 41) (.tmp 42)), none⟩,
      ⟨none, (.store 1 (.tmp 63) (.tmp 62)), none⟩] (some (.take 0 (.take 1 (.take 2 (.take 3 (.take 4 (.take 5 (.take 6 (.take 7 (.take 8 (.take 9 (.take 10 (.take 11 (.take 12 (.take 13 (.take 14 (.take 15 (.take 16 (.take 17 (.take 18 (.take 19 (.take 20 (.take 21 (.take 22 (.take 23 (.take 24 (.take 25 (.alt 26 .done .alt0)))))))))))))))))))))))))))))))
    (.region [⟨(some 64), (.bin 0 .add (.tmp 33) (.const (.int .i64 1))), none⟩,
     ⟨(some 33), (.mv (.tmp 64)), none⟩] none))))))
def code42_2 : CCode :=
 (.block 0
  (.loop
  (.seq
   (.region [⟨(some 19), (.bin 0 .lss (.tmp 18) (.tmp 17)), none⟩] none)
   (.seq
   (.cond (.tmp 19)
    .skip
    (.exit 0))
   (.seq
    (.block 1
    (.seq
     (.region [⟨(some 20), (.mv (.tmp 18)), none⟩,
      ⟨(some 21), (.idx 4 (.tmp 16) (.tmp 18)), none⟩,
      ⟨(some 22), (.load true 4 (.tmp 21)), none⟩,
      ⟨(some 5), (.alloc [(.int .i64 0), (.int .i64 0), (.int .i64 0), (.int .i64 0)]), none⟩,
      ⟨(some 4), (.mv (.tmp 20)), none⟩,
      ⟨none, (.store 4 (.tmp 5) (.tmp 22)), none⟩] none)
     (.seq
     (.region [⟨(some 23), (.mv (.tmp 3)), none⟩,
      ⟨(some 24), (.mv (.tmp 4)), none⟩,
      ⟨(some 25), (.fad 0 (.tmp 1)), none⟩,
      ⟨(some 26), (.load false 1 (.tmp 25)), none⟩,
      ⟨(some 27), (.len 1 (.tmp 26)), none⟩,
      ⟨(some 28), (.mksl 0 1 (.bool false) (.tmp 27)), none⟩,
      ⟨(some 29), (.idx 1 (.tmp 23) (.tmp 24)), none⟩,
      ⟨none, (.store 1 (.tmp 29) (.tmp 28)), none⟩] none)
     (.seq
      (.region [⟨(some 30), (.fad 0 (.tmp 1)), none⟩,
       ⟨(some 31), (.load false 1 (.tmp 30)), none⟩,
       ⟨(some 32), (.len 1 (.tmp 31)), none⟩,
       ⟨(some 33), (.mv (.const (.int .i64 0))), none⟩] none)
      code42_1))))
    (.region [⟨(some 65), (.bin 0 .add (.tmp 18) (.const (.int .i64 1))), none⟩,
     ⟨(some 18), (.mv (.tmp 65)), none⟩] none))))))
def code42 : CCode :=
 (.seq
  (.region [⟨(some 1), (.box 2 (.tmp 0)), none⟩,
   ⟨(some 2), (.mv (.const (.slice none 0 0))), none⟩] none)
  (.seq
  (.seq
   (.region [⟨(some 8), (.load true 2 (.tmp 1)), none⟩,
    ⟨(some 9), (.call (.func 37) [(.tmp 8)]), none⟩,
    ⟨(some 10), (.bin 0 .neq (.tmp 9) (.const (.int .i64 0))), none⟩] none)
   (.cond (.tmp 10)
   (.seq
    (.region [⟨(some 2), (.mv (.const (.slice none 0 0))), none⟩] none)
    .ret)
   .skip))
  (.seq
   (.region [⟨(some 11), (.fad 0 (.tmp 1)), none⟩,
    ⟨(some 12), (.load false 1 (.tmp 11)), none⟩,
    ⟨(some 13), (.len 1 (.tmp 12)), none⟩,
    ⟨(some 14), (.mksl 0 24 (.slice none 0 0) (.tmp 13)), none⟩,
    ⟨(some 3), (.mv (.tmp 14)), none⟩] none)
   (.seq
   (.seq
    (.region [⟨(some 15), (.fad 0 (.tmp 1)), none⟩,
     ⟨(some 16), (.load false 1 (.tmp 15)), none⟩,
     ⟨(some 17), (.len 1 (.tmp 16)), none⟩,
     ⟨(some 18), (.mv (.const (.int .i64 0))), none⟩] none)
    code42_2)
   (.seq
    (.region [⟨(some 66), (.mv (.tmp 3)), none⟩,
     ⟨(some 67), (.call (.func 26) [(.tmp 66)]), none⟩,
     ⟨(some 2), (.mv (.tmp 67)), none⟩] none)
    .ret)))))
theorem tr42 : (Try.f42.body).bind (trCode Try.prog Try.f42.ntmps) = some code42 := by kernel_rfl
inductive O42_1 where
  | ok (b0 : api_Shape) (b1 : List (List Bool)) (v16 : List api_Event) (v17 : Int) (v18 : Int)
def l42_1 (n : Nat) : Nat → api_Shape → (List (List Bool)) → api_Event → (List api_Event) → Int → Int → (List api_Event) → Int → Int → Int → Option O42_1
  | 0, _, _, _, _, _, _, _, _, _, _ => none
  | m + 1, b0, b1, b2, v16, v17, v18, v31, v32, v33, v4 =>
    if decide (v33 < v32) then
      if 0 ≤ v33 ∧ v33 < (v31.length : Int) then
        if 0 ≤ v4 ∧ v4 < (b1.length : Int) then
          if ((b2.Proc == ((v31.getD v33.toNat default).Proc)) && (decide (v4 < v33))) = false → 0 ≤ ((v31.getD v33.toNat default).Proc) ∧ ((v31.getD v33.toNat default).Proc) < (b0.Starts.length : Int) then
            if 0 ≤ v33 ∧ v33 < (((b1.getD v4.toNat []).length) : Int) then
              l42_1 n m b0 (b1.set v4.toNat ((b1.getD v4.toNat []).set v33.toNat (((b2.Proc == ((v31.getD v33.toNat default).Proc)) && (decide (v4 < v33))) || ((b0.Starts.getD ((v31.getD v33.toNat default).Proc).toNat 0) == v4)))) b2 v16 v17 v18 v31 v32 (w64 (v33 + 1)) v4
            else none
          else none
        else none
      else none
    else
      some (.ok b0 b1 v16 v17 v18)
inductive O42_2 where
  | ok (b0 : List (List Bool))
def l42_2 (n : Nat) : Nat → api_Shape → (List (List Bool)) → (List api_Event) → Int → Int → Option O42_2
  | 0, _, _, _, _, _ => none
  | m + 1, b0, b1, v16, v17, v18 =>
    if decide (v18 < v17) then
      if 0 ≤ v18 ∧ v18 < (v16.length : Int) then
        if 0 ≤ (b0.Events.length : Int) ∧ (b0.Events.length : Int) * 1 ≤ 140737488355328 then
          if 0 ≤ v18 ∧ v18 < (b1.length : Int) then
            (match l42_1 n n b0 (b1.set v18.toNat (List.replicate (b0.Events.length : Int).toNat (false : Bool))) (v16.getD v18.toNat default) v16 v17 v18 b0.Events (b0.Events.length : Int) 0 v18 with
            | none => none
            | some (.ok b0_91 b1_91 v16_91 v17_91 v18_91) =>
              l42_2 n m b0_91 b1_91 v16_91 v17_91 (w64 (v18_91 + 1)))
          else none
        else none
      else none
    else
      some (.ok b1)
def s42 (n : Nat) (p0 : api_Shape) : Option (List (List Bool)) :=
  (s37 n p0).bind fun r68 =>
  if r68 != 0 then
    some ([] : List (List Bool))
  else
    if 0 ≤ (p0.Events.length : Int) ∧ (p0.Events.length : Int) * 24 ≤ 140737488355328 then
      (match l42_2 n n p0 (List.replicate (p0.Events.length : Int).toNat ([] : List Bool)) p0.Events (p0.Events.length : Int) 0 with
      | none => none
      | some (.ok b0_93) =>
        (s26 n b0_93).bind fun r94 =>
        some r94)
    else none
def E42 (r : List (List Bool)) (s : AS) : Prop := resOf s (.one 2) = some (.own 0 1 0 r.length) ∧ EndSt [(0, 0)] s.st [(0, .ml cB false r)] ∧ PinEnd (fun _ => none) s.st []
theorem t42_1 {n fuel : Nat} {b0 : api_Shape} {b1 : List (List Bool)} {b2 : api_Event} {v16 : List api_Event} {v17 : Int} {v18 : Int} {v31 : List api_Event} {v32 : Int} {v33 : Int} {v4 : Int} {out : O42_1} (h : l42_1 n fuel b0 b1 b2 v16 v17 v18 v31 v32 v33 v4 = some out) {Q : Ex → AS → Prop} (hok : ∀ b0 b1 v16 v17 v18, out = .ok b0 b1 v16 v17 v18 → Q .normal ⟨[(1, .ptr 0 0), (3, .own 1 1 0 b1.length), (16, api_Event.sl v16), (17, I v17), (18, I v18)], [(0, .box (api_Shape.cs b0)), (1, .ml cB false b1)], 2⟩) : CWP Try.prog Try.f42.ntmps code42_1 Q ⟨[(1, .ptr 0 0), (3, .own 1 1 0 b1.length), (4, I v4), (5, .ptr 2 0), (16, api_Event.sl v16), (17, I v17), (18, I v18), (31, api_Event.sl v31), (32, I v32), (33, I v33)], [(0, .box (api_Shape.cs b0)), (1, .ml cB false b1), (2, .box (api_Event.cs b2))], 3⟩ := by
  refine CWP.block ?_
  refine CWP.loop (fun k s => ∃ b0 : api_Shape, ∃ b1 : List (List Bool), ∃ b2 : api_Event, ∃ v16 : List api_Event, ∃ v17 : Int, ∃ v18 : Int, ∃ v31 : List api_Event, ∃ v32 : Int, ∃ v33 : Int, ∃ v4 : Int, s = ⟨[(1, .ptr 0 0), (3, .own 1 1 0 b1.length), (4, I v4), (5, .ptr 2 0), (16, api_Event.sl v16), (17, I v17), (18, I v18), (31, api_Event.sl v31), (32, I v32), (33, I v33)], [(0, .box (api_Shape.cs b0)), (1, .ml cB false b1), (2, .box (api_Event.cs b2))], 3⟩ ∧ l42_1 n k b0 b1 b2 v16 v17 v18 v31 v32 v33 v4 = some out) fuel ⟨b0, b1, b2, v16, v17, v18, v31, v32, v33, v4, rfl, h⟩ ?_
  clear h
  rintro k s ⟨b0, b1, b2, v16, v17, v18, v31, v32, v33, v4, rfl, h⟩
  cases k with
  | zero => cases h
  | succ m =>
    rw [l42_1] at h
    refine CWP.seq ?_
    refine CWP.regionT ⟨[(1, .ptr 0 0), (3, .own 1 1 0 b1.length), (4, I v4), (5, .ptr 2 0), (16, api_Event.sl v16), (17, I v17), (18, I v18), (31, api_Event.sl v31), (32, I v32), (33, I v33), (34, .tst (decide (v33 < v32)))], [(0, .box (api_Shape.cs b0)), (1, .ml cB false b1), (2, .box (api_Event.cs b2))], 11⟩ ?_ ?_
    · exact Le.keep (live := [1, 3, 4, 5, 16, 17, 18, 31, 32, 33, 34]) (names := [0, 1, 2]) (nx := 11) rfl
    refine CWP.seq ?_
    refine CWP.cond (And.intro (fun hc => ?_) (fun hc => ?_))
    · have h := ite_t h hc
      refine CWP.skip ?_
      refine CWP.seq ?_
      refine CWP.block ?_
      refine CWP.seq ?_
      obtain ⟨hs79, h⟩ := ite_some h
      refine CWP.regionT ⟨[(1, .ptr 0 0), (3, .own 1 1 0 b1.length), (4, I v4), (5, .ptr 2 0), (6, I v33), (7, .ptr 35 0), (16, api_Event.sl v16), (17, I v17), (18, I v18), (31, api_Event.sl v31), (32, I v32), (33, I v33)], [(0, .box (api_Shape.cs b0)), (1, .ml cB false b1), (2, .box (api_Event.cs b2)), (35, .box [I ((v31.getD v33.toNat default).Proc), I ((v31.getD v33.toNat default).Inst), I ((v31.getD v33.toNat default).Kind), I ((v31.getD v33.toNat default).Obj)])], 59⟩ ?_ ?_
      · refine And.intro hs79 ?_
        refine SemOp.ofT ?_
        refine ex_refl ?_
        exact Le.keep (live := [1, 3, 4, 5, 6, 7, 16, 17, 18, 31, 32, 33]) (names := [0, 1, 2, 35]) (nx := 59) rfl
      obtain ⟨hs80, h⟩ := ite_some h
      obtain ⟨hs81, h⟩ := ite_some h
      obtain ⟨hs82, h⟩ := ite_some h
      refine CWP.drawT [] [1] ⟨[(1, .ptr 0 0), (3, .own 1 1 0 ((b1.set v4.toNat ((b1.getD v4.toNat []).set v33.toNat (((b2.Proc == ((v31.getD v33.toNat default).Proc)) && (decide (v4 < v33))) || ((b0.Starts.getD ((v31.getD v33.toNat default).Proc).toNat 0) == v4)))).length)), (4, I v4), (5, .ptr 2 0), (16, api_Event.sl v16), (17, I v17), (18, I v18), (31, api_Event.sl v31), (32, I v32), (33, I v33)], [(0, .box (api_Shape.cs b0)), (1, .ml cB false (b1.set v4.toNat ((b1.getD v4.toNat []).set v33.toNat (((b2.Proc == ((v31.getD v33.toNat default).Proc)) && (decide (v4 < v33))) || ((b0.Starts.getD ((v31.getD v33.toNat default).Proc).toNat 0) == v4))))), (2, .box (api_Event.cs b2))], 275⟩ ?_ ?_
      · refine And.intro rfl ?_
        iterate 2 refine And.intro rfl ?_
        refine And.intro hs80 ?_
        refine And.intro rfl ?_
        refine And.intro (idx_lt hs80) ?_
        iterate 7 refine And.intro rfl ?_
        refine And.intro (fun hg83 => ?_) (fun hg83 => ?_)
        · have hg83 : (b2.Proc == ((v31.getD v33.toNat default).Proc)) = true := hg83
          iterate 5 refine And.intro rfl ?_
          refine And.intro (fun hg84 => ?_) (fun hg84 => ?_)
          · have hg84 : (decide (v4 < v33)) = false := hg84
            iterate 5 refine And.intro rfl ?_
            refine And.intro (hs81 (by simp only [hg83, hg84, sB, reduceIte])) ?_
            iterate 5 refine And.intro rfl ?_
            refine And.intro hs82 ?_
            refine And.intro ?_ ?_
            · refine And.intro rfl ?_
              refine SemOp.ofD rfl ?_
              refine And.intro ⟨idx_lt hs80, idx_lt hs82⟩ ?_
              refine ex_cellm b1 b1 (((b2.Proc == ((v31.getD v33.toNat default).Proc)) && (decide (v4 < v33))) || ((b0.Starts.getD ((v31.getD v33.toNat default).Proc).toNat 0) == v4)) (x := 1) (cell := cB) (d := false) rfl rfl (fun _ => rfl) (idx_lt hs80) (idx_lt hs82) (congrArg AV.tst (by simp only [hg83, hg84, sB, reduceIte])) ?_
              exact Le.trans (Le.mat (x := 1) (n' := (b1.set v4.toNat ((b1.getD v4.toNat []).set v33.toNat (((b2.Proc == ((v31.getD v33.toNat default).Proc)) && (decide (v4 < v33))) || ((b0.Starts.getD ((v31.getD v33.toNat default).Proc).toNat 0) == v4)))).length) (len' := fun j => ((b1.set v4.toNat ((b1.getD v4.toNat []).set v33.toNat (((b2.Proc == ((v31.getD v33.toNat default).Proc)) && (decide (v4 < v33))) || ((b0.Starts.getD ((v31.getD v33.toNat default).Proc).toNat 0) == v4)))).getD j []).length) (f' := fun j c => cB (((b1.set v4.toNat ((b1.getD v4.toNat []).set v33.toNat (((b2.Proc == ((v31.getD v33.toNat default).Proc)) && (decide (v4 < v33))) || ((b0.Starts.getD ((v31.getD v33.toNat default).Proc).toNat 0) == v4)))).getD j []).getD c false) 0) rfl ((List.length_set).trans rfl) (fun j _ => (fun k => (ml_len k).trans ((fun _ => rfl) k)) j) (fun _ _ _ _ => rfl)) (Le.trans (Le.rep (t := 3) rfl (RepLe.ownLen ((List.length_set).trans rfl).symm)) (Le.keep (live := [1, 3, 4, 5, 16, 17, 18, 31, 32, 33]) (names := [0, 1, 2]) (nx := 275) rfl))
            · exact trivial
          · have hg84 : (decide (v4 < v33)) = true := hg84
            iterate 2 refine And.intro rfl ?_
            refine And.intro hs82 ?_
            refine And.intro ?_ ?_
            · refine And.intro rfl ?_
              refine SemOp.ofD rfl ?_
              refine And.intro ⟨idx_lt hs80, idx_lt hs82⟩ ?_
              refine ex_cellm b1 b1 (((b2.Proc == ((v31.getD v33.toNat default).Proc)) && (decide (v4 < v33))) || ((b0.Starts.getD ((v31.getD v33.toNat default).Proc).toNat 0) == v4)) (x := 1) (cell := cB) (d := false) rfl rfl (fun _ => rfl) (idx_lt hs80) (idx_lt hs82) (congrArg AV.tst (by simp only [hg83, hg84, sB, reduceIte])) ?_
              exact Le.trans (Le.mat (x := 1) (n' := (b1.set v4.toNat ((b1.getD v4.toNat []).set v33.toNat (((b2.Proc == ((v31.getD v33.toNat default).Proc)) && (decide (v4 < v33))) || ((b0.Starts.getD ((v31.getD v33.toNat default).Proc).toNat 0) == v4)))).length) (len' := fun j => ((b1.set v4.toNat ((b1.getD v4.toNat []).set v33.toNat (((b2.Proc == ((v31.getD v33.toNat default).Proc)) && (decide (v4 < v33))) || ((b0.Starts.getD ((v31.getD v33.toNat default).Proc).toNat 0) == v4)))).getD j []).length) (f' := fun j c => cB (((b1.set v4.toNat ((b1.getD v4.toNat []).set v33.toNat (((b2.Proc == ((v31.getD v33.toNat default).Proc)) && (decide (v4 < v33))) || ((b0.Starts.getD ((v31.getD v33.toNat default).Proc).toNat 0) == v4)))).getD j []).getD c false) 0) rfl ((List.length_set).trans rfl) (fun j _ => (fun k => (ml_len k).trans ((fun _ => rfl) k)) j) (fun _ _ _ _ => rfl)) (Le.trans (Le.rep (t := 3) rfl (RepLe.ownLen ((List.length_set).trans rfl).symm)) (Le.keep (live := [1, 3, 4, 5, 16, 17, 18, 31, 32, 33]) (names := [0, 1, 2]) (nx := 275) rfl))
            · exact trivial
        · have hg83 : (b2.Proc == ((v31.getD v33.toNat default).Proc)) = false := hg83
          iterate 7 refine And.intro rfl ?_
          refine And.intro (hs81 (by simp only [hg83, sB, reduceIte])) ?_
          iterate 5 refine And.intro rfl ?_
          refine And.intro hs82 ?_
          refine And.intro ?_ ?_
          · refine And.intro rfl ?_
            refine SemOp.ofD rfl ?_
            refine And.intro ⟨idx_lt hs80, idx_lt hs82⟩ ?_
            refine ex_cellm b1 b1 (((b2.Proc == ((v31.getD v33.toNat default).Proc)) && (decide (v4 < v33))) || ((b0.Starts.getD ((v31.getD v33.toNat default).Proc).toNat 0) == v4)) (x := 1) (cell := cB) (d := false) rfl rfl (fun _ => rfl) (idx_lt hs80) (idx_lt hs82) (congrArg AV.tst (by simp only [hg83, sB, reduceIte])) ?_
            exact Le.trans (Le.mat (x := 1) (n' := (b1.set v4.toNat ((b1.getD v4.toNat []).set v33.toNat (((b2.Proc == ((v31.getD v33.toNat default).Proc)) && (decide (v4 < v33))) || ((b0.Starts.getD ((v31.getD v33.toNat default).Proc).toNat 0) == v4)))).length) (len' := fun j => ((b1.set v4.toNat ((b1.getD v4.toNat []).set v33.toNat (((b2.Proc == ((v31.getD v33.toNat default).Proc)) && (decide (v4 < v33))) || ((b0.Starts.getD ((v31.getD v33.toNat default).Proc).toNat 0) == v4)))).getD j []).length) (f' := fun j c => cB (((b1.set v4.toNat ((b1.getD v4.toNat []).set v33.toNat (((b2.Proc == ((v31.getD v33.toNat default).Proc)) && (decide (v4 < v33))) || ((b0.Starts.getD ((v31.getD v33.toNat default).Proc).toNat 0) == v4)))).getD j []).getD c false) 0) rfl ((List.length_set).trans rfl) (fun j _ => (fun k => (ml_len k).trans ((fun _ => rfl) k)) j) (fun _ _ _ _ => rfl)) (Le.trans (Le.rep (t := 3) rfl (RepLe.ownLen ((List.length_set).trans rfl).symm)) (Le.keep (live := [1, 3, 4, 5, 16, 17, 18, 31, 32, 33]) (names := [0, 1, 2]) (nx := 275) rfl))
          · exact trivial
      refine CWP.regionT ⟨[(1, .ptr 0 0), (3, .own 1 1 0 ((b1.set v4.toNat ((b1.getD v4.toNat []).set v33.toNat (((b2.Proc == ((v31.getD v33.toNat default).Proc)) && (decide (v4 < v33))) || ((b0.Starts.getD ((v31.getD v33.toNat default).Proc).toNat 0) == v4)))).length)), (4, I v4), (5, .ptr 2 0), (16, api_Event.sl v16), (17, I v17), (18, I v18), (31, api_Event.sl v31), (32, I v32), (33, I (w64 (v33 + 1)))], [(0, .box (api_Shape.cs b0)), (1, .ml cB false (b1.set v4.toNat ((b1.getD v4.toNat []).set v33.toNat (((b2.Proc == ((v31.getD v33.toNat default).Proc)) && (decide (v4 < v33))) || ((b0.Starts.getD ((v31.getD v33.toNat default).Proc).toNat 0) == v4))))), (2, .box (api_Event.cs b2))], 3⟩ ?_ ?_
      · exact Le.trans (Le.keep (live := [1, 3, 4, 5, 16, 17, 18, 31, 32, 33]) (names := [0, 1, 2]) (nx := 291) rfl) (Le.keep (live := [1, 3, 4, 5, 16, 17, 18, 31, 32, 33]) (names := [0, 1, 2]) (nx := 3) rfl)
      exact ⟨m, Nat.lt_succ_self m, _, _, _, _, _, _, _, _, _, _, rfl, h⟩
    · have h := ite_f h hc
      refine CWP.exitL (Le.keep (live := [1, 3, 16, 17, 18]) (names := [0, 1]) (nx := 2) rfl) (s' := ⟨[(1, .ptr 0 0), (3, .own 1 1 0 b1.length), (16, api_Event.sl v16), (17, I v17), (18, I v18)], [(0, .box (api_Shape.cs b0)), (1, .ml cB false b1)], 2⟩) ?_
      exact hok _ _ _ _ _ (Option.some.inj h).symm
theorem t42_2 {n fuel : Nat} {b0 : api_Shape} {b1 : List (List Bool)} {v16 : List api_Event} {v17 : Int} {v18 : Int} {out : O42_2} (h : l42_2 n fuel b0 b1 v16 v17 v18 = some out) {Q : Ex → AS → Prop} (hok : ∀ b0, out = .ok b0 → Q .normal ⟨[(3, .own 0 1 0 b0.length)], [(0, .ml cB false b0)], 1⟩) : CWP Try.prog Try.f42.ntmps code42_2 Q ⟨[(1, .ptr 0 0), (3, .own 1 1 0 b1.length), (16, api_Event.sl v16), (17, I v17), (18, I v18)], [(0, .box (api_Shape.cs b0)), (1, .ml cB false b1)], 2⟩ := by
  refine CWP.block ?_
  refine CWP.loop (fun k s => ∃ b0 : api_Shape, ∃ b1 : List (List Bool), ∃ v16 : List api_Event, ∃ v17 : Int, ∃ v18 : Int, s = ⟨[(1, .ptr 0 0), (3, .own 1 1 0 b1.length), (16, api_Event.sl v16), (17, I v17), (18, I v18)], [(0, .box (api_Shape.cs b0)), (1, .ml cB false b1)], 2⟩ ∧ l42_2 n k b0 b1 v16 v17 v18 = some out) fuel ⟨b0, b1, v16, v17, v18, rfl, h⟩ ?_
  clear h
  rintro k s ⟨b0, b1, v16, v17, v18, rfl, h⟩
  cases k with
  | zero => cases h
  | succ m =>
    rw [l42_2] at h
    refine CWP.seq ?_
    refine CWP.regionT ⟨[(1, .ptr 0 0), (3, .own 1 1 0 b1.length), (16, api_Event.sl v16), (17, I v17), (18, I v18), (19, .tst (decide (v18 < v17)))], [(0, .box (api_Shape.cs b0)), (1, .ml cB false b1)], 10⟩ ?_ ?_
    · exact Le.keep (live := [1, 3, 16, 17, 18, 19]) (names := [0, 1]) (nx := 10) rfl
    refine CWP.seq ?_
    refine CWP.cond (And.intro (fun hc => ?_) (fun hc => ?_))
    · have h := ite_t h hc
      refine CWP.skip ?_
      refine CWP.seq ?_
      refine CWP.block ?_
      refine CWP.seq ?_
      obtain ⟨hs87, h⟩ := ite_some h
      refine CWP.regionT ⟨[(1, .ptr 0 0), (3, .own 1 1 0 b1.length), (4, I v18), (5, .ptr 34 0), (16, api_Event.sl v16), (17, I v17), (18, I v18)], [(0, .box (api_Shape.cs b0)), (1, .ml cB false b1), (34, .box [I ((v16.getD v18.toNat default).Proc), I ((v16.getD v18.toNat default).Inst), I ((v16.getD v18.toNat default).Kind), I ((v16.getD v18.toNat default).Obj)])], 58⟩ ?_ ?_
      · refine And.intro hs87 ?_
        refine SemOp.ofT ?_
        refine ex_refl ?_
        exact Le.keep (live := [1, 3, 4, 5, 16, 17, 18]) (names := [0, 1, 34]) (nx := 58) rfl
      refine CWP.seq ?_
      obtain ⟨hs88, h⟩ := ite_some h
      obtain ⟨hs89, h⟩ := ite_some h
      refine CWP.regionT ⟨[(1, .ptr 0 0), (3, .own 1 1 0 ((b1.set v18.toNat (List.replicate (b0.Events.length : Int).toNat (false : Bool))).length)), (4, I v18), (5, .ptr 34 0), (16, api_Event.sl v16), (17, I v17), (18, I v18)], [(0, .box (api_Shape.cs b0)), (1, .ml cB false (b1.set v18.toNat (List.replicate (b0.Events.length : Int).toNat (false : Bool)))), (34, .box [I ((v16.getD v18.toNat default).Proc), I ((v16.getD v18.toNat default).Inst), I ((v16.getD v18.toNat default).Kind), I ((v16.getD v18.toNat default).Obj)])], 122⟩ ?_ ?_
      · refine SemOp.ofT ?_
        refine And.intro hs88 ?_
        refine ex_arr (List.replicate (b0.Events.length : Int).toNat (false : Bool)) (x := 98) (sz := 1) (cell := cB) (d := false) rfl (li_rep (z := (false : Bool)) (by intro _ _; rfl)) ?_
        refine And.intro hs89 ?_
        refine SemOp.storeRow rfl rfl rfl rfl (Nat.le_refl _) (idx_lt hs89) (fun _ => trivial) trivial rfl rfl ?_
        refine Exists.intro ⟨[(1, .ptr 0 0), (3, .own 1 1 0 b1.length), (4, I v18), (5, .ptr 34 0), (16, api_Event.sl v16), (17, I v17), (18, I v18), (23, .own 1 1 0 b1.length), (24, I v18), (25, .ptr 0 0), (26, api_Event.sl b0.Events), (27, I (b0.Events.length : Int)), (28, .any), (29, .elt 1 1 (v18.toNat + 0) 0)], [(0, .box (api_Shape.cs b0)), (1, .mat b1.length (fun j => ((b1.set v18.toNat (List.replicate (b0.Events.length : Int).toNat (false : Bool))).getD j []).length) fun j c => cB (((b1.set v18.toNat (List.replicate (b0.Events.length : Int).toNat (false : Bool))).getD j []).getD c false) 0), (34, .box [I ((v16.getD v18.toNat default).Proc), I ((v16.getD v18.toNat default).Inst), I ((v16.getD v18.toNat default).Kind), I ((v16.getD v18.toNat default).Obj)])], 58⟩ (And.intro (LeM.mat (x := 1) rfl rfl (ml_rowm (cell := cB) (d := false) List.length_replicate rfl (idx_lt hs89)).2.1 (ml_rowm (cell := cB) (d := false) List.length_replicate rfl (idx_lt hs89)).2.2) ?_)
        exact Le.trans (Le.mat (x := 1) (n' := (b1.set v18.toNat (List.replicate (b0.Events.length : Int).toNat (false : Bool))).length) (len' := fun j => ((b1.set v18.toNat (List.replicate (b0.Events.length : Int).toNat (false : Bool))).getD j []).length) (f' := fun j c => cB (((b1.set v18.toNat (List.replicate (b0.Events.length : Int).toNat (false : Bool))).getD j []).getD c false) 0) rfl ((List.length_set).trans rfl) (fun j _ => (fun _ => rfl) j) (fun _ _ _ _ => rfl)) (Le.trans (Le.rep (t := 3) rfl (RepLe.ownLen ((List.length_set).trans rfl).symm)) (Le.keep (live := [1, 3, 4, 5, 16, 17, 18]) (names := [0, 1, 34]) (nx := 122) rfl))
      refine CWP.seq ?_
      refine CWP.regionT ⟨[(1, .ptr 0 0), (3, .own 1 1 0 ((b1.set v18.toNat (List.replicate (b0.Events.length : Int).toNat (false : Bool))).length)), (4, I v18), (5, .ptr 34 0), (16, api_Event.sl v16), (17, I v17), (18, I v18), (31, api_Event.sl b0.Events), (32, I (b0.Events.length : Int)), (33, I 0)], [(0, .box (api_Shape.cs b0)), (1, .ml cB false (b1.set v18.toNat (List.replicate (b0.Events.length : Int).toNat (false : Bool)))), (34, .box [I ((v16.getD v18.toNat default).Proc), I ((v16.getD v18.toNat default).Inst), I ((v16.getD v18.toNat default).Kind), I ((v16.getD v18.toNat default).Obj)])], 154⟩ ?_ ?_
      · exact Le.keep (live := [1, 3, 4, 5, 16, 17, 18, 31, 32, 33]) (names := [0, 1, 34]) (nx := 154) rfl
      generalize hn90 : l42_1 n n b0 (b1.set v18.toNat (List.replicate (b0.Events.length : Int).toNat (false : Bool))) (v16.getD v18.toNat default) v16 v17 v18 b0.Events (b0.Events.length : Int) 0 v18 = o90 at h
      rcases o90 with _ | o90
      · cases h
      refine CWP.weaken (s' := ⟨[(1, .ptr 0 0), (3, .own 1 1 0 ((b1.set v18.toNat (List.replicate (b0.Events.length : Int).toNat (false : Bool))).length)), (4, I v18), (5, .ptr 2 0), (16, api_Event.sl v16), (17, I v17), (18, I v18), (31, api_Event.sl b0.Events), (32, I (b0.Events.length : Int)), (33, I 0)], [(0, .box (api_Shape.cs b0)), (1, .ml cB false (b1.set v18.toNat (List.replicate (b0.Events.length : Int).toNat (false : Bool)))), (2, .box [I ((v16.getD v18.toNat default).Proc), I ((v16.getD v18.toNat default).Inst), I ((v16.getD v18.toNat default).Kind), I ((v16.getD v18.toNat default).Obj)])], 3⟩) (Le.ren [(0, 0), (1, 1), (2, 34)] rfl ⟨rfl, rfl, rfl, rfl, rfl, rfl, rfl, rfl, rfl, rfl, trivial⟩ ⟨⟨_, rfl, rfl⟩, ⟨_, rfl, rfl⟩, ⟨_, rfl, rfl⟩, trivial⟩) ?_
      refine t42_1 hn90 ?_
      · intro b0_91 b1_91 v16_91 v17_91 v18_91 e
        subst e
        dsimp only at h
        refine CWP.regionT ⟨[(1, .ptr 0 0), (3, .own 1 1 0 b1_91.length), (16, api_Event.sl v16_91), (17, I v17_91), (18, I (w64 (v18_91 + 1)))], [(0, .box (api_Shape.cs b0_91)), (1, .ml cB false b1_91)], 2⟩ ?_ ?_
        · exact Le.trans (Le.keep (live := [1, 3, 16, 17, 18]) (names := [0, 1]) (nx := 18) rfl) (Le.keep (live := [1, 3, 16, 17, 18]) (names := [0, 1]) (nx := 2) rfl)
        exact ⟨m, Nat.lt_succ_self m, _, _, _, _, _, rfl, h⟩
    · have h := ite_f h hc
      refine CWP.exitL (Le.ren [(0, 1)] rfl ⟨rfl, trivial⟩ ⟨⟨_, rfl, rfl⟩, trivial⟩) (s' := ⟨[(3, .own 0 1 0 b1.length)], [(0, .ml cB false b1)], 1⟩) ?_
      exact hok _ (Option.some.inj h).symm
theorem wf42 {n : Nat} {p0 : api_Shape} {r : List (List Bool)} (h : s42 n p0 = some r) : CWP Try.prog Try.f42.ntmps code42 (AtE (E42 r)) ⟨[(0, .agg (api_Shape.cs p0))], [], 0⟩ := by
  unfold s42 at h
  refine CWP.seq ?_
  refine CWP.regionT ⟨[(1, .ptr 0 0)], [(0, .box (api_Shape.cs p0))], 16⟩ ?_ ?_
  · exact Le.keep (live := [1]) (names := [0]) (nx := 16) rfl
  refine CWP.seq ?_
  refine CWP.seq ?_
  obtain ⟨r68, hr68, h⟩ := Option.bind_eq_some_iff.1 h
  refine CWP.regionT ⟨[(1, .ptr 0 0), (10, .tst (r68 != 0))], [(0, .box (api_Shape.cs p0))], 40⟩ ?_ ?_
  · refine FC.semT rfl rfl rfl trivial (c37 hr68) (Or.inl rfl) ?_
    refine ex_refl ?_
    exact Le.keep (live := [1, 10]) (names := [0]) (nx := 40) rfl
  refine CWP.cond (And.intro (fun hc => ?_) (fun hc => ?_))
  · have h := ite_t h hc
    refine CWP.seq ?_
    refine CWP.regionT ⟨[(2, .raw (.slice none 0 0))], [], 48⟩ ?_ ?_
    · exact Le.keep (live := [2]) (names := []) (nx := 48) rfl
    refine CWP.weaken (s' := ⟨[(2, .own 0 1 0 (([] : List (List Bool)).length))], [(0, .ml cB false ([] : List (List Bool)))], 1⟩) (Le.trans (Le.nilMat (t := 2) rfl (fun _ _ => .any) (fun _ => 0) trivial) (Le.trans (Le.mat (x := 48) (n' := ([] : List (List Bool)).length) (len' := fun j => (([] : List (List Bool)).getD j []).length) (f' := fun j c => cB ((([] : List (List Bool)).getD j []).getD c false) 0) rfl rfl (fun j hj => absurd hj (Nat.not_lt_zero j)) (fun j _ hj _ => absurd hj (Nat.not_lt_zero j))) (Le.ren [(0, 48)] rfl ⟨rfl, trivial⟩ ⟨⟨_, rfl, rfl⟩, trivial⟩))) ?_
    refine CWP.ret ?_
    have e := Option.some.inj h
    subst e
    exact ⟨rfl, ⟨⟨_, rfl, rfl⟩, trivial⟩, trivial⟩
  · have h := ite_f h hc
    refine CWP.skip ?_
    refine CWP.seq ?_
    obtain ⟨hs69, h⟩ := ite_some h
    refine CWP.regionT ⟨[(1, .ptr 0 0), (3, .own 64 1 0 ((List.replicate (p0.Events.length : Int).toNat ([] : List Bool)).length))], [(0, .box (api_Shape.cs p0)), (64, .ml cB false (List.replicate (p0.Events.length : Int).toNat ([] : List Bool)))], 80⟩ ?_ ?_
    · refine SemOp.ofT ?_
      refine And.intro hs69 ?_
      refine Exists.intro ⟨[(1, .ptr 0 0), (10, .tst (r68 != 0)), (11, .ptr 0 0), (12, api_Event.sl p0.Events), (13, I (p0.Events.length : Int)), (14, .own 64 1 0 ((p0.Events.length : Int).toNat))], [(0, .box (api_Shape.cs p0)), (64, .mat ((p0.Events.length : Int).toNat) (fun j => ((List.replicate (p0.Events.length : Int).toNat ([] : List Bool)).getD j []).length) fun j c => cB (((List.replicate (p0.Events.length : Int).toNat ([] : List Bool)).getD j []).getD c false) 0)], 40⟩ (And.intro (LeM.trans (LeM.arrMat (x := 64) rfl (fun _ _ => rfl) fun _ _ => .any) (LeM.mat (x := 64) (n' := (p0.Events.length : Int).toNat) rfl rfl (fun j _ => rep_len _ j) fun j _ _ hc => absurd hc (Nat.not_lt_zero _))) ?_)
      exact Le.trans (Le.mat (x := 64) (n' := (List.replicate (p0.Events.length : Int).toNat ([] : List Bool)).length) (len' := fun j => ((List.replicate (p0.Events.length : Int).toNat ([] : List Bool)).getD j []).length) (f' := fun j c => cB (((List.replicate (p0.Events.length : Int).toNat ([] : List Bool)).getD j []).getD c false) 0) rfl List.length_replicate (fun j _ => (fun _ => rfl) j) (fun _ _ _ _ => rfl)) (Le.trans (Le.rep (t := 3) rfl (RepLe.ownLen (List.length_replicate).symm)) (Le.keep (live := [1, 3]) (names := [0, 64]) (nx := 80) rfl))
    refine CWP.seq ?_
    refine CWP.seq ?_
    refine CWP.regionT ⟨[(1, .ptr 0 0), (3, .own 64 1 0 ((List.replicate (p0.Events.length : Int).toNat ([] : List Bool)).length)), (16, api_Event.sl p0.Events), (17, I (p0.Events.length : Int)), (18, I 0)], [(0, .box (api_Shape.cs p0)), (64, .ml cB false (List.replicate (p0.Events.length : Int).toNat ([] : List Bool)))], 112⟩ ?_ ?_
    · exact Le.keep (live := [1, 3, 16, 17, 18]) (names := [0, 64]) (nx := 112) rfl
    generalize hn92 : l42_2 n n p0 (List.replicate (p0.Events.length : Int).toNat ([] : List Bool)) p0.Events (p0.Events.length : Int) 0 = o92 at h
    rcases o92 with _ | o92
    · cases h
    refine CWP.weaken (s' := ⟨[(1, .ptr 0 0), (3, .own 1 1 0 ((List.replicate (p0.Events.length : Int).toNat ([] : List Bool)).length)), (16, api_Event.sl p0.Events), (17, I (p0.Events.length : Int)), (18, I 0)], [(0, .box (api_Shape.cs p0)), (1, .ml cB false (List.replicate (p0.Events.length : Int).toNat ([] : List Bool)))], 2⟩) (Le.ren [(0, 0), (1, 64)] rfl ⟨rfl, rfl, rfl, rfl, rfl, trivial⟩ ⟨⟨_, rfl, rfl⟩, ⟨_, rfl, rfl⟩, trivial⟩) ?_
    refine t42_2 hn92 ?_
    · intro b0_93 e
      subst e
      dsimp only at h
      refine CWP.seq ?_
      obtain ⟨r94, hr94, h⟩ := Option.bind_eq_some_iff.1 h
      refine CWP.regionT ⟨[(2, .own 9 1 0 r94.length)], [(9, .ml cB false r94)], 25⟩ ?_ ?_
      · refine FC.semT rfl rfl rfl (Nat.le_refl _) (c26 hr94) (Or.inr (Or.inr rfl)) ?_
        refine ex_refl ?_
        exact Le.keep (live := [2]) (names := [9]) (nx := 25) rfl
      refine CWP.weaken (s' := ⟨[(2, .own 0 1 0 r94.length)], [(0, .ml cB false r94)], 1⟩) (Le.ren [(0, 9)] rfl ⟨rfl, trivial⟩ ⟨⟨_, rfl, rfl⟩, trivial⟩) ?_
      refine CWP.ret ?_
      have e := Option.some.inj h
      subst e
      exact ⟨rfl, ⟨⟨_, rfl, rfl⟩, trivial⟩, trivial⟩
theorem c42 {n : Nat} {p0 : api_Shape} {r : List (List Bool)} (h : s42 n p0 = some r) : FC Try.prog 42 [.agg (api_Shape.cs p0)] (.own 0 1 0 r.length) [(0, .ml cB false r)] true := FC.new rfl rfl (RC.ofE (st := []) (r := .own 0 1 0 r.length) (st' := [(0, .ml cB false r)]) (pins := []) 0 [(0, 0)] (fn := Try.f42) (cc := code42) (res := .one 2) (by kernel_rfl) (by kernel_rfl) tr42 (by kernel_rfl) (Nat.le_of_ble_eq_true rfl) rfl rfl (fun β => wf42 h)) rfl ⟨(fun _ _ _ _ => rfl), trivial⟩
theorem loopEv {σ O : Type} {P : O → Prop} {Inv : Nat → σ → Prop} {N : Nat} (f : Nat → σ → Nat → Option O)
    (hs : ∀ m k st, k < N → Inv k st → (∀ st', Inv (k + 1) st' → Ev (f m st' (k + 1)) P) → Ev (f (m + 1) st k) P)
    (he : ∀ m st, Inv N st → Ev (f (m + 1) st N) P) : ∀ m k st, k ≤ N → N < m + k → Inv k st → Ev (f m st k) P := by
  intro m
  induction m with
  | zero => intro k st h1 h2; omega
  | succ m ih =>
    intro k st h1 h2 h
    by_cases hk : k < N
    · exact hs m k st hk h fun st' h' => ih (k + 1) st' (by omega) (by omega) h'
    · have : k = N := by omega
      subst this; exact he m st h
abbrev mg (b : List (List Bool)) (i j : Nat) : Bool := (b.getD i []).getD j false
def Sq (N : Nat) (b : List (List Bool)) : Prop := b.length = N ∧ ∀ i, i < N → (b.getD i []).length = N
theorem mg_set {N : Nat} {b : List (List Bool)} (h : Sq N b) {i j : Nat} {v : Bool} (hi : i < N) (hj : j < N) (p q : Nat) : mg (b.set i ((b.getD i []).set j v)) p q = if p = i ∧ q = j then v else mg b p q := by
  simp only [mg]
  rw [getD_set (by rw [h.1]; exact hi)]
  by_cases hp : p = i
  · subst hp
    rw [if_pos rfl, getD_set (by rw [h.2 p hi]; exact hj)]
    by_cases hq : q = j
    · simp [hq]
    · simp [hq]
  · simp [hp]
theorem Sq.set {N : Nat} {b : List (List Bool)} (h : Sq N b) {i j : Nat} {v : Bool} (hi : i < N) : Sq N (b.set i ((b.getD i []).set j v)) := by
  refine ⟨by rw [List.length_set]; exact h.1, fun p hp => ?_⟩
  rw [getD_set (by rw [h.1]; exact hi)]
  by_cases he : p = i
  · subst he; rw [if_pos rfl, List.length_set]; exact h.2 p hp
  · rw [if_neg he]; exact h.2 p hp
def Mx (N : Nat) (b : List (List Bool)) (D : Nat → Nat → Bool) : Prop := Sq N b ∧ ∀ p q, p < N → q < N → mg b p q = D p q
def clD (D : Nat → Nat → Bool) (k p q : Nat) : Bool := D p q || (D p k && D k q)
def midD (D : Nat → Nat → Bool) (k i j p q : Nat) : Bool := if p < i ∨ (p = i ∧ q < j) then clD D k p q else D p q
theorem Mx.congr {N : Nat} {b : List (List Bool)} {D D' : Nat → Nat → Bool} (h : Mx N b D) (e : ∀ p q, p < N → q < N → D p q = D' p q) : Mx N b D' := ⟨h.1, fun p q hp hq => (h.2 p q hp hq).trans (e p q hp hq)⟩
theorem Mx.step {N : Nat} {b : List (List Bool)} {D : Nat → Nat → Bool} {k i j : Nat} (h : Mx N b (midD D k i j)) (hk : k < N) (hi : i < N) (hj : j < N) :
    Mx N (b.set i ((b.getD i []).set j (mg b i j || (mg b i k && mg b k j)))) (midD D k i (j + 1)) := by
  refine ⟨h.1.set hi, fun p q hp hq => ?_⟩
  rw [mg_set h.1 hi hj]
  have e1 : mg b i j = D i j := by rw [h.2 i j hi hj]; simp [midD]
  have e2 : mg b i k = D i k := by
    rw [h.2 i k hi hk]
    simp only [midD, clD]
    split
    · cases D i k <;> simp
    · rfl
  have e3 : mg b k j = D k j := by
    rw [h.2 k j hk hj]
    simp only [midD, clD]
    split
    · cases D k k <;> simp
    · rfl
  rw [e1, e2, e3]
  by_cases hpq : p = i ∧ q = j
  · obtain ⟨rfl, rfl⟩ := hpq
    simp [midD, clD]
  · rw [if_neg hpq, h.2 p q hp hq]
    simp only [midD]
    by_cases hc : p < i ∨ (p = i ∧ q < j)
    · rw [if_pos hc, if_pos (by omega)]
    · rw [if_neg hc, if_neg (by omega)]
theorem ev26_2 {n N i k : Nat} {D : Nat → Nat → Bool} {v25 v26 v30 v31 : Int} (hN : N ≤ 40) (hk : k < N) (hi : i < N) (m : Nat) (b : List (List Bool)) (hm : N < m) (h : Mx N b (midD D k i 0)) :
    Ev (l26_2 n m b v25 v26 v30 v31 N 0 k i) fun o => ∃ b', o = .ok b' v25 v26 v30 v31 k ∧ Mx N b' (midD D k (i + 1) 0) := by
  refine loopEv (N := N) (Inv := fun j b => Mx N b (midD D k i j)) (fun m b (j : Nat) => l26_2 n m b v25 v26 v30 v31 N j k i) ?_ ?_ m 0 b (Nat.zero_le _) (by omega) h
  · intro m j b hj h ih
    show Ev (l26_2 n (m + 1) b v25 v26 v30 v31 N j k i) _
    rw [l26_2]
    have h1 := h.1.1
    have h2 := h.1.2 i hi
    have h3 := h.1.2 k hk
    refine Ev.ite (fun hc => ?_) (fun hc => by simp only [decide_eq_false_iff_not] at hc; omega)
    simp only [Int.toNat_natCast]
    refine Ev.ask ⟨by omega, by omega⟩ ?_
    refine Ev.ask ⟨by omega, by omega⟩ ?_
    refine Ev.ask ⟨by omega, by omega⟩ ?_
    refine Ev.ask (fun _ => ⟨by omega, by omega⟩) ?_
    refine Ev.ask (fun _ => ⟨by omega, by omega⟩) ?_
    refine Ev.ask (fun _ _ => ⟨by omega, by omega⟩) ?_
    refine Ev.ask (fun _ _ => ⟨by omega, by omega⟩) ?_
    refine Ev.ask ⟨by omega, by omega⟩ ?_
    rw [w64_id (by omega) (by omega)]
    exact ih _ (h.step hk hi hj)
  · intro m b h
    show Ev (l26_2 n (m + 1) b v25 v26 v30 v31 N N k i) _
    rw [l26_2]
    refine Ev.ite (fun hc => by simp only [decide_eq_true_eq] at hc; omega) (fun hc => Ev.some ⟨b, rfl, h.congr fun p q hp hq => ?_⟩)
    simp only [midD]
    by_cases hc : p < i ∨ (p = i ∧ q < N)
    · rw [if_pos hc, if_pos (by omega)]
    · rw [if_neg hc, if_neg (by omega)]
theorem ev26_3 {n N k : Nat} {D : Nat → Nat → Bool} {v25 v26 : Int} (hN : N ≤ 40) (hn : 64 ≤ n) (hk : k < N) (m : Nat) (b : List (List Bool)) (hm : N < m) (h : Mx N b D) :
    Ev (l26_3 n m b v25 v26 N 0 k) fun o => ∃ b', o = .ok b' v25 v26 ∧ Mx N b' (clD D k) := by
  refine loopEv (N := N) (Inv := fun i b => Mx N b (midD D k i 0)) (fun m b (i : Nat) => l26_3 n m b v25 v26 N i k) ?_ ?_ m 0 b (Nat.zero_le _) (by omega) (h.congr fun p q _ _ => by simp [midD])
  · intro m i b hi h ih
    show Ev (l26_3 n (m + 1) b v25 v26 N i k) _
    rw [l26_3]
    refine Ev.ite (fun hc => ?_) (fun hc => by simp only [decide_eq_false_iff_not] at hc; omega)
    obtain ⟨o, ho, b', rfl, h'⟩ := ev26_2 (n := n) (v25 := v25) (v26 := v26) (v30 := N) (v31 := i) hN hk hi n b (by omega) h
    rw [h.1.1, ho]
    show Ev (l26_3 n m b' v25 v26 N (w64 (i + 1)) k) _
    rw [w64_id (by omega) (by omega)]
    exact ih _ h'
  · intro m b h
    show Ev (l26_3 n (m + 1) b v25 v26 N N k) _
    rw [l26_3]
    refine Ev.ite (fun hc => by simp only [decide_eq_true_eq] at hc; omega) (fun hc => Ev.some ⟨b, rfl, h.congr fun p q hp hq => ?_⟩)
    simp only [midD]
    rw [if_pos (by omega)]
def wD (D : Nat → Nat → Bool) : Nat → Nat → Nat → Bool
  | 0 => D
  | k + 1 => clD (wD D k) k
theorem ev26_4 {n N : Nat} {D : Nat → Nat → Bool} (hN : N ≤ 40) (hn : 64 ≤ n) (m : Nat) (b : List (List Bool)) (hm : N < m) (h : Mx N b D) :
    Ev (l26_4 n m b N 0) fun o => ∃ b', o = .ok b' ∧ Mx N b' (wD D N) := by
  refine loopEv (N := N) (Inv := fun k b => Mx N b (wD D k)) (fun m b (k : Nat) => l26_4 n m b N k) ?_ ?_ m 0 b (Nat.zero_le _) (by omega) h
  · intro m k b hk h ih
    show Ev (l26_4 n (m + 1) b N k) _
    rw [l26_4]
    refine Ev.ite (fun hc => ?_) (fun hc => by simp only [decide_eq_false_iff_not] at hc; omega)
    obtain ⟨o, ho, b', rfl, h'⟩ := ev26_3 (n := n) (v25 := N) (v26 := k) hN hn hk n b (by omega) h
    rw [h.1.1, ho]
    show Ev (l26_4 n m b' N (w64 (k + 1))) _
    rw [w64_id (by omega) (by omega)]
    exact ih _ h'
  · intro m b h
    show Ev (l26_4 n (m + 1) b N N) _
    rw [l26_4]
    exact Ev.ite (fun hc => by simp only [decide_eq_true_eq] at hc; omega) (fun hc => Ev.some ⟨b, rfl, h⟩)
theorem ev26_1 {n N : Nat} {c : List (List Bool)} (hN : N ≤ 40) (hc : Sq N c) (m : Nat) (hm : N < m) :
    Ev (l26_1 n m [] c N 0) fun o => o = .ok c := by
  refine loopEv (N := N) (Inv := fun k b => b = c.take k) (fun m b (k : Nat) => l26_1 n m b c N k) ?_ ?_ m 0 [] (Nat.zero_le _) (by omega) (by simp)
  · rintro m k b hk rfl ih
    show Ev (l26_1 n (m + 1) (c.take k) c N k) _
    rw [l26_1]
    have h1 := hc.1
    have h2 := hc.2 k hk
    refine Ev.ite (fun hc => ?_) (fun hc => by simp only [decide_eq_false_iff_not] at hc; omega)
    refine Ev.ask ⟨by omega, by omega⟩ ?_
    simp only [Int.toNat_natCast]
    rw [s41, if_pos (by omega)]
    simp only [Option.bind_some]
    refine Ev.ask (by rw [List.length_take]; omega) ?_
    rw [w64_id (by omega) (by omega)]
    refine ih _ ?_
    rw [getD_lt (by omega), List.take_append_getElem]
  · rintro m b rfl
    show Ev (l26_1 n (m + 1) (c.take N) c N N) _
    rw [l26_1]
    refine Ev.ite (fun hc => by simp only [decide_eq_true_eq] at hc; omega) (fun _ => Ev.some ?_)
    rw [List.take_of_length_le (by rw [hc.1]; omega)]
theorem ev40 {n N : Nat} {c : List (List Bool)} (hN : N ≤ 40) (hn : 64 ≤ n) (hc : Sq N c) : Ev (s40 n c) fun r => r = true := by
  have h : Ev (l67_dfn61fp36__1 n n c c N 0) fun o => o = .ok := by
    refine loopEv (N := N) (Inv := fun k _ => True) (fun m (_ : Unit) (k : Nat) => l67_dfn61fp36__1 n m c c N k) ?_ ?_ n 0 () (Nat.zero_le _) (by omega) trivial
    · intro m k _ hk _ ih
      show Ev (l67_dfn61fp36__1 n (m + 1) c c N k) _
      rw [l67_dfn61fp36__1]
      have h1 := hc.1
      have h2 := hc.2 k hk
      refine Ev.ite (fun hc => ?_) (fun hc => by simp only [decide_eq_false_iff_not] at hc; omega)
      refine Ev.ask ⟨by omega, by omega⟩ ?_
      simp only [Int.toNat_natCast, s61_dfp36, Option.bind_some]
      rw [h1, h2]
      simp only [bne_self_eq_false, Bool.false_eq_true, if_false]
      rw [w64_id (by omega) (by omega)]
      exact ih () trivial
    · intro m _ _
      show Ev (l67_dfn61fp36__1 n (m + 1) c c N N) _
      rw [l67_dfn61fp36__1]
      exact Ev.ite (fun hc => by simp only [decide_eq_true_eq] at hc; omega) (fun _ => Ev.some rfl)
  obtain ⟨o, ho, rfl⟩ := h
  unfold s40 s60_dfn61fp36 s67_dfn61fp36
  rw [hc.1, ho]
  rw [if_pos (by simp only [decide_eq_true_eq]; omega)]
  exact Ev.some (by simp; omega)
theorem ev26 {n N : Nat} {c : List (List Bool)} {D : Nat → Nat → Bool} (hN : N ≤ 40) (hn : 64 ≤ n) (hc : Mx N c D) : Ev (s26 n c) fun r => Mx N r (wD D N) := by
  unfold s26
  refine Ev.bind (ev40 hN hn hc.1) ?_
  rintro _ rfl
  obtain ⟨o, ho, rfl⟩ := ev26_1 (n := n) hN hc.1 n (by omega)
  obtain ⟨o, ho', b, rfl, hb⟩ := ev26_4 (n := n) hN hn n c (by omega) hc
  simp only [Bool.not_true, Bool.false_eq_true, if_false]
  rw [hc.1.1, ho]
  dsimp only
  rw [hc.1.1, ho']
  exact Ev.some hb
inductive PK (E : Nat → Nat → Prop) (K : Nat) : Nat → Nat → Prop
  | edge {i j : Nat} (h : E i j) : PK E K i j
  | step {i k j : Nat} (h : PK E K i k) (hk : k < K) (g : E k j) : PK E K i j
theorem PK.split {E : Nat → Nat → Prop} {k i j : Nat} (h : PK E (k + 1) i j) : PK E k i j ∨ (PK E k i k ∧ PK E k k j) := by
  induction h with
  | edge h => exact .inl (.edge h)
  | @step m j h hm g ih =>
    by_cases he : m = k
    · subst he
      rcases ih with ih | ih
      · exact .inr ⟨ih, .edge g⟩
      · exact .inr ⟨ih.1, .edge g⟩
    · rcases ih with ih | ih
      · exact .inl (.step ih (by omega) g)
      · exact .inr ⟨ih.1, .step ih.2 (by omega) g⟩
theorem wD_path {D : Nat → Nat → Bool} : ∀ K i j, wD D K i j = true → Path (fun i j => D i j = true) i j := by
  intro K
  induction K with
  | zero => intro i j h; exact .edge h
  | succ K ih =>
    intro i j h
    simp only [wD, clD, Bool.or_eq_true, Bool.and_eq_true] at h
    rcases h with h | h
    · exact ih i j h
    · exact (ih _ _ h.1).trans (ih _ _ h.2)
theorem PK_wD {D : Nat → Nat → Bool} : ∀ K i j, PK (fun i j => D i j = true) K i j → wD D K i j = true := by
  intro K
  induction K with
  | zero =>
    intro i j h
    cases h with
    | edge h => exact h
    | step _ h _ => omega
  | succ K ih =>
    intro i j h
    simp only [wD, clD, Bool.or_eq_true, Bool.and_eq_true]
    rcases h.split with h | h
    · exact .inl (ih _ _ h)
    · exact .inr ⟨ih _ _ h.1, ih _ _ h.2⟩
theorem Path.pk {E : Nat → Nat → Prop} {N i j : Nat} (hE : ∀ i j, E i j → i < N ∧ j < N) (h : Path E i j) : PK E N i j := by
  induction h with
  | edge h => exact .edge h
  | step h g ih => exact .step ih (hE _ _ g).1 g
def E0b (s : api_Shape) (i k : Nat) : Bool := ((s.Events.getD i default).Proc == (s.Events.getD k default).Proc && decide (i < k)) || (s.Starts.getD (s.Events.getD k default).Proc.toNat 0 == (i : Int))
def Q42 (s : api_Shape) (N i j : Nat) (b : List (List Bool)) : Prop := b.length = N ∧ (∀ p, p < i → (b.getD p []).length = N ∧ ∀ q, q < N → mg b p q = E0b s p q) ∧ (b.getD i []).length = N ∧ ∀ q, q < j → mg b i q = E0b s i q
theorem ev42_1 {s : api_Shape} {n N i : Nat} {v17 v18 : Int} (hg : Good s) (hN : s.Events.length = N) (hi : i < N) (m : Nat) (hm : N < m) (b : List (List Bool)) (h : Q42 s N i 0 b) :
    Ev (l42_1 n m s b (s.Events.getD i default) s.Events v17 v18 s.Events N 0 i) fun o => ∃ b', o = .ok s b' s.Events v17 v18 ∧ Q42 s N i N b' := by
  have hb := hg.n
  refine loopEv (N := N) (Inv := fun j b => Q42 s N i j b) (fun m b (j : Nat) => l42_1 n m s b (s.Events.getD i default) s.Events v17 v18 s.Events N j i) ?_ ?_ m 0 b (Nat.zero_le _) (by omega) h
  · rintro m j b hj ⟨h1, h2, h3, h4⟩ ih
    show Ev (l42_1 n (m + 1) s b (s.Events.getD i default) s.Events v17 v18 s.Events N j i) _
    rw [l42_1]
    refine Ev.ite (fun hc => ?_) (fun hc => by simp only [decide_eq_false_iff_not] at hc; omega)
    obtain ⟨⟨g1, g2, _⟩, _⟩ := hg.ev j (by omega)
    simp only [Int.toNat_natCast]
    refine Ev.ask ⟨by omega, by omega⟩ ?_
    refine Ev.ask ⟨by omega, by omega⟩ ?_
    refine Ev.ask (fun _ => ⟨g1, g2⟩) ?_
    refine Ev.ask ⟨by omega, by omega⟩ ?_
    rw [w64_id (by omega) (by omega)]
    have e : ((((s.Events.getD i default).Proc == (s.Events.getD j default).Proc) && decide ((i : Int) < (j : Int))) || (s.Starts.getD (s.Events.getD j default).Proc.toNat 0 == (i : Int))) = E0b s i j := by
      simp [E0b]
    rw [e]
    have hset : ∀ p q, mg (b.set i ((b.getD i []).set j (E0b s i j))) p q = if p = i ∧ q = j then E0b s i j else mg b p q := fun p q => by
      simp only [mg]
      rw [getD_set (by omega)]
      by_cases hp : p = i
      · subst hp
        rw [if_pos rfl, getD_set (by omega)]
        by_cases hq : q = j
        · simp [hq]
        · simp [hq]
      · simp [hp]
    refine ih _ ⟨by rw [List.length_set]; exact h1, fun p hp => ⟨?_, fun q hq => ?_⟩, ?_, fun q hq => ?_⟩
    · rw [getD_set (by omega), if_neg (by omega)]; exact (h2 p hp).1
    · rw [hset, if_neg (by omega)]; exact (h2 p hp).2 q hq
    · rw [getD_set (by omega), if_pos rfl, List.length_set]; exact h3
    · rw [hset]
      by_cases he : q = j
      · subst he; simp
      · rw [if_neg (by omega)]; exact h4 q (by omega)
  · intro m b h
    show Ev (l42_1 n (m + 1) s b (s.Events.getD i default) s.Events v17 v18 s.Events N N i) _
    rw [l42_1]
    exact Ev.ite (fun hc => by simp only [decide_eq_true_eq] at hc; omega) (fun hc => Ev.some ⟨b, rfl, h⟩)
theorem ev42_2 {s : api_Shape} {n N : Nat} (hg : Good s) (hn : 64 ≤ n) (hN : s.Events.length = N) (m : Nat) (hm : N < m) (b : List (List Bool)) (hb : b.length = N) :
    Ev (l42_2 n m s b s.Events N 0) fun o => ∃ b', o = .ok b' ∧ Mx N b' (E0b s) := by
  have h40 := hg.n
  refine loopEv (N := N) (Inv := fun i b => b.length = N ∧ ∀ p, p < i → (b.getD p []).length = N ∧ ∀ q, q < N → mg b p q = E0b s p q) (fun m b (i : Nat) => l42_2 n m s b s.Events N i) ?_ ?_ m 0 b (Nat.zero_le _) (by omega) ⟨hb, fun p hp => absurd hp (Nat.not_lt_zero _)⟩
  · rintro m i b hi ⟨h1, h2⟩ ih
    show Ev (l42_2 n (m + 1) s b s.Events N i) _
    rw [l42_2]
    refine Ev.ite (fun hc => ?_) (fun hc => by simp only [decide_eq_false_iff_not] at hc; omega)
    simp only [Int.toNat_natCast]
    refine Ev.ask ⟨by omega, by omega⟩ ?_
    refine Ev.ask ⟨by omega, by omega⟩ ?_
    refine Ev.ask ⟨by omega, by omega⟩ ?_
    have hq : Q42 s N i 0 (b.set i (List.replicate s.Events.length false)) := by
      refine ⟨by rw [List.length_set]; exact h1, fun p hp => ?_, ?_, fun q hq => absurd hq (Nat.not_lt_zero _)⟩
      · simp only [mg]
        rw [getD_set (by omega), if_neg (by omega)]; exact h2 p hp
      · rw [getD_set (by omega), if_pos rfl, List.length_replicate, hN]
    obtain ⟨o, ho, b', rfl, k1, k2, k3, k4⟩ := ev42_1 (n := n) (v17 := N) (v18 := i) hg hN hi n (by omega) _ hq
    rw [hN] at ho ⊢
    rw [ho]
    show Ev (l42_2 n m s b' s.Events N (w64 (i + 1))) _
    rw [w64_id (by omega) (by omega)]
    refine ih _ ⟨k1, fun p hp => ?_⟩
    by_cases he : p = i
    · subst he; exact ⟨k3, k4⟩
    · exact k2 p (by omega)
  · rintro m b ⟨h1, h2⟩
    show Ev (l42_2 n (m + 1) s b s.Events N N) _
    rw [l42_2]
    exact Ev.ite (fun hc => by simp only [decide_eq_true_eq] at hc; omega) (fun hc => Ev.some ⟨b, rfl, ⟨h1, fun p hp => (h2 p hp).1⟩, fun p q hp hq => (h2 p hp).2 q hq⟩)
theorem E0b_iff {s : api_Shape} {i k : Nat} : E0b s i k = true ↔ ((pr s i = pr s k ∧ i < k) ∨ sp s k = i) := by
  simp only [E0b, pr, sp, Bool.or_eq_true, Bool.and_eq_true, beq_iff_eq, decide_eq_true_eq]
theorem wD_aR {s : api_Shape} (hg : Good s) {i j : Nat} (hi : i < s.Events.length) (hj : j < s.Events.length) : wD (E0b s) s.Events.length i j = aR s 7 i j := by
  rw [Bool.eq_iff_iff, aR_iff hg hi hj]
  constructor
  · intro h
    have hp := wD_path _ _ _ h
    have key : ∀ {i j}, Path (fun i j => E0b s i j = true) i j → i < s.Events.length → j < s.Events.length → Path (E0 s) i j := by
      intro i j h
      induction h with
      | edge h => exact fun hi hj => .edge ⟨hi, hj, E0b_iff.1 h⟩
      | @step k j h g ih =>
        intro hi hj
        have hk : k < s.Events.length := by
          rcases E0b_iff.1 g with g | g
          · omega
          · have := hg.start hj (by omega); omega
        exact .step (ih hi hk) ⟨hk, hj, E0b_iff.1 g⟩
    exact key hp hi hj
  · intro h
    have hp := h.pk (N := s.Events.length) fun i j h => ⟨h.1, h.2.1⟩
    refine PK_wD _ _ _ ?_
    clear h
    induction hp with
    | edge h => exact .edge (E0b_iff.2 h.2.2)
    | step h hk g ih => exact .step (ih hk) hk (E0b_iff.2 g.2.2)
/-- the program's matrix of what is ahead -/
theorem ev42 {s : api_Shape} {n : Nat} (hg : Good s) (hn : 64 ≤ n) : Ev (s42 n s) fun r => Mx s.Events.length r (aR s 7) := by
  have h40 := hg.n
  unfold s42
  refine Ev.bind (ev37 hn) ?_
  intro r hr
  have := hr.1.2 hg
  subst this
  refine Ev.ite (fun hc => by simp at hc) (fun _ => ?_)
  refine Ev.ask ⟨by omega, by omega⟩ ?_
  obtain ⟨o, ho, b, rfl, hb⟩ := ev42_2 (n := n) hg hn rfl n (by omega) (List.replicate s.Events.length []) (List.length_replicate ..)
  simp only [Int.toNat_natCast]
  rw [ho]
  refine Ev.bind (ev26 h40 hn hb) fun r hr => Ev.some (hr.congr fun p q hp hq => wD_aR hg hp hq)
/-- the place of an event among the first k entries, or -1 -/
def atI (l : List api_Entry) : Nat → Int → Int
  | 0, _ => -1
  | k + 1, e => if 0 ≤ atI l k e then atI l k e else if (l.getD k default).Event = e ∨ (l.getD k default).With = e then k else -1
theorem atI_range (l : List api_Entry) (e : Int) : ∀ k, -1 ≤ atI l k e ∧ atI l k e < k := by
  intro k
  induction k with
  | zero => simp [atI]
  | succ k ih => rw [atI]; (repeat' split) <;> omega
theorem atI_stay {l : List api_Entry} {e : Int} {k : Nat} (h : 0 ≤ atI l k e) : ∀ k', k ≤ k' → atI l k' e = atI l k e := by
  intro k' hk
  induction k' with
  | zero => rw [Nat.le_zero.1 hk]
  | succ k' ih =>
    by_cases he : k = k' + 1
    · rw [he]
    · have := ih (by omega)
      rw [atI, if_pos (by omega), this]
theorem getD_take {α : Type} {l : List α} {k i : Nat} {d : α} (h : i < k) : (l.take k).getD i d = l.getD i d := by
  simp [List.getD_eq_getElem?_getD, List.getElem?_take, h]
theorem ev12 {n k : Nat} {l : List api_Entry} {e : Int} (hk : k ≤ l.length) (h60 : k ≤ 60) (hn : 64 ≤ n) : s12 n (l.take k) e = some (atI l k e) := by
  have hl : (l.take k).length = k := by rw [List.length_take]; omega
  have key : Ev (l12_1 n n (l.take k) e 0) fun o => (o = .ok ∧ atI l k e = -1) ∨ (o = .ret (atI l k e) ∧ 0 ≤ atI l k e) := by
    refine loopEv (N := k) (Inv := fun i (_ : Unit) => atI l i e = -1) (fun m _ (i : Nat) => l12_1 n m (l.take k) e i) ?_ ?_ n 0 () (Nat.zero_le _) (by omega) rfl
    · intro m i _ hi h ih
      show Ev (l12_1 n (m + 1) (l.take k) e i) _
      rw [l12_1]
      refine Ev.ite (fun hc => ?_) (fun hc => by simp only [decide_eq_false_iff_not] at hc; omega)
      refine Ev.ask ⟨by omega, by omega⟩ ?_
      refine Ev.ask (fun _ => ⟨by omega, by omega⟩) ?_
      simp only [Int.toNat_natCast, getD_take hi]
      have e1 : atI l (i + 1) e = if (l.getD i default).Event = e ∨ (l.getD i default).With = e then (i : Int) else -1 := by rw [atI, if_neg (by omega)]
      refine Ev.ite (fun hd => ?_) (fun hd => ?_)
      · simp only [Bool.or_eq_true, beq_iff_eq] at hd
        rw [if_pos hd] at e1
        have := atI_stay (l := l) (e := e) (k := i + 1) (by omega) k (by omega)
        exact Ev.some (.inr ⟨by rw [this, e1], by omega⟩)
      · simp only [Bool.or_eq_false_iff, beq_eq_false_iff_ne, ne_eq] at hd
        rw [w64_id (by omega) (by omega)]
        exact ih () (by rw [e1, if_neg (by omega)])
    · intro m _ h
      show Ev (l12_1 n (m + 1) (l.take k) e k) _
      rw [l12_1]
      exact Ev.ite (fun hc => by simp only [decide_eq_true_eq] at hc; omega) (fun _ => Ev.some (.inl ⟨rfl, h⟩))
  obtain ⟨o, ho, h | h⟩ := key
  · obtain ⟨rfl, h⟩ := h; rw [s12, ho, h]
  · obtain ⟨rfl, h⟩ := h; rw [s12, ho]
/-- may an event be next for its goroutine? -/
def fits (s : api_Shape) (l : List api_Entry) (k a : Nat) : Prop :=
  atI l k a < 0 ∧ (0 < (s.Events.getD a default).Proc → 0 ≤ s.Starts.getD (s.Events.getD a default).Proc.toNat 0 ∧ 0 ≤ atI l k (s.Starts.getD (s.Events.getD a default).Proc.toNat 0)) ∧
  ∀ q : Nat, a < q → q < s.Events.length → (s.Events.getD q default).Proc = (s.Events.getD a default).Proc → atI l k q < 0
theorem ev46 {s : api_Shape} {n k a : Nat} {l : List api_Entry} (hg : Good s) (hk : k ≤ l.length) (h60 : k ≤ 60) (hn : 64 ≤ n) (ha : a < s.Events.length) :
    Ev (s46 n s (l.take k) a) fun r => (r = true ↔ fits s l k a) := by
  have h40 := hg.n
  obtain ⟨⟨g1, g2, _⟩, _⟩ := hg.ev a ha
  unfold s46
  rw [ev12 hk h60 hn]
  simp only [Option.bind_some, Int.toNat_natCast]
  refine Ev.ite (fun hc => Ev.some ?_) (fun hc => ?_)
  · simp only [decide_eq_true_eq] at hc
    exact ⟨fun h => by simp at h, fun h => by have := h.1; omega⟩
  simp only [decide_eq_false_iff_not] at hc
  refine Ev.ask ⟨by omega, by omega⟩ ?_
  refine Ev.ask (fun _ => ⟨by omega, by omega⟩) ?_
  refine Ev.ask (fun _ _ => ⟨by omega, by omega⟩) ?_
  have e1 : Ev (if (decide (((s.Events.getD a default).Proc) > 0)) && !(decide ((s.Starts.getD ((s.Events.getD a default).Proc).toNat 0) < 0)) then s12 n (l.take k) (s.Starts.getD ((s.Events.getD a default).Proc).toNat 0) else some 0) fun r => (0 < (s.Events.getD a default).Proc → 0 ≤ s.Starts.getD ((s.Events.getD a default).Proc).toNat 0 → r = atI l k (s.Starts.getD ((s.Events.getD a default).Proc).toNat 0)) := by
    rw [ev12 hk h60 hn]
    refine Ev.ite (fun _ => Ev.some fun _ _ => rfl) (fun hd => Ev.some fun h1 h2 => ?_)
    simp only [Bool.and_eq_false_iff, Bool.not_eq_false', decide_eq_false_iff_not, decide_eq_true_eq] at hd
    omega
  refine Ev.bind e1 fun r hr => ?_
  refine Ev.ite (fun hd => Ev.some ?_) (fun hd => ?_)
  · simp only [Bool.and_eq_true, Bool.or_eq_true, decide_eq_true_eq] at hd
    refine ⟨fun h => by simp at h, fun h => ?_⟩
    obtain ⟨h1, h2⟩ := h.2.1 (by omega)
    have := hr (by omega) h1
    omega
  simp only [Bool.and_eq_false_iff, Bool.or_eq_false_iff, decide_eq_false_iff_not] at hd
  have key : Ev (l46_1 n n s (l.take k) (s.Events.getD a default).Proc (w64 (a + 1))) fun o => (o = .ok ∧ ∀ q : Nat, a < q → q < s.Events.length → (s.Events.getD q default).Proc = (s.Events.getD a default).Proc → atI l k q < 0) ∨ (o = .ret false ∧ ¬ ∀ q : Nat, a < q → q < s.Events.length → (s.Events.getD q default).Proc = (s.Events.getD a default).Proc → atI l k q < 0) := by
    rw [w64_id (by omega) (by omega)]
    refine loopEv (N := s.Events.length) (Inv := fun i (_ : Unit) => a < i ∧ ∀ q : Nat, a < q → q < i → (s.Events.getD q default).Proc = (s.Events.getD a default).Proc → atI l k q < 0) (fun m _ (i : Nat) => l46_1 n m s (l.take k) (s.Events.getD a default).Proc i) ?_ ?_ n (a + 1) () (by omega) (by omega) ⟨by omega, fun q _ _ => by omega⟩
    · intro m i _ hi h ih
      show Ev (l46_1 n (m + 1) s (l.take k) (s.Events.getD a default).Proc i) _
      rw [l46_1]
      refine Ev.ite (fun hc => ?_) (fun hc => by simp only [decide_eq_false_iff_not] at hc; omega)
      refine Ev.ask ⟨by omega, by omega⟩ ?_
      simp only [Int.toNat_natCast]
      rw [ev12 hk h60 hn]
      have e2 : Ev (if (s.Events.getD i default).Proc == (s.Events.getD a default).Proc then some (atI l k i) else some 0) fun r => (s.Events.getD i default).Proc = (s.Events.getD a default).Proc → r = atI l k i :=
        Ev.ite (fun _ => Ev.some fun _ => rfl) (fun hd => Ev.some fun h1 => by simp only [beq_eq_false_iff_ne, ne_eq] at hd; exact absurd h1 hd)
      refine Ev.bind e2 fun r hr => ?_
      refine Ev.ite (fun hd => Ev.some (.inr ⟨rfl, fun h' => ?_⟩)) (fun hd => ?_)
      · simp only [Bool.and_eq_true, beq_iff_eq, decide_eq_true_eq] at hd
        have := h' i h.1 hi hd.1
        have := hr hd.1
        omega
      · rw [w64_id (by omega) (by omega)]
        refine ih () ⟨by omega, fun q h1 h2 h3 => ?_⟩
        by_cases hq : q < i
        · exact h.2 q h1 hq h3
        · have : q = i := by omega
          subst this
          simp only [Bool.and_eq_false_iff, beq_eq_false_iff_ne, decide_eq_false_iff_not] at hd
          have := hr h3
          rcases hd with hd | hd
          · exact absurd h3 hd
          · omega
    · intro m _ h
      show Ev (l46_1 n (m + 1) s (l.take k) (s.Events.getD a default).Proc s.Events.length) _
      rw [l46_1]
      exact Ev.ite (fun hc => by simp only [decide_eq_true_eq] at hc; omega) (fun _ => Ev.some (.inl ⟨rfl, h.2⟩))
  obtain ⟨o, ho, h | h⟩ := key
  · obtain ⟨rfl, h⟩ := h
    rw [ho]
    refine Ev.some ⟨fun _ => ⟨by omega, fun h1 => ?_, h⟩, fun _ => rfl⟩
    have := hr h1
    constructor <;> omega
  · obtain ⟨rfl, h⟩ := h
    rw [ho]
    exact Ev.some ⟨fun h' => by simp at h', fun h' => absurd h'.2.2 h⟩
def code9 : CCode :=
 (.seq
  (.region [⟨(some 3), (.box 2 (.tmp 0)), none⟩,
   ⟨(some 6), (.mv (.const (.bool false))), none⟩] none)
  (.seq
  (.region [⟨(some 7), (.load true 2 (.tmp 3)), none⟩,
   ⟨(some 8), (.call (.func 23) [(.tmp 7)]), none⟩,
   ⟨(some 9), (.mv (.tmp 8)), none⟩,
   ⟨(some 10), (.load true 2 (.tmp 3)), (some (9, true))⟩,
   ⟨(some 11), (.mv (.tmp 1)), (some (9, true))⟩,
   ⟨(some 12), (.mv (.tmp 2)), (some (9, true))⟩,
   ⟨(some 13), (.call (.func 24) [(.tmp 10), (.tmp 11), (.tmp 12)]), (some (9, true))⟩,
   ⟨(some 14), (.pick (.tmp 9) (.tmp 13) (.const (.bool false))), none⟩,
   ⟨(some 6), (.mv (.tmp 14)), none⟩] none)
  .ret))
theorem tr9 : (Try.f9.body).bind (trCode Try.prog Try.f9.ntmps) = some code9 := by kernel_rfl
def s9 (n : Nat) (p0 : api_Shape) (p1 : List api_Decl) (p2 : List api_Entry) : Option Bool :=
  (s23 n p0).bind fun r6 =>
  (if r6 then s24 n p0 p1 p2 else some false).bind fun r7 =>
  some (r6 && r7)
def E9 (r : Bool) (s : AS) : Prop := resOf s (.one 6) = some (.tst r)
theorem wf9 {n : Nat} {p0 : api_Shape} {p1 : List api_Decl} {p2 : List api_Entry} {r : Bool} (h : s9 n p0 p1 p2 = some r) : CWP Try.prog Try.f9.ntmps code9 (AtE (E9 r)) ⟨[(0, .agg (api_Shape.cs p0)), (1, api_Decl.sl p1), (2, api_Entry.sl p2)], [], 0⟩ := by
  unfold s9 at h
  refine CWP.seq ?_
  refine CWP.regionT ⟨[(1, api_Decl.sl p1), (2, api_Entry.sl p2), (3, .ptr 0 0)], [(0, .box (api_Shape.cs p0))], 16⟩ ?_ ?_
  · exact Le.keep (live := [1, 2, 3]) (names := [0]) (nx := 16) rfl
  refine CWP.seq ?_
  obtain ⟨r6, hr6, h⟩ := Option.bind_eq_some_iff.1 h
  obtain ⟨r7, hr7, h⟩ := Option.bind_eq_some_iff.1 h
  refine CWP.regionT ⟨[(6, .tst (r6 && r7))], [], 88⟩ ?_ ?_
  · refine FC.semT rfl rfl rfl trivial (c23 hr6) (Or.inl rfl) ?_
    refine ex_refl ?_
    refine And.intro (fun hg8 => ?_) (fun hg8 => ?_)
    · have hg8 : (r6) = true := hg8
      refine FC.semT rfl rfl rfl trivial (c24 (ite_t hr7 (by simp only [hg8, sB, reduceIte]))) (Or.inl rfl) ?_
      refine ex_refl ?_
      exact Le.trans (Le.rep (t := 6) rfl (RepLe.fr rfl (FrLe.tst2 (by simp only [hg8, sB, reduceIte])))) (Le.keep (live := [6]) (names := []) (nx := 88) rfl)
    · have hg8 : (r6) = false := hg8
      exact Le.trans (Le.rep (t := 6) rfl (RepLe.fr rfl (FrLe.tst (by simp only [hg8, sB, reduceIte])))) (Le.keep (live := [6]) (names := []) (nx := 88) rfl)
  refine CWP.ret ?_
  have e := Option.some.inj h
  subst e
  exact rfl
theorem c9 {n : Nat} {p0 : api_Shape} {p1 : List api_Decl} {p2 : List api_Entry} {r : Bool} (h : s9 n p0 p1 p2 = some r) : FC Try.prog 9 [.agg (api_Shape.cs p0), api_Decl.sl p1, api_Entry.sl p2] (.tst r) [] false := FC.pureE (fn := Try.f9) (cc := code9) (res := .one 6) (by kernel_rfl) (by kernel_rfl) tr9 (by kernel_rfl) (Nat.le_of_ble_eq_true rfl) rfl (wf9 h)
def code66_1 : CCode :=
 (.seq
  (.region [⟨(some 11), (.bin 0 .eql (.tmp 5) (.const (.int .i64 3))), none⟩,
   ⟨(some 10), (.mv (.tmp 11)), none⟩] none)
  (.cond (.tmp 10)
  .skip
  (.seq
   (.region [⟨(some 12), (.bin 0 .eql (.tmp 5) (.const (.int .i64 5))), none⟩,
    ⟨(some 10), (.mv (.tmp 12)), none⟩] none)
   (.cond (.tmp 10)
   .skip
   (.region [⟨(some 13), (.bin 0 .eql (.tmp 5) (.const (.int .i64 6))), none⟩,
    ⟨(some 10), (.mv (.tmp 13)), none⟩] none)))))
def code66 : CCode :=
 (.seq
  (.region [⟨(some 4), (.mv (.const (.bool false))), none⟩] none)
  (.seq
  (.seq
   (.region [⟨(some 5), (.mv (.tmp 1)), none⟩] none)
   (.block 0
   (.seq
    (.region [⟨(some 7), (.bin 0 .eql (.tmp 5) (.const (.int .i64 1))), none⟩,
     ⟨(some 6), (.mv (.tmp 7)), none⟩] none)
    (.cond (.tmp 6)
    (.seq
     (.region [⟨(some 8), (.mv (.tmp 0)), none⟩,
      ⟨(some 9), (.bin 0 .eql (.tmp 8) (.const (.int .i64 2))), none⟩,
      ⟨(some 4), (.mv (.tmp 9)), none⟩] none)
     .ret)
    (.seq
     code66_1
     (.cond (.tmp 10)
     (.seq
      (.region [⟨(some 14), (.mv (.tmp 0)), none⟩,
       ⟨(some 15), (.bin 0 .eql (.tmp 14) (.const (.int .i64 4))), none⟩,
       ⟨(some 16), (.mv (.tmp 15)), none⟩,
       ⟨(some 17), (.mv (.tmp 0)), (some (16, false))⟩,
       ⟨(some 18), (.bin 0 .eql (.tmp 17) (.const (.int .i64 5))), (some (16, false))⟩,
       ⟨(some 19), (.pick (.tmp 16) (.const (.bool true)) (.tmp 18)), none⟩,
       ⟨(some 20), (.mv (.tmp 19)), none⟩,
       ⟨(some 21), (.mv (.tmp 0)), (some (20, false))⟩,
       ⟨(some 22), (.bin 0 .eql (.tmp 21) (.const (.int .i64 6))), (some (20, false))⟩,
       ⟨(some 23), (.pick (.tmp 20) (.const (.bool true)) (.tmp 22)), none⟩,
       ⟨(some 4), (.mv (.tmp 23)), none⟩] none)
      .ret)
     (.seq
      (.region [⟨(some 25), (.bin 0 .eql (.tmp 5) (.const (.int .i64 10))), none⟩,
       ⟨(some 24), (.mv (.tmp 25)), none⟩] none)
      (.cond (.tmp 24)
      (.seq
       (.region [⟨(some 26), (.mv (.tmp 0)), none⟩,
        ⟨(some 27), (.bin 0 .eql (.tmp 26) (.const (.int .i64 9))), none⟩,
        ⟨(some 4), (.mv (.tmp 27)), none⟩] none)
       .ret)
      .skip))))))))
  (.seq
   (.region [⟨(some 4), (.mv (.const (.bool false))), none⟩] none)
   .ret)))
theorem tr66 : (Try.f66.body).bind (trCode Try.prog Try.f66.ntmps) = some code66 := by kernel_rfl
inductive O66_1 where
  | ok (v0 : Int) (v10 : Bool) (v5 : Int)
def l66_1 (n : Nat) (v0 : Int) (v5 : Int) : Option O66_1 :=
  if v5 == 3 then
    some (.ok v0 (v5 == 3) v5)
  else
    if v5 == 5 then
      some (.ok v0 (v5 == 5) v5)
    else
      some (.ok v0 (v5 == 6) v5)
def s66 (n : Nat) (p0 : Int) (p1 : Int) : Option Bool :=
  if p1 == 1 then
    some (p0 == 2)
  else
    (match l66_1 n p0 p1 with
    | none => none
    | some (.ok v0_100 v10_100 v5_100) =>
      if v10_100 then
        some (((v0_100 == 4) || (v0_100 == 5)) || (v0_100 == 6))
      else
        if v5_100 == 10 then
          some (v0_100 == 9)
        else
          some false)
def E66 (r : Bool) (s : AS) : Prop := resOf s (.one 4) = some (.tst r)
theorem t66_1 {n : Nat} {v0 : Int} {v5 : Int} {out : O66_1} (h : l66_1 n v0 v5 = some out) {Q : Ex → AS → Prop} (hok : ∀ v0 v10 v5, out = .ok v0 v10 v5 → Q .normal ⟨[(0, I v0), (5, I v5), (10, .tst v10)], [], 0⟩) : CWP Try.prog Try.f66.ntmps code66_1 Q ⟨[(0, I v0), (5, I v5)], [], 0⟩ := by
  unfold l66_1 at h
  refine CWP.seq ?_
  refine CWP.regionT ⟨[(0, I v0), (5, I v5), (10, .tst (v5 == 3))], [], 16⟩ ?_ ?_
  · exact Le.keep (live := [0, 5, 10]) (names := []) (nx := 16) rfl
  refine CWP.cond (And.intro (fun hc => ?_) (fun hc => ?_))
  · have h := ite_t h hc
    refine CWP.skipL (Le.keep (live := [0, 5, 10]) (names := []) (nx := 0) rfl) (s' := ⟨[(0, I v0), (5, I v5), (10, .tst (v5 == 3))], [], 0⟩) ?_
    exact hok _ _ _ (Option.some.inj h).symm
  · have h := ite_f h hc
    refine CWP.seq ?_
    refine CWP.regionT ⟨[(0, I v0), (5, I v5), (10, .tst (v5 == 5))], [], 32⟩ ?_ ?_
    · exact Le.keep (live := [0, 5, 10]) (names := []) (nx := 32) rfl
    refine CWP.cond (And.intro (fun hc => ?_) (fun hc => ?_))
    · have h := ite_t h hc
      refine CWP.skipL (Le.keep (live := [0, 5, 10]) (names := []) (nx := 0) rfl) (s' := ⟨[(0, I v0), (5, I v5), (10, .tst (v5 == 5))], [], 0⟩) ?_
      exact hok _ _ _ (Option.some.inj h).symm
    · have h := ite_f h hc
      refine CWP.regionT ⟨[(0, I v0), (5, I v5), (10, .tst (v5 == 6))], [], 0⟩ ?_ ?_
      · exact Le.trans (Le.keep (live := [0, 5, 10]) (names := []) (nx := 48) rfl) (Le.keep (live := [0, 5, 10]) (names := []) (nx := 0) rfl)
      exact hok _ _ _ (Option.some.inj h).symm
theorem wf66 {n : Nat} {p0 : Int} {p1 : Int} {r : Bool} (h : s66 n p0 p1 = some r) : CWP Try.prog Try.f66.ntmps code66 (AtE (E66 r)) ⟨[(0, I p0), (1, I p1)], [], 0⟩ := by
  unfold s66 at h
  refine CWP.seq ?_
  refine CWP.regionT ⟨[(0, I p0), (1, I p1)], [], 8⟩ ?_ ?_
  · exact Le.keep (live := [0, 1]) (names := []) (nx := 8) rfl
  refine CWP.seq ?_
  refine CWP.seq ?_
  refine CWP.regionT ⟨[(0, I p0), (5, I p1)], [], 16⟩ ?_ ?_
  · exact Le.keep (live := [0, 5]) (names := []) (nx := 16) rfl
  refine CWP.block ?_
  refine CWP.seq ?_
  refine CWP.regionT ⟨[(0, I p0), (5, I p1), (6, .tst (p1 == 1))], [], 32⟩ ?_ ?_
  · exact Le.keep (live := [0, 5, 6]) (names := []) (nx := 32) rfl
  refine CWP.cond (And.intro (fun hc => ?_) (fun hc => ?_))
  · have h := ite_t h hc
    refine CWP.seq ?_
    refine CWP.regionT ⟨[(4, .tst (p0 == 2))], [], 56⟩ ?_ ?_
    · exact Le.keep (live := [4]) (names := []) (nx := 56) rfl
    refine CWP.ret ?_
    have e := Option.some.inj h
    subst e
    exact rfl
  · have h := ite_f h hc
    refine CWP.seq ?_
    generalize hn99 : l66_1 n p0 p1 = o99 at h
    rcases o99 with _ | o99
    · cases h
    refine CWP.weaken (s' := ⟨[(0, I p0), (5, I p1)], [], 0⟩) (Le.keep (live := [0, 5]) (names := []) (nx := 0) rfl) ?_
    refine t66_1 hn99 ?_
    · intro v0_100 v10_100 v5_100 e
      subst e
      dsimp only at h
      refine CWP.cond (And.intro (fun hc => ?_) (fun hc => ?_))
      · have h := ite_t h hc
        refine CWP.seq ?_
        refine CWP.regionT ⟨[(4, .tst (((v0_100 == 4) || (v0_100 == 5)) || (v0_100 == 6)))], [], 88⟩ ?_ ?_
        · refine And.intro (fun hg101 => ?_) (fun hg101 => ?_)
          · have hg101 : (v0_100 == 4) = false := hg101
            refine And.intro (fun hg102 => ?_) (fun hg102 => ?_)
            · have hg102 : (v0_100 == 5) = false := hg102
              exact Le.trans (Le.rep (t := 4) rfl (RepLe.fr rfl (FrLe.tst2 (by simp only [hg101, hg102, sB, reduceIte])))) (Le.keep (live := [4]) (names := []) (nx := 88) rfl)
            · have hg102 : (v0_100 == 5) = true := hg102
              exact Le.trans (Le.rep (t := 4) rfl (RepLe.fr rfl (FrLe.tst (by simp only [hg101, hg102, sB, reduceIte])))) (Le.keep (live := [4]) (names := []) (nx := 88) rfl)
          · have hg101 : (v0_100 == 4) = true := hg101
            exact Le.trans (Le.rep (t := 4) rfl (RepLe.fr rfl (FrLe.tst (by simp only [hg101, sB, reduceIte])))) (Le.keep (live := [4]) (names := []) (nx := 88) rfl)
        refine CWP.ret ?_
        have e := Option.some.inj h
        subst e
        exact rfl
      · have h := ite_f h hc
        refine CWP.seq ?_
        refine CWP.regionT ⟨[(0, I v0_100), (24, .tst (v5_100 == 10))], [], 16⟩ ?_ ?_
        · exact Le.keep (live := [0, 24]) (names := []) (nx := 16) rfl
        refine CWP.cond (And.intro (fun hc => ?_) (fun hc => ?_))
        · have h := ite_t h hc
          refine CWP.seq ?_
          refine CWP.regionT ⟨[(4, .tst (v0_100 == 9))], [], 40⟩ ?_ ?_
          · exact Le.keep (live := [4]) (names := []) (nx := 40) rfl
          refine CWP.ret ?_
          have e := Option.some.inj h
          subst e
          exact rfl
        · have h := ite_f h hc
          refine CWP.skip ?_
          refine CWP.seq ?_
          refine CWP.regionT ⟨[(4, .raw (.bool false))], [], 24⟩ ?_ ?_
          · exact Le.keep (live := [4]) (names := []) (nx := 24) rfl
          refine CWP.weaken (Le.rep (t := 4) rfl (RepLe.fr rfl (FrLe.tst rfl))) ?_
          refine CWP.ret ?_
          have e := Option.some.inj h
          subst e
          exact rfl
theorem c66 {n : Nat} {p0 : Int} {p1 : Int} {r : Bool} (h : s66 n p0 p1 = some r) : FC Try.prog 66 [I p0, I p1] (.tst r) [] false := FC.pureE (fn := Try.f66) (cc := code66) (res := .one 4) (by kernel_rfl) (by kernel_rfl) tr66 (by kernel_rfl) (Nat.le_of_ble_eq_true rfl) rfl (wf66 h)
theorem Ev.may {α : Type} {b : Bool} {x : Option α} {d : α} {P : α → Prop} (h : b = true → Ev x P) : Ev (if b then x else Option.some d) (fun r => b = true → P r) :=
  Ev.ite (fun hb => (h hb).mono fun _ hp _ => hp) (fun hb => Ev.some fun hb' => by rw [hb] at hb'; cases hb')
/-- how many things a channel holds after the first k entries -/
def inI (s : api_Shape) (l : List api_Entry) : Nat → Int → Int
  | 0, _ => 0
  | k + 1, c => inI s l k c + (if (s.Events.getD (l.getD k default).Event.toNat default).Obj = c ∧ (s.Events.getD (l.getD k default).Event.toNat default).Kind = 9 then 1 else 0) - (if (s.Events.getD (l.getD k default).Event.toNat default).Obj = c ∧ (s.Events.getD (l.getD k default).Event.toNat default).Kind = 10 then 1 else 0)
theorem inI_range (s : api_Shape) (l : List api_Entry) (c : Int) : ∀ k : Nat, -(k : Int) ≤ inI s l k c ∧ inI s l k c ≤ k := by
  intro k
  induction k with
  | zero => simp [inI]
  | succ k ih => rw [inI]; (repeat' split) <;> omega
theorem ev49_2 {n k : Nat} {s : api_Shape} {v : List api_Entry} {c t : Int} (hk : k < v.length) (h1 : 0 ≤ (v.getD k default).Event) (h2 : (v.getD k default).Event < s.Events.length) (h3 : -1000 ≤ t) (h4 : t ≤ 1000) :
    l49_2 n s v c t k = some (.ok s v c (t + (if (s.Events.getD (v.getD k default).Event.toNat default).Obj = c ∧ (s.Events.getD (v.getD k default).Event.toNat default).Kind = 9 then 1 else 0) - (if (s.Events.getD (v.getD k default).Event.toNat default).Obj = c ∧ (s.Events.getD (v.getD k default).Event.toNat default).Kind = 10 then 1 else 0)) k) := by
  unfold l49_2 l49_1
  simp only [Int.toNat_natCast]
  rw [if_pos (by omega), if_pos ⟨h1, h2⟩]
  generalize s.Events.getD (v.getD k default).Event.toNat default = e
  by_cases h9 : e.Obj = c ∧ e.Kind = 9
  · rw [if_pos (by simp [h9])]
    dsimp only
    rw [if_neg (by simp [h9]), if_pos h9, if_neg (by omega), w64_id (by omega) (by omega)]
    simp
  · rw [if_neg (by simpa using h9)]
    dsimp only
    by_cases h10 : e.Obj = c ∧ e.Kind = 10
    · rw [if_pos (by simp [h10]), if_neg h9, if_pos h10, w64_id (by omega) (by omega)]
      simp
    · rw [if_neg (by simpa using h10), if_neg h9, if_neg h10]
      simp
theorem ev49 {n : Nat} {s : api_Shape} {v : List api_Entry} {c : Int} (hl : v.length ≤ 60) (hn : 64 ≤ n) (h : ∀ i, i < v.length → 0 ≤ (v.getD i default).Event ∧ (v.getD i default).Event < s.Events.length) : s49 n s v c = some (inI s v v.length c) := by
  have key : Ev (l49_3 n n s v c 0 0) fun o => o = .ok (inI s v v.length c) := by
    refine loopEv (N := v.length) (Inv := fun k t => t = inI s v k c) (fun m t (k : Nat) => l49_3 n m s v c t k) ?_ ?_ n 0 0 (Nat.zero_le _) (by omega) rfl
    · rintro m k t hk rfl ih
      show Ev (l49_3 n (m + 1) s v c _ k) _
      rw [l49_3]
      refine Ev.ite (fun hc => ?_) (fun hc => by simp only [decide_eq_false_iff_not] at hc; omega)
      have := inI_range s v c k
      rw [ev49_2 hk (h k hk).1 (h k hk).2 (by omega) (by omega)]
      dsimp only
      rw [w64_id (by omega) (by omega)]
      exact ih _ (by rw [inI])
    · rintro m t rfl
      show Ev (l49_3 n (m + 1) s v c _ v.length) _
      rw [l49_3]
      exact Ev.ite (fun hc => by simp only [decide_eq_true_eq] at hc; omega) (fun _ => Ev.some rfl)
  obtain ⟨o, ho, rfl⟩ := key
  rw [s49, ho]
theorem inI_take {s : api_Shape} {l : List api_Entry} {c : Int} : ∀ k j, k ≤ j → inI s (l.take j) k c = inI s l k c := by
  intro k
  induction k with
  | zero => intro j _; rfl
  | succ k ih => intro j hj; rw [inI, inI, ih j (by omega), getD_take (by omega)]
/-- is a kind read from another? -/
def feeds (a b : Int) : Bool := if b == 1 then a == 2 else if b == 10 then a == 9 else (b == 3 || b == 5 || b == 6) && (a == 4 || a == 5 || a == 6)
theorem s62_eq (n : Nat) (a b : Int) : s62 n a b = some (feeds a b) := by
  unfold s62 feeds
  (repeat' split) <;> rfl
theorem s66_eq (n : Nat) (a b : Int) : s66 n a b = some (feeds a b) := by
  unfold s66 feeds l66_1
  by_cases h1 : b = 1
  · simp [h1]
  · by_cases h3 : b = 3
    · simp [h3]
    · by_cases h5 : b = 5
      · simp [h5]
      · by_cases h6 : b = 6
        · simp [h6]
        · by_cases h10 : b = 10
          · simp [h10]
          · simp [h1, h3, h5, h6, h10]
/-- may an event have its thing from another? -/
def src (s : api_Shape) (a f : Nat) : Bool := (a != f) && ((s.Events.getD a default).Obj == (s.Events.getD f default).Obj) && feeds (s.Events.getD f default).Kind (s.Events.getD a default).Kind && !aR s 7 a f
def meets (s : api_Shape) (d : List api_Decl) (a : Nat) : Bool := (asks (s.Events.getD a default).Kind == 4) && ((d.getD (s.Events.getD a default).Obj.toNat default).Num == 0)
/-- may an entry come next? -/
def okE (s : api_Shape) (d : List api_Decl) (l : List api_Entry) (k : Nat) : Prop :=
  ∃ a : Nat, (l.getD k default).Event = a ∧ a < s.Events.length ∧ (-1 ≤ (l.getD k default).With ∧ (l.getD k default).With < s.Events.length) ∧ (-1 ≤ (l.getD k default).From ∧ (l.getD k default).From < s.Events.length) ∧ fits s l k a ∧
    (0 ≤ (l.getD k default).From → (s.Events.getD a default).Kind ≠ 10 ∧ src s a (l.getD k default).From.toNat = true ∧ 0 ≤ atI l k (l.getD k default).From) ∧
    (meets s d a = true → (s.Events.getD a default).Kind = 9 ∧ ∃ w : Nat, (l.getD k default).With = w ∧ (s.Events.getD w default).Kind = 10 ∧ (s.Events.getD w default).Obj = (s.Events.getD a default).Obj ∧ (s.Events.getD w default).Proc ≠ (s.Events.getD a default).Proc ∧ fits s l k w) ∧
    (meets s d a = false → (l.getD k default).With = -1 ∧ (asks (s.Events.getD a default).Kind = 4 → 0 ≤ inI s l (k + 1) (s.Events.getD a default).Obj ∧ inI s l (k + 1) (s.Events.getD a default).Obj ≤ (d.getD (s.Events.getD a default).Obj.toNat default).Num))
theorem and3 (x y z w : Bool) : Ev ((if (x && y) then some z else some false).bind fun r => (if (x && y && r) then some w else some false).bind fun r' => some ((x && y && r) && !r')) (fun r => r = (x && y && z && !w)) := by
  cases x <;> cases y <;> cases z <;> cases w <;> exact ⟨_, rfl, rfl⟩
theorem ev47 {s : api_Shape} {n a f : Nat} (hg : Good s) (hn : 64 ≤ n) (ha : a < s.Events.length) (hf : f < s.Events.length) : Ev (s47 n s a f) fun r => r = src s a f := by
  unfold s47
  simp only [Int.toNat_natCast]
  refine Ev.ask (fun _ => ⟨by omega, by omega⟩) ?_
  refine Ev.ask (fun _ => ⟨by omega, by omega⟩) ?_
  refine Ev.ask (fun _ => ⟨by omega, by omega⟩) ?_
  refine Ev.ask (fun _ => ⟨by omega, by omega⟩) ?_
  rw [s62_eq, s33_eq hg hn ha hf]
  have e1 : ((a : Int) != (f : Int)) = (a != f) := by
    by_cases h : a = f
    · simp [h]
    · have : (a : Int) ≠ f := by omega
      rw [bne_iff_ne.2 this, bne_iff_ne.2 h]
  rw [e1]
  exact and3 _ _ _ _
theorem ev48 {s : api_Shape} {d : List api_Decl} {n a : Nat} (hg : Good s) (ha : a < s.Events.length) (hd : okD s d a) : s48 n s d a = some (meets s d a) := by
  obtain ⟨⟨g1, g2, g3, g4, g5, g6⟩, _⟩ := hg.ev a ha
  unfold s48
  simp only [Int.toNat_natCast]
  rw [if_pos (by omega), s34_eq]
  simp only [Option.bind_some]
  rw [if_pos]
  · rfl
  · intro h
    simp only [beq_iff_eq] at h
    have := (hd (by omega)).1
    omega
theorem ev36 {s : api_Shape} {d : List api_Decl} {l : List api_Entry} {n k : Nat} (hg : Good s) (hd : ∀ i, i < s.Events.length → okD s d i) (hk : k < l.length) (hl : l.length ≤ 40) (hn : 64 ≤ n)
    (hp : ∀ i, i < k → 0 ≤ (l.getD i default).Event ∧ (l.getD i default).Event < s.Events.length) : Ev (s36 n s d (l.take k) (l.getD k default)) fun r => (r = true ↔ okE s d l k) := by
  unfold s36
  have hE : ∀ (c : Int), (0 ≤ (l.getD k default).Event ∧ (l.getD k default).Event < s.Events.length) → s49 n s ([] ++ l.take k ++ [l.getD k default]) c = some (inI s l (k + 1) c) := by
    intro c hc
    have e1 : [] ++ l.take k ++ [l.getD k default] = l.take (k + 1) := by rw [List.nil_append, getD_lt hk, List.take_append_getElem]
    have e2 : (l.take (k + 1)).length = k + 1 := by rw [List.length_take]; omega
    rw [e1, ev49 (by omega) hn, e2, inI_take _ _ (Nat.le_refl _)]
    intro i hi
    rw [getD_take (by omega)]
    by_cases hik : i < k
    · exact hp i hik
    · have : i = k := by omega
      subst this; exact hc
  unfold okE
  generalize hEE : l.getD k default = E at hE ⊢
  obtain ⟨ev, wi, fr⟩ := E
  dsimp only at hE ⊢
  by_cases hr : 0 ≤ ev ∧ ev < s.Events.length
  rotate_left
  · refine Ev.bind (Q := fun _ => True) ?_ ?_
    · refine Ev.ite (fun hc => ?_) (fun _ => Ev.some trivial)
      simp only [Bool.not_eq_true', Bool.or_eq_false_iff, decide_eq_false_iff_not] at hc
      omega
    · intro r _
      refine Ev.ite (fun hc => Ev.some ⟨fun h => by simp at h, ?_⟩) (fun hc => ?_)
      · rintro ⟨a, rfl, h, _⟩; omega
      · simp only [Bool.or_eq_false_iff, decide_eq_false_iff_not] at hc; omega
  obtain ⟨a, rfl⟩ : ∃ a : Nat, ev = a := ⟨ev.toNat, by omega⟩
  have ha : a < s.Events.length := by omega
  have hE := fun c => hE c (by omega)
  refine Ev.bind (Ev.may fun _ => ev46 hg (by omega) (by omega) hn ha) fun r1 h1 => ?_
  simp only [Bool.not_eq_true', Bool.or_eq_false_iff, decide_eq_false_iff_not] at h1
  refine Ev.ite (fun hc => Ev.some ⟨fun h => by simp at h, ?_⟩) (fun hc => ?_)
  · rintro ⟨b, hb, h2, h3, h4, h5, _⟩
    obtain rfl : a = b := by omega
    have := (h1 (by omega)).2 h5
    subst this
    simp only [Bool.or_eq_true, decide_eq_true_eq] at hc
    simp at hc
    omega
  simp only [Bool.or_eq_false_iff, decide_eq_false_iff_not, Bool.not_eq_false'] at hc
  have hfit : fits s l k a := (h1 (by omega)).1 hc.2
  simp only [Int.toNat_natCast]
  refine Ev.ask ⟨by omega, by omega⟩ ?_
  refine Ev.bind (Q := fun r => 0 ≤ fr → (s.Events.getD a default).Kind ≠ 10 → r = src s a fr.toNat) ?_ fun r2 h2 => ?_
  · refine (Ev.may (P := fun r => r = src s a fr.toNat) fun hx => ?_).mono fun r hx h3 h4 => hx ?_
    · simp only [Bool.and_eq_true, decide_eq_true_eq] at hx
      have := ev47 (n := n) (a := a) (f := fr.toNat) hg hn ha (by omega)
      rwa [show ((fr.toNat : Nat) : Int) = fr from by omega] at this
    · rw [beq_eq_false_iff_ne.2 h4, decide_eq_true (show fr ≥ 0 from h3)]; rfl
  refine Ev.bind (Q := fun r => 0 ≤ fr → (s.Events.getD a default).Kind ≠ 10 → r2 = true → r = atI l k fr) ?_ fun r3 h3 => ?_
  · refine (Ev.may (P := fun r => r = atI l k fr) fun hx => ?_).mono fun r hx h3 h4 h5 => hx ?_
    · rw [ev12 (by omega) (by omega) hn]; exact Ev.some rfl
    · rw [h5, beq_eq_false_iff_ne.2 h4, decide_eq_true (show fr ≥ 0 from h3)]; rfl
  refine Ev.ite (fun hb => Ev.some ⟨fun h => by simp at h, ?_⟩) (fun hb => ?_)
  · rintro ⟨b, hb', _, _, _, _, h5, _⟩
    obtain rfl : a = b := by omega
    simp only [Bool.and_eq_true, Bool.or_eq_true, decide_eq_true_eq, beq_iff_eq, Bool.not_eq_true'] at hb
    obtain ⟨h6, h7, h8⟩ := h5 (by omega)
    have h9 := h2 (by omega) h6
    rw [h7] at h9
    have := h3 (by omega) h6 h9
    rcases hb.2 with (hb | hb) | hb
    · exact absurd hb h6
    · rw [h9] at hb; cases hb
    · omega
  have hfrom : 0 ≤ fr → (s.Events.getD a default).Kind ≠ 10 ∧ src s a fr.toNat = true ∧ 0 ≤ atI l k fr := by
    intro h0
    simp only [Bool.and_eq_false_iff, Bool.or_eq_false_iff, decide_eq_false_iff_not, beq_eq_false_iff_ne, Bool.not_eq_false', ne_eq] at hb
    rcases hb with hb | ⟨⟨h4, h5⟩, h6⟩
    · omega
    · have := h3 h0 h4 h5
      exact ⟨h4, by rw [← h2 h0 h4]; exact h5, by omega⟩
  rw [ev48 hg ha (hd a ha)]
  simp only [Option.bind_some]
  refine Ev.ite (fun hm => ?_) (fun hm => ?_)
  · simp only [Bool.not_eq_true'] at hm
    refine Ev.ask (by rw [List.length_take]; omega) ?_
    refine Ev.ask (by rw [List.length_take]; omega) ?_
    rw [hE]
    simp only [Option.bind_some]
    refine Ev.bind (Ev.may (P := fun r => r = asks (s.Events.getD a default).Kind) fun _ => by rw [s34_eq]; exact Ev.some rfl) fun r4 h4 => ?_
    simp only [beq_iff_eq] at h4
    obtain ⟨⟨g1, g2, g3, g4, g5, g6⟩, _⟩ := hg.ev a ha
    refine Ev.ask (fun h5 h6 _ => ?_) ?_
    · simp only [beq_iff_eq] at h5
      simp only [bne_eq_false_iff_eq] at h6
      have := h4 h5
      have := (hd a ha (by omega)).1
      omega
    · refine Ev.some ⟨fun h => ?_, ?_⟩
      · simp only [Bool.and_eq_true, Bool.or_eq_true, decide_eq_true_eq, beq_iff_eq, bne_iff_ne, ne_eq] at h
        have h5 := h4 h.1
        refine ⟨a, rfl, ha, by omega, by omega, hfit, hfrom, fun h => (by rw [hm] at h; cases h), fun _ => ⟨h.1, fun h6 => ?_⟩⟩
        rcases h.2 with h | h
        · omega
        · exact h
      · rintro ⟨b, hb', _, _, _, _, _, _, h6⟩
        obtain rfl : a = b := by omega
        obtain ⟨h6, h7⟩ := h6 hm
        have h5 := h4 h6
        simp only [Bool.and_eq_true, Bool.or_eq_true, decide_eq_true_eq, beq_iff_eq, bne_iff_ne, ne_eq]
        refine ⟨h6, ?_⟩
        by_cases h8 : asks (s.Events.getD a default).Kind = 4
        · exact .inr (h7 h8)
        · left; omega
  · simp only [Bool.not_eq_false'] at hm
    refine Ev.ite (fun hq => Ev.some ⟨fun h => by simp at h, ?_⟩) (fun hq => ?_)
    · rintro ⟨b, hb', _, _, _, _, _, h6, _⟩
      obtain rfl : a = b := by omega
      obtain ⟨h7, w, h8, _⟩ := h6 hm
      simp only [Bool.or_eq_true, bne_iff_ne, ne_eq, decide_eq_true_eq] at hq
      omega
    · simp only [Bool.or_eq_false_iff, bne_eq_false_iff_eq, decide_eq_false_iff_not] at hq
      obtain ⟨w, rfl⟩ : ∃ w : Nat, wi = w := ⟨wi.toNat, by omega⟩
      simp only [Int.toNat_natCast]
      refine Ev.ask ⟨by omega, by omega⟩ ?_
      refine Ev.bind (Ev.may fun _ => ev46 hg (by omega) (by omega) hn (by omega)) fun r4 h4 => Ev.some ?_
      simp only [Bool.and_eq_true, beq_iff_eq, bne_iff_ne, ne_eq] at h4
      simp only [Bool.and_eq_true, beq_iff_eq, bne_iff_ne, ne_eq]
      constructor
      · rintro ⟨h5, h6⟩
        exact ⟨a, rfl, ha, by omega, by omega, hfit, hfrom, fun _ => ⟨hq.1, w, rfl, h5.1.1, h5.1.2, h5.2, (h4 h5).1 h6⟩, fun h => by rw [hm] at h; cases h⟩
      · rintro ⟨b, hb', _, _, _, _, _, h6, _⟩
        obtain rfl : a = b := by omega
        obtain ⟨h7, w', h8, h9, h10, h11, h12⟩ := h6 hm
        obtain rfl : w = w' := by omega
        exact ⟨⟨⟨h9, h10⟩, h11⟩, (h4 ⟨⟨h9, h10⟩, h11⟩).2 h12⟩
/-- the document's answer: may a row of entries be? -/
theorem ev24 {s : api_Shape} {d : List api_Decl} {l : List api_Entry} {n : Nat} (hg : Good s) (hn : 64 ≤ n) : Ev (s24 n s d l) fun r => (r = true ↔ (∀ i, i < s.Events.length → okD s d i) ∧ l.length ≤ 40 ∧ ∀ k, k < l.length → okE s d l k) := by
  have h40 := hg.n
  unfold s24
  obtain ⟨o, ho, h⟩ := ev24_1 (d := d) (l := l) (n := n) hg n 0 (Nat.zero_le _) (by omega) (fun i h => absurd h (Nat.not_lt_zero i))
  rw [show ((0 : Nat) : Int) = 0 from rfl] at ho
  rw [ho]
  rcases h with ⟨rfl, hd⟩ | ⟨rfl, hd⟩
  rotate_left
  · exact Ev.some ⟨fun h => by simp at h, fun h => absurd h.1 hd⟩
  dsimp only
  refine Ev.ite (fun hc => Ev.some ⟨fun h => by simp at h, fun h => ?_⟩) (fun hc => ?_)
  · simp only [decide_eq_true_eq] at hc; omega
  simp only [decide_eq_false_iff_not] at hc
  have key : Ev (l24_2 n n s d l 0) fun o => (o = .ok ∧ ∀ k, k < l.length → okE s d l k) ∨ (o = .ret false ∧ ¬ ∀ k, k < l.length → okE s d l k) := by
    refine loopEv (N := l.length) (Inv := fun k (_ : Unit) => ∀ i, i < k → okE s d l i) (fun m _ (k : Nat) => l24_2 n m s d l k) ?_ ?_ n 0 () (Nat.zero_le _) (by omega) (fun i h => absurd h (Nat.not_lt_zero i))
    · intro m k _ hk h ih
      show Ev (l24_2 n (m + 1) s d l k) _
      rw [l24_2]
      refine Ev.ite (fun hc => ?_) (fun hc => by simp only [decide_eq_false_iff_not] at hc; omega)
      refine Ev.ask ⟨by omega, by omega⟩ ?_
      refine Ev.ask ⟨by omega, by omega⟩ ?_
      simp only [Int.toNat_natCast]
      refine Ev.bind (ev36 hg hd hk (by omega) hn fun i hi => ?_) fun r hr => ?_
      · obtain ⟨a, h1, h2, _⟩ := h i hi
        omega
      · refine Ev.ite (fun hb => Ev.some (.inr ⟨rfl, fun h' => ?_⟩)) (fun hb => ?_)
        · have := hr.2 (h' k hk); rw [this] at hb; cases hb
        · simp only [Bool.not_eq_false'] at hb
          rw [w64_id (by omega) (by omega)]
          refine ih () fun i hi => ?_
          by_cases hik : i < k
          · exact h i hik
          · have : i = k := by omega
            subst this; exact hr.1 hb
    · intro m _ h
      show Ev (l24_2 n (m + 1) s d l l.length) _
      rw [l24_2]
      exact Ev.ite (fun hc => by simp only [decide_eq_true_eq] at hc; omega) (fun _ => Ev.some (.inl ⟨rfl, h⟩))
  obtain ⟨o, ho, h | h⟩ := key
  · obtain ⟨rfl, h⟩ := h
    rw [ho]
    exact Ev.some ⟨fun _ => ⟨hd, by omega, h⟩, fun _ => rfl⟩
  · obtain ⟨rfl, h⟩ := h
    rw [ho]
    exact Ev.some ⟨fun h' => by simp at h', fun h' => absurd h'.2.2 h⟩
def code55 : CCode :=
 (.seq
  (.region [⟨(some 4), (.mv (.const (.bool false))), none⟩] none)
  (.seq
  (.region [⟨(some 6), (.mv (.tmp 0)), none⟩,
   ⟨(some 7), (.nilck (.tmp 6)), none⟩,
   ⟨(some 8), (.fad 0 (.tmp 7)), none⟩,
   ⟨(some 9), (.fad 0 (.tmp 8)), none⟩,
   ⟨(some 10), (.load false 1 (.tmp 9)), none⟩,
   ⟨(some 11), (.mv (.tmp 1)), none⟩,
   ⟨(some 12), (.idx 4 (.tmp 10) (.tmp 11)), none⟩,
   ⟨(some 13), (.load true 4 (.tmp 12)), none⟩,
   ⟨(some 5), (.alloc [(.int .i64 0), (.int .i64 0), (.int .i64 0), (.int .i64 0)]), none⟩,
   ⟨none, (.store 4 (.tmp 5) (.tmp 13)), none⟩] none)
  (.seq
   (.region [⟨(some 14), (.fad 2 (.tmp 5)), none⟩,
    ⟨(some 15), (.load false 1 (.tmp 14)), none⟩,
    ⟨(some 16), (.call (.func 54) [(.tmp 15)]), none⟩,
    ⟨(some 17), (.bin 0 .eql (.tmp 16) (.const (.int .i64 4))), none⟩,
    ⟨(some 18), (.mv (.tmp 17)), none⟩,
    ⟨(some 19), (.mv (.tmp 0)), (some (18, true))⟩,
    ⟨(some 20), (.nilck (.tmp 19)), (some (18, true))⟩,
    ⟨(some 21), (.fad 2 (.tmp 20)), (some (18, true))⟩,
    ⟨(some 22), (.load false 1 (.tmp 21)), (some (18, true))⟩,
    ⟨(some 23), (.fad 3 (.tmp 5)), (some (18, true))⟩,
    ⟨(some 24), (.load false 1 (.tmp 23)), (some (18, true))⟩,
    ⟨(some 25), (.idx 4 (.tmp 22) (.tmp 24)), (some (18, true))⟩,
    ⟨(some 26), (.fad 2 (.tmp 25)), (some (18, true))⟩,
    ⟨(some 27), (.load false 1 (.tmp 26)), (some (18, true))⟩,
    ⟨(some 28), (.bin 0 .eql (.tmp 27) (.const (.int .i64 0))), (some (18, true))⟩,
    ⟨(some 29), (.pick (.tmp 18) (.tmp 28) (.const (.bool false))), none⟩,
    ⟨(some 4), (.mv (.tmp 29)), none⟩] (some (.take 0 (.take 1 (.alt 2 (.take 3 (.take 4 (.take 5 (.take 6 (.take 7 (.take 9 (.alt 8 (.alt 10 (.take 11 (.take 12 (.alt 13 (.take 14 (.take 15 (.take 16 .done))) .alt0))) .alt0) (.alt 10 (.alt 8 (.take 11 (.take 12 (.alt 13 (.take 14 (.take 15 (.take 16 .done))) .alt0))) .alt0) .alt0)))))))) .alt0)))))
   .ret)))
theorem tr55 : (Try.f55.body).bind (trCode Try.prog Try.f55.ntmps) = some code55 := by kernel_rfl
def s55_fp59d (n : Nat) (p0 : hb_log) (p1 : Int) : Option Bool :=
  if 0 ≤ p1 ∧ p1 < (p0.s.Events.length : Int) then
    (s54 n ((p0.s.Events.getD p1.toNat default).Kind)).bind fun r59 =>
    if (r59 == 4) = true → 0 ≤ ((p0.s.Events.getD p1.toNat default).Obj) ∧ ((p0.s.Events.getD p1.toNat default).Obj) < (p0.d.length : Int) then
      some ((r59 == 4) && (((p0.d.getD ((p0.s.Events.getD p1.toNat default).Obj).toNat default).Num) == 0))
    else none
  else none
def E55_fp59d (r : Bool) (s : AS) : Prop := resOf s (.one 4) = some (.tst r)
theorem wf55_fp59d {n : Nat} {p0 : hb_log} {p1 : Int} {r : Bool} (h : s55_fp59d n p0 p1 = some r) : CWP Try.prog Try.f55.ntmps code55 (AtE (E55_fp59d r)) ⟨[(0, .fpt 6 (hb_log.cell p0)), (1, I p1)], [], 0⟩ := by
  unfold s55_fp59d at h
  refine CWP.seq ?_
  refine CWP.regionT ⟨[(0, .fpt 6 (hb_log.cell p0)), (1, I p1)], [], 8⟩ ?_ ?_
  · exact Le.keep (live := [0, 1]) (names := []) (nx := 8) rfl
  refine CWP.seq ?_
  obtain ⟨hs58, h⟩ := ite_some h
  refine CWP.regionT ⟨[(0, .fpt 6 (hb_log.cell p0)), (5, .ptr 72 0)], [(72, .box [I ((p0.s.Events.getD p1.toNat default).Proc), I ((p0.s.Events.getD p1.toNat default).Inst), I ((p0.s.Events.getD p1.toNat default).Kind), I ((p0.s.Events.getD p1.toNat default).Obj)])], 88⟩ ?_ ?_
  · refine And.intro hs58 ?_
    refine SemOp.ofT ?_
    refine ex_refl ?_
    exact Le.keep (live := [0, 5]) (names := [72]) (nx := 88) rfl
  refine CWP.seq ?_
  obtain ⟨r59, hr59, h⟩ := Option.bind_eq_some_iff.1 h
  obtain ⟨hs60, h⟩ := ite_some h
  refine CWP.drawT [] [] ⟨[(4, .tst ((r59 == 4) && (((p0.d.getD ((p0.s.Events.getD p1.toNat default).Obj).toNat default).Num) == 0)))], [], 224⟩ ?_ ?_
  · refine And.intro rfl ?_
    refine And.intro rfl ?_
    refine And.intro ?_ ?_
    · refine And.intro rfl ?_
      refine FC.semT rfl rfl rfl trivial (c54 hr59) (Or.inl rfl) ?_
      refine ex_refl ?_
      iterate 2 refine And.intro rfl ?_
      refine And.intro (fun hg61 => ?_) (fun hg61 => ?_)
      · have hg61 : (r59 == 4) = true := hg61
        iterate 4 refine And.intro rfl ?_
        refine And.intro ?_ ?_
        · refine And.intro rfl ?_
          refine And.intro ?_ ?_
          · refine And.intro rfl ?_
            refine And.intro rfl ?_
            refine And.intro (hs60 (by simp only [hg61, sB, reduceIte])) ?_
            refine And.intro rfl ?_
            refine And.intro ?_ ?_
            · refine And.intro rfl ?_
              iterate 3 refine And.intro rfl ?_
              exact Le.trans (Le.rep (t := 4) rfl (RepLe.fr rfl (FrLe.tst2 (by simp only [hg61, sB, reduceIte])))) (Le.keep (live := [4]) (names := []) (nx := 224) rfl)
            · exact trivial
          · exact trivial
        · refine And.intro ?_ ?_
          · refine And.intro rfl ?_
            refine And.intro ?_ ?_
            · refine And.intro rfl ?_
              refine And.intro rfl ?_
              refine And.intro (hs60 (by simp only [hg61, sB, reduceIte])) ?_
              refine And.intro rfl ?_
              refine And.intro ?_ ?_
              · refine And.intro rfl ?_
                iterate 3 refine And.intro rfl ?_
                exact Le.trans (Le.rep (t := 4) rfl (RepLe.fr rfl (FrLe.tst2 (by simp only [hg61, sB, reduceIte])))) (Le.keep (live := [4]) (names := []) (nx := 224) rfl)
              · exact trivial
            · exact trivial
          · exact trivial
      · have hg61 : (r59 == 4) = false := hg61
        refine And.intro ?_ ?_
        · refine And.intro ?_ ?_
          · refine And.intro ?_ ?_
            · refine And.intro rfl ?_
              refine And.intro rfl ?_
              exact Le.trans (Le.rep (t := 4) rfl (RepLe.fr rfl (FrLe.tst (by simp only [hg61, sB, reduceIte])))) (Le.keep (live := [4]) (names := []) (nx := 224) rfl)
            · exact trivial
          · exact trivial
        · refine And.intro ?_ ?_
          · refine And.intro ?_ ?_
            · refine And.intro ?_ ?_
              · refine And.intro rfl ?_
                refine And.intro rfl ?_
                exact Le.trans (Le.rep (t := 4) rfl (RepLe.fr rfl (FrLe.tst (by simp only [hg61, sB, reduceIte])))) (Le.keep (live := [4]) (names := []) (nx := 224) rfl)
              · exact trivial
            · exact trivial
          · exact trivial
    · exact trivial
  refine CWP.ret ?_
  have e := Option.some.inj h
  subst e
  exact rfl
theorem c55_fp59d {n : Nat} {p0 : hb_log} {p1 : Int} {r : Bool} (h : s55_fp59d n p0 p1 = some r) : FC Try.prog 55 [.fpt 6 (hb_log.cell p0), I p1] (.tst r) [] false := FC.pureE (fn := Try.f55) (cc := code55) (res := .one 4) (by kernel_rfl) (by kernel_rfl) tr55 (by kernel_rfl) (Nat.le_of_ble_eq_true rfl) rfl (wf55_fp59d h)
def code65 : CCode :=
 (.seq
  (.region [⟨(some 2), (.box 2 (.tmp 0)), none⟩,
   ⟨(some 4), (.mv (.const (.bool false))), none⟩] none)
  (.seq
  (.region [⟨(some 5), (.load true 2 (.tmp 2)), none⟩,
   ⟨(some 6), (.call (.func 37) [(.tmp 5)]), none⟩,
   ⟨(some 7), (.bin 0 .eql (.tmp 6) (.const (.int .i64 0))), none⟩,
   ⟨(some 8), (.mv (.tmp 7)), none⟩,
   ⟨(some 9), (.mv (.tmp 1)), (some (8, true))⟩,
   ⟨(some 10), (.bin 0 .geq (.tmp 9) (.const (.int .i64 0))), (some (8, true))⟩,
   ⟨(some 11), (.pick (.tmp 8) (.tmp 10) (.const (.bool false))), none⟩,
   ⟨(some 12), (.mv (.tmp 11)), none⟩,
   ⟨(some 13), (.mv (.tmp 1)), (some (12, true))⟩,
   ⟨(some 14), (.fad 0 (.tmp 2)), (some (12, true))⟩,
   ⟨(some 15), (.load false 1 (.tmp 14)), (some (12, true))⟩,
   ⟨(some 16), (.len 1 (.tmp 15)), (some (12, true))⟩,
   ⟨(some 17), (.bin 0 .lss (.tmp 13) (.tmp 16)), (some (12, true))⟩,
   ⟨(some 18), (.pick (.tmp 12) (.tmp 17) (.const (.bool false))), none⟩,
   ⟨(some 4), (.mv (.tmp 18)), none⟩] none)
  .ret))
theorem tr65 : (Try.f65.body).bind (trCode Try.prog Try.f65.ntmps) = some code65 := by kernel_rfl
def s65 (n : Nat) (p0 : api_Shape) (p1 : Int) : Option Bool :=
  (s37 n p0).bind fun r64 =>
  some (((r64 == 0) && (decide (p1 ≥ 0))) && (decide (p1 < (p0.Events.length : Int))))
def E65 (r : Bool) (s : AS) : Prop := resOf s (.one 4) = some (.tst r)
theorem wf65 {n : Nat} {p0 : api_Shape} {p1 : Int} {r : Bool} (h : s65 n p0 p1 = some r) : CWP Try.prog Try.f65.ntmps code65 (AtE (E65 r)) ⟨[(0, .agg (api_Shape.cs p0)), (1, I p1)], [], 0⟩ := by
  unfold s65 at h
  refine CWP.seq ?_
  refine CWP.regionT ⟨[(1, I p1), (2, .ptr 0 0)], [(0, .box (api_Shape.cs p0))], 16⟩ ?_ ?_
  · exact Le.keep (live := [1, 2]) (names := [0]) (nx := 16) rfl
  refine CWP.seq ?_
  obtain ⟨r64, hr64, h⟩ := Option.bind_eq_some_iff.1 h
  refine CWP.regionT ⟨[(4, .tst (((r64 == 0) && (decide (p1 ≥ 0))) && (decide (p1 < (p0.Events.length : Int)))))], [], 136⟩ ?_ ?_
  · refine FC.semT rfl rfl rfl trivial (c37 hr64) (Or.inl rfl) ?_
    refine ex_refl ?_
    refine And.intro (fun hg65 => ?_) (fun hg65 => ?_)
    · have hg65 : (r64 == 0) = true := hg65
      refine And.intro (fun hg66 => ?_) (fun hg66 => ?_)
      · have hg66 : (decide (p1 ≥ 0)) = true := hg66
        exact Le.trans (Le.rep (t := 4) rfl (RepLe.fr rfl (FrLe.tst2 (by simp only [hg65, hg66, sB, reduceIte])))) (Le.keep (live := [4]) (names := []) (nx := 136) rfl)
      · have hg66 : (decide (p1 ≥ 0)) = false := hg66
        exact Le.trans (Le.rep (t := 4) rfl (RepLe.fr rfl (FrLe.tst (by simp only [hg65, hg66, sB, reduceIte])))) (Le.keep (live := [4]) (names := []) (nx := 136) rfl)
    · have hg65 : (r64 == 0) = false := hg65
      exact Le.trans (Le.rep (t := 4) rfl (RepLe.fr rfl (FrLe.tst (by simp only [hg65, sB, reduceIte])))) (Le.keep (live := [4]) (names := []) (nx := 136) rfl)
  refine CWP.ret ?_
  have e := Option.some.inj h
  subst e
  exact rfl
theorem c65 {n : Nat} {p0 : api_Shape} {p1 : Int} {r : Bool} (h : s65 n p0 p1 = some r) : FC Try.prog 65 [.agg (api_Shape.cs p0), I p1] (.tst r) [] false := FC.pureE (fn := Try.f65) (cc := code65) (res := .one 4) (by kernel_rfl) (by kernel_rfl) tr65 (by kernel_rfl) (Nat.le_of_ble_eq_true rfl) rfl (wf65 h)
def code57_1 : CCode :=
 (.block 1
  (.seq
  (.region [⟨(some 20), (.mv (.tmp 18)), none⟩,
   ⟨(some 21), (.idx 4 (.tmp 16) (.tmp 18)), none⟩,
   ⟨(some 22), (.load true 4 (.tmp 21)), none⟩,
   ⟨(some 8), (.alloc [(.int .i64 0), (.int .i64 0), (.int .i64 0), (.int .i64 0)]), none⟩,
   ⟨(some 7), (.mv (.tmp 20)), none⟩,
   ⟨none, (.store 4 (.tmp 8) (.tmp 22)), none⟩] none)
  (.seq
   (.region [⟨(some 23), (.mv (.tmp 7)), none⟩,
    ⟨(some 24), (.mv (.tmp 1)), none⟩,
    ⟨(some 25), (.bin 0 .neq (.tmp 23) (.tmp 24)), none⟩,
    ⟨(some 26), (.mv (.tmp 25)), none⟩,
    ⟨(some 27), (.fad 3 (.tmp 8)), (some (26, true))⟩,
    ⟨(some 28), (.load false 1 (.tmp 27)), (some (26, true))⟩,
    ⟨(some 29), (.fad 0 (.tmp 2)), (some (26, true))⟩,
    ⟨(some 30), (.load false 1 (.tmp 29)), (some (26, true))⟩,
    ⟨(some 31), (.mv (.tmp 1)), (some (26, true))⟩,
    ⟨(some 32), (.idx 4 (.tmp 30) (.tmp 31)), (some (26, true))⟩,
    ⟨(some 33), (.fad 3 (.tmp 32)), (some (26, true))⟩,
    ⟨(some 34), (.load false 1 (.tmp 33)), (some (26, true))⟩,
    ⟨(some 35), (.bin 0 .eql (.tmp 28) (.tmp 34)), (some (26, true))⟩,
    ⟨(some 36), (.pick (.tmp 26) (.tmp 35) (.const (.bool false))), none⟩,
    ⟨(some 37), (.mv (.tmp 36)), none⟩,
    ⟨(some 38), (.fad 2 (.tmp 8)), (some (37, true))⟩,
    ⟨(some 39), (.load false 1 (.tmp 38)), (some (37, true))⟩,
    ⟨(some 40), (.fad 0 (.tmp 2)), (some (37, true))⟩,
    ⟨(some 41), (.load false 1 (.tmp 40)), (some (37, true))⟩,
    ⟨(some 42), (.mv (.tmp 1)), (some (37, true))⟩,
    ⟨(some 43), (.idx 4 (.tmp 41) (.tmp 42)), (some (37, true))⟩,
    ⟨(some 44), (.fad 2 (.tmp 43)), (some (37, true))⟩,
    ⟨(some 45), (.load false 1 (.tmp 44)), (some (37, true))⟩,
    ⟨(some 46), (.call (.func 66) [(.tmp 39), (.tmp 45)]), (some (37, true))⟩,
    ⟨(some 47), (.pick (.tmp 37) (.tmp 46) (.const (.bool false))), none⟩,
    ⟨(some 48), (.mv (.tmp 47)), none⟩,
    ⟨(some 49), (.mv (.tmp 6)), (some (48, true))⟩,
    ⟨(some 50), (.mv (.tmp 1)), (some (48, true))⟩,
    ⟨(some 51), (.idx 1 (.tmp 49) (.tmp 50)), (some (48, true))⟩,
    ⟨(some 52), (.load false 1 (.tmp 51)), (some (48, true))⟩,
    ⟨(some 53), (.mv (.tmp 7)), (some (48, true))⟩,
    ⟨(some 54), (.idx 1 (.tmp 52) (.tmp 53)), (some (48, true))⟩,
    ⟨(some 55), (.load false 1 (.tmp 54)), (some (48, true))⟩,
    ⟨(some 56), (.un .not (.tmp 55)), (some (48, true))⟩,
    ⟨(some 57), (.pick (.tmp 48) (.tmp 56) (.const (.bool false))), none⟩] (some (.take 0 (.take 1 (.take 2 (.take 3 (.take 4 (.take 5 (.take 6 (.take 7 (.take 8 (.take 9 (.take 10 (.take 11 (.take 12 (.take 13 (.take 14 (.take 15 (.take 16 (.take 17 (.take 18 (.take 19 (.take 20 (.take 21 (.take 22 (.alt 23 (.take 24 (.take 25 (.take 26 (.take 27 (.take 28 (.take 30 (.alt 29 (.take 31 (.alt 32 (.take 33 (.take 34 .done)) .alt0)) .alt0))))))) .alt0))))))))))))))))))))))))))
   (.cond (.tmp 57)
   (.region [⟨(some 58), (.mv (.tmp 5)), none⟩,
    ⟨(some 59), (.mv (.tmp 7)), none⟩,
    ⟨(some 60), (.lit 0 1 1 [(0, (.tmp 59))]), none⟩,
    ⟨(some 61), (.app 1 8 (.tmp 58) (.tmp 60)), none⟩,
    ⟨(some 5), (.mv (.tmp 61)), none⟩] none)
   .skip))))
def code57_2 : CCode :=
 (.block 0
  (.loop
  (.seq
   (.region [⟨(some 19), (.bin 0 .lss (.tmp 18) (.tmp 17)), none⟩] none)
   (.seq
   (.cond (.tmp 19)
    .skip
    (.exit 0))
   (.seq
    code57_1
    (.region [⟨(some 62), (.bin 0 .add (.tmp 18) (.const (.int .i64 1))), none⟩,
     ⟨(some 18), (.mv (.tmp 62)), none⟩] none))))))
def code57 : CCode :=
 (.seq
  (.region [⟨(some 2), (.box 2 (.tmp 0)), none⟩,
   ⟨(some 4), (.mv (.const (.slice none 0 0))), none⟩] none)
  (.seq
  (.seq
   (.region [⟨(some 9), (.load true 2 (.tmp 2)), none⟩,
    ⟨(some 10), (.mv (.tmp 1)), none⟩,
    ⟨(some 11), (.call (.func 65) [(.tmp 9), (.tmp 10)]), none⟩,
    ⟨(some 12), (.un .not (.tmp 11)), none⟩] none)
   (.cond (.tmp 12)
   (.seq
    (.region [⟨(some 4), (.mv (.const (.slice none 0 0))), none⟩] none)
    .ret)
   .skip))
  (.seq
   (.region [⟨(some 5), (.mv (.const (.slice none 0 0))), none⟩] none)
   (.seq
   (.region [⟨(some 13), (.load true 2 (.tmp 2)), none⟩,
    ⟨(some 14), (.call (.func 42) [(.tmp 13)]), none⟩,
    ⟨(some 6), (.mv (.tmp 14)), none⟩] none)
   (.seq
    (.seq
    (.region [⟨(some 15), (.fad 0 (.tmp 2)), none⟩,
     ⟨(some 16), (.load false 1 (.tmp 15)), none⟩,
     ⟨(some 17), (.len 1 (.tmp 16)), none⟩,
     ⟨(some 18), (.mv (.const (.int .i64 0))), none⟩] none)
    code57_2)
    (.seq
    (.region [⟨(some 63), (.mv (.tmp 5)), none⟩,
     ⟨(some 4), (.mv (.tmp 63)), none⟩] none)
    .ret))))))
theorem tr57 : (Try.f57.body).bind (trCode Try.prog Try.f57.ntmps) = some code57 := by kernel_rfl
inductive O57_2 where
  | ok (b0 : api_Shape) (b1 : List Int) (b2 : List (List Bool)) (v1 : Int) (v16 : List api_Event) (v17 : Int) (v18 : Int)
def l57_2 (n : Nat) (b0 : api_Shape) (b1 : List Int) (b2 : List (List Bool)) (v1 : Int) (v16 : List api_Event) (v17 : Int) (v18 : Int) : Option O57_2 :=
  if 0 ≤ v18 ∧ v18 < (v16.length : Int) then
    if (v18 != v1) = true → 0 ≤ v1 ∧ v1 < (b0.Events.length : Int) then
      if ((v18 != v1) && (((v16.getD v18.toNat default).Obj) == ((b0.Events.getD v1.toNat default).Obj))) = true → 0 ≤ v1 ∧ v1 < (b0.Events.length : Int) then
        (if ((v18 != v1) && (((v16.getD v18.toNat default).Obj) == ((b0.Events.getD v1.toNat default).Obj))) then s66 n ((v16.getD v18.toNat default).Kind) ((b0.Events.getD v1.toNat default).Kind) else some false).bind fun r100 =>
        if (((v18 != v1) && (((v16.getD v18.toNat default).Obj) == ((b0.Events.getD v1.toNat default).Obj))) && r100) = true → 0 ≤ v1 ∧ v1 < (b2.length : Int) then
          if (((v18 != v1) && (((v16.getD v18.toNat default).Obj) == ((b0.Events.getD v1.toNat default).Obj))) && r100) = true → 0 ≤ v18 ∧ v18 < (((b2.getD v1.toNat []).length) : Int) then
            if (((v18 != v1) && (((v16.getD v18.toNat default).Obj) == ((b0.Events.getD v1.toNat default).Obj))) && r100) && (!((b2.getD v1.toNat []).getD v18.toNat false)) then
              if (b1.length + 1) * 8 ≤ 140737488355328 then
                some (.ok b0 (b1 ++ ([v18] : List Int)) b2 v1 v16 v17 v18)
              else none
            else
              some (.ok b0 b1 b2 v1 v16 v17 v18)
          else none
        else none
      else none
    else none
  else none
inductive O57_3 where
  | ok (b0 : List Int)
def l57_3 (n : Nat) : Nat → api_Shape → (List Int) → (List (List Bool)) → Int → (List api_Event) → Int → Int → Option O57_3
  | 0, _, _, _, _, _, _, _ => none
  | m + 1, b0, b1, b2, v1, v16, v17, v18 =>
    if decide (v18 < v17) then
      (match l57_2 n b0 b1 b2 v1 v16 v17 v18 with
      | none => none
      | some (.ok b0_110 b1_110 b2_110 v1_110 v16_110 v17_110 v18_110) =>
        l57_3 n m b0_110 b1_110 b2_110 v1_110 v16_110 v17_110 (w64 (v18_110 + 1)))
    else
      some (.ok b1)
def s57 (n : Nat) (p0 : api_Shape) (p1 : Int) : Option (List Int) :=
  (s65 n p0 p1).bind fun r63 =>
  if !r63 then
    some ([] : List Int)
  else
    (s42 n p0).bind fun r64 =>
    (match l57_3 n n p0 ([] : List Int) r64 p1 p0.Events (p0.Events.length : Int) 0 with
    | none => none
    | some (.ok b0_112) =>
      some b0_112)
def E57 (r : List Int) (s : AS) : Prop := resOf s (.one 4) = some (.own 0 1 0 r.length) ∧ EndSt [(0, 0)] s.st [(0, .li 1 cI 0 r)] ∧ PinEnd (fun _ => none) s.st []
theorem t57_2 {n : Nat} {b0 : api_Shape} {b1 : List Int} {b2 : List (List Bool)} {v1 : Int} {v16 : List api_Event} {v17 : Int} {v18 : Int} {out : O57_2} (h : l57_2 n b0 b1 b2 v1 v16 v17 v18 = some out) {Q : Ex → AS → Prop} (hok : ∀ b0 b1 b2 v1 v16 v17 v18, out = .ok b0 b1 b2 v1 v16 v17 v18 → Q .normal ⟨[(1, I v1), (2, .ptr 0 0), (5, .own 1 1 0 b1.length), (6, .own 2 1 0 b2.length), (16, api_Event.sl v16), (17, I v17), (18, I v18)], [(0, .box (api_Shape.cs b0)), (1, .li 1 cI 0 b1), (2, .ml cB false b2)], 3⟩) : CWP Try.prog Try.f57.ntmps code57_1 Q ⟨[(1, I v1), (2, .ptr 0 0), (5, .own 1 1 0 b1.length), (6, .own 2 1 0 b2.length), (16, api_Event.sl v16), (17, I v17), (18, I v18)], [(0, .box (api_Shape.cs b0)), (1, .li 1 cI 0 b1), (2, .ml cB false b2)], 3⟩ := by
  unfold l57_2 at h
  refine CWP.block ?_
  refine CWP.seq ?_
  obtain ⟨hs97, h⟩ := ite_some h
  refine CWP.regionT ⟨[(1, I v1), (2, .ptr 0 0), (5, .own 1 1 0 b1.length), (6, .own 2 1 0 b2.length), (7, I v18), (8, .ptr 27 0), (16, api_Event.sl v16), (17, I v17), (18, I v18)], [(0, .box (api_Shape.cs b0)), (1, .li 1 cI 0 b1), (2, .ml cB false b2), (27, .box [I ((v16.getD v18.toNat default).Proc), I ((v16.getD v18.toNat default).Inst), I ((v16.getD v18.toNat default).Kind), I ((v16.getD v18.toNat default).Obj)])], 51⟩ ?_ ?_
  · refine And.intro hs97 ?_
    refine SemOp.ofT ?_
    refine ex_refl ?_
    exact Le.keep (live := [1, 2, 5, 6, 7, 8, 16, 17, 18]) (names := [0, 1, 2, 27]) (nx := 51) rfl
  refine CWP.seq ?_
  obtain ⟨hs98, h⟩ := ite_some h
  obtain ⟨hs99, h⟩ := ite_some h
  obtain ⟨r100, hr100, h⟩ := Option.bind_eq_some_iff.1 h
  obtain ⟨hs101, h⟩ := ite_some h
  obtain ⟨hs102, h⟩ := ite_some h
  refine CWP.drawT [] [] ⟨[(1, I v1), (2, .ptr 0 0), (5, .own 1 1 0 b1.length), (6, .own 2 1 0 b2.length), (7, I v18), (16, api_Event.sl v16), (17, I v17), (18, I v18), (57, .tst ((((v18 != v1) && (((v16.getD v18.toNat default).Obj) == ((b0.Events.getD v1.toNat default).Obj))) && r100) && (!((b2.getD v1.toNat []).getD v18.toNat false))))], [(0, .box (api_Shape.cs b0)), (1, .li 1 cI 0 b1), (2, .ml cB false b2)], 331⟩ ?_ ?_
  · refine And.intro rfl ?_
    iterate 3 refine And.intro rfl ?_
    refine And.intro (fun hg104 => ?_) (fun hg104 => ?_)
    · have hg104 : (v18 != v1) = true := hg104
      iterate 6 refine And.intro rfl ?_
      refine And.intro (hs98 (by simp only [hg104, sB, reduceIte])) ?_
      iterate 5 refine And.intro rfl ?_
      refine And.intro (fun hg105 => ?_) (fun hg105 => ?_)
      · have hg105 : (((v16.getD v18.toNat default).Obj) == ((b0.Events.getD v1.toNat default).Obj)) = true := hg105
        iterate 6 refine And.intro rfl ?_
        refine And.intro (hs99 (by simp only [hg104, hg105, sB, reduceIte])) ?_
        iterate 2 refine And.intro rfl ?_
        refine And.intro ?_ ?_
        · refine And.intro rfl ?_
          refine FC.semT rfl rfl rfl trivial (c66 (ite_t hr100 (by simp only [hg104, hg105, sB, reduceIte]))) (Or.inl rfl) ?_
          refine ex_refl ?_
          iterate 2 refine And.intro rfl ?_
          refine And.intro (fun hg106 => ?_) (fun hg106 => ?_)
          · have hg106 : (r100) = true := hg106
            iterate 3 refine And.intro rfl ?_
            refine And.intro (hs101 (by simp only [hg104, hg105, hg106, sB, reduceIte])) ?_
            refine And.intro rfl ?_
            refine And.intro ?_ ?_
            · refine And.intro rfl ?_
              refine And.intro (idx_lt (hs101 (by simp only [hg104, hg105, hg106, sB, reduceIte]))) ?_
              refine And.intro rfl ?_
              refine And.intro (hs102 (by simp only [hg104, hg105, hg106, sB, reduceIte])) ?_
              refine And.intro ?_ ?_
              · refine And.intro rfl ?_
                refine And.intro ⟨idx_lt (hs101 (by simp only [hg104, hg105, hg106, sB, reduceIte])), idx_lt (hs102 (by simp only [hg104, hg105, hg106, sB, reduceIte]))⟩ ?_
                iterate 2 refine And.intro rfl ?_
                exact Le.trans (Le.rep (t := 57) rfl (RepLe.fr rfl (FrLe.tst2 (by simp only [hg104, hg105, hg106, sB, reduceIte])))) (Le.keep (live := [1, 2, 5, 6, 7, 16, 17, 18, 57]) (names := [0, 1, 2]) (nx := 331) rfl)
              · exact trivial
            · exact trivial
          · have hg106 : (r100) = false := hg106
            refine And.intro ?_ ?_
            · refine And.intro ?_ ?_
              · refine And.intro rfl ?_
                exact Le.trans (Le.rep (t := 57) rfl (RepLe.fr rfl (FrLe.tst (by simp only [hg104, hg105, hg106, sB, reduceIte])))) (Le.keep (live := [1, 2, 5, 6, 7, 16, 17, 18, 57]) (names := [0, 1, 2]) (nx := 331) rfl)
              · exact trivial
            · exact trivial
        · exact trivial
      · have hg105 : (((v16.getD v18.toNat default).Obj) == ((b0.Events.getD v1.toNat default).Obj)) = false := hg105
        refine And.intro ?_ ?_
        · refine And.intro rfl ?_
          refine And.intro rfl ?_
          refine And.intro ?_ ?_
          · refine And.intro ?_ ?_
            · refine And.intro rfl ?_
              exact Le.trans (Le.rep (t := 57) rfl (RepLe.fr rfl (FrLe.tst (by simp only [hg104, hg105, sB, reduceIte])))) (Le.keep (live := [1, 2, 5, 6, 7, 16, 17, 18, 57]) (names := [0, 1, 2]) (nx := 331) rfl)
            · exact trivial
          · exact trivial
        · exact trivial
    · have hg104 : (v18 != v1) = false := hg104
      iterate 2 refine And.intro rfl ?_
      refine And.intro ?_ ?_
      · refine And.intro rfl ?_
        refine And.intro rfl ?_
        refine And.intro ?_ ?_
        · refine And.intro ?_ ?_
          · refine And.intro rfl ?_
            exact Le.trans (Le.rep (t := 57) rfl (RepLe.fr rfl (FrLe.tst (by simp only [hg104, sB, reduceIte])))) (Le.keep (live := [1, 2, 5, 6, 7, 16, 17, 18, 57]) (names := [0, 1, 2]) (nx := 331) rfl)
          · exact trivial
        · exact trivial
      · exact trivial
  refine CWP.cond (And.intro (fun hc => ?_) (fun hc => ?_))
  · have h := ite_t h hc
    obtain ⟨hs103, h⟩ := ite_some h
    refine CWP.regionT ⟨[(1, I v1), (2, .ptr 0 0), (5, .own 1 1 0 ((b1 ++ ([v18] : List Int)).length)), (6, .own 2 1 0 b2.length), (16, api_Event.sl v16), (17, I v17), (18, I v18)], [(0, .box (api_Shape.cs b0)), (1, .li 1 cI 0 (b1 ++ ([v18] : List Int))), (2, .ml cB false b2)], 3⟩ ?_ ?_
    · refine SemOp.ofT ?_
      refine ex_arr ([v18] : List Int) (x := 347) (sz := 1) (n := 1) (cell := cI) (d := 0) rfl (by intro j c hj hc; match j, hj with | 0, _ => (match c, hc with | 0, _ => rfl | _ + 1, h => exact absurd h (by omega)) | _ + 1, h => exact absurd h (by omega)) ?_
      refine SemOp.ofT ?_
      refine And.intro ⟨Nat.le_refl _, hs103, Nat.le_refl _⟩ ?_
      refine ex_arr (b1 ++ ([v18] : List Int)) (x := 1) (cell := cI) (d := 0) rfl (li_ap rfl rfl) ?_
      exact Le.trans (Le.trans (Le.list (x := 1) rfl (cell := cI) (d := 0) (l := b1 ++ ([v18] : List Int)) (len_app (l := b1) (k := ([v18] : List Int)) (n := b1.length) (m := 1) rfl rfl) (fun _ _ _ _ => rfl)) (Le.trans (Le.rep (t := 5) rfl (RepLe.ownLen (len_app (l := b1) (k := ([v18] : List Int)) (n := b1.length) (m := 1) rfl rfl).symm)) (Le.keep (live := [1, 2, 5, 6, 16, 17, 18]) (names := [0, 1, 2]) (nx := 371) rfl))) (Le.keep (live := [1, 2, 5, 6, 16, 17, 18]) (names := [0, 1, 2]) (nx := 3) rfl)
    exact hok _ _ _ _ _ _ _ (Option.some.inj h).symm
  · have h := ite_f h hc
    refine CWP.skipL (Le.keep (live := [1, 2, 5, 6, 16, 17, 18]) (names := [0, 1, 2]) (nx := 3) rfl) (s' := ⟨[(1, I v1), (2, .ptr 0 0), (5, .own 1 1 0 b1.length), (6, .own 2 1 0 b2.length), (16, api_Event.sl v16), (17, I v17), (18, I v18)], [(0, .box (api_Shape.cs b0)), (1, .li 1 cI 0 b1), (2, .ml cB false b2)], 3⟩) ?_
    exact hok _ _ _ _ _ _ _ (Option.some.inj h).symm
theorem t57_3 {n fuel : Nat} {b0 : api_Shape} {b1 : List Int} {b2 : List (List Bool)} {v1 : Int} {v16 : List api_Event} {v17 : Int} {v18 : Int} {out : O57_3} (h : l57_3 n fuel b0 b1 b2 v1 v16 v17 v18 = some out) {Q : Ex → AS → Prop} (hok : ∀ b0, out = .ok b0 → Q .normal ⟨[(5, .own 0 1 0 b0.length)], [(0, .li 1 cI 0 b0)], 1⟩) : CWP Try.prog Try.f57.ntmps code57_2 Q ⟨[(1, I v1), (2, .ptr 0 0), (5, .own 1 1 0 b1.length), (6, .own 2 1 0 b2.length), (16, api_Event.sl v16), (17, I v17), (18, I v18)], [(0, .box (api_Shape.cs b0)), (1, .li 1 cI 0 b1), (2, .ml cB false b2)], 3⟩ := by
  refine CWP.block ?_
  refine CWP.loop (fun k s => ∃ b0 : api_Shape, ∃ b1 : List Int, ∃ b2 : List (List Bool), ∃ v1 : Int, ∃ v16 : List api_Event, ∃ v17 : Int, ∃ v18 : Int, s = ⟨[(1, I v1), (2, .ptr 0 0), (5, .own 1 1 0 b1.length), (6, .own 2 1 0 b2.length), (16, api_Event.sl v16), (17, I v17), (18, I v18)], [(0, .box (api_Shape.cs b0)), (1, .li 1 cI 0 b1), (2, .ml cB false b2)], 3⟩ ∧ l57_3 n k b0 b1 b2 v1 v16 v17 v18 = some out) fuel ⟨b0, b1, b2, v1, v16, v17, v18, rfl, h⟩ ?_
  clear h
  rintro k s ⟨b0, b1, b2, v1, v16, v17, v18, rfl, h⟩
  cases k with
  | zero => cases h
  | succ m =>
    rw [l57_3] at h
    refine CWP.seq ?_
    refine CWP.regionT ⟨[(1, I v1), (2, .ptr 0 0), (5, .own 1 1 0 b1.length), (6, .own 2 1 0 b2.length), (16, api_Event.sl v16), (17, I v17), (18, I v18), (19, .tst (decide (v18 < v17)))], [(0, .box (api_Shape.cs b0)), (1, .li 1 cI 0 b1), (2, .ml cB false b2)], 11⟩ ?_ ?_
    · exact Le.keep (live := [1, 2, 5, 6, 16, 17, 18, 19]) (names := [0, 1, 2]) (nx := 11) rfl
    refine CWP.seq ?_
    refine CWP.cond (And.intro (fun hc => ?_) (fun hc => ?_))
    · have h := ite_t h hc
      refine CWP.skip ?_
      refine CWP.seq ?_
      generalize hn109 : l57_2 n b0 b1 b2 v1 v16 v17 v18 = o109 at h
      rcases o109 with _ | o109
      · cases h
      refine CWP.weaken (s' := ⟨[(1, I v1), (2, .ptr 0 0), (5, .own 1 1 0 b1.length), (6, .own 2 1 0 b2.length), (16, api_Event.sl v16), (17, I v17), (18, I v18)], [(0, .box (api_Shape.cs b0)), (1, .li 1 cI 0 b1), (2, .ml cB false b2)], 3⟩) (Le.keep (live := [1, 2, 5, 6, 16, 17, 18]) (names := [0, 1, 2]) (nx := 3) rfl) ?_
      refine t57_2 hn109 ?_
      · intro b0_110 b1_110 b2_110 v1_110 v16_110 v17_110 v18_110 e
        subst e
        dsimp only at h
        refine CWP.regionT ⟨[(1, I v1_110), (2, .ptr 0 0), (5, .own 1 1 0 b1_110.length), (6, .own 2 1 0 b2_110.length), (16, api_Event.sl v16_110), (17, I v17_110), (18, I (w64 (v18_110 + 1)))], [(0, .box (api_Shape.cs b0_110)), (1, .li 1 cI 0 b1_110), (2, .ml cB false b2_110)], 3⟩ ?_ ?_
        · exact Le.trans (Le.keep (live := [1, 2, 5, 6, 16, 17, 18]) (names := [0, 1, 2]) (nx := 19) rfl) (Le.keep (live := [1, 2, 5, 6, 16, 17, 18]) (names := [0, 1, 2]) (nx := 3) rfl)
        exact ⟨m, Nat.lt_succ_self m, _, _, _, _, _, _, _, rfl, h⟩
    · have h := ite_f h hc
      refine CWP.exitL (Le.ren [(0, 1)] rfl ⟨rfl, trivial⟩ ⟨⟨_, rfl, rfl⟩, trivial⟩) (s' := ⟨[(5, .own 0 1 0 b1.length)], [(0, .li 1 cI 0 b1)], 1⟩) ?_
      exact hok _ (Option.some.inj h).symm
theorem wf57 {n : Nat} {p0 : api_Shape} {p1 : Int} {r : List Int} (h : s57 n p0 p1 = some r) : CWP Try.prog Try.f57.ntmps code57 (AtE (E57 r)) ⟨[(0, .agg (api_Shape.cs p0)), (1, I p1)], [], 0⟩ := by
  unfold s57 at h
  refine CWP.seq ?_
  refine CWP.regionT ⟨[(1, I p1), (2, .ptr 0 0)], [(0, .box (api_Shape.cs p0))], 16⟩ ?_ ?_
  · exact Le.keep (live := [1, 2]) (names := [0]) (nx := 16) rfl
  refine CWP.seq ?_
  refine CWP.seq ?_
  obtain ⟨r63, hr63, h⟩ := Option.bind_eq_some_iff.1 h
  refine CWP.regionT ⟨[(1, I p1), (2, .ptr 0 0), (12, .tst !r63)], [(0, .box (api_Shape.cs p0))], 48⟩ ?_ ?_
  · refine FC.semT rfl rfl rfl trivial (c65 hr63) (Or.inl rfl) ?_
    refine ex_refl ?_
    exact Le.keep (live := [1, 2, 12]) (names := [0]) (nx := 48) rfl
  refine CWP.cond (And.intro (fun hc => ?_) (fun hc => ?_))
  · have h := ite_t h hc
    refine CWP.seq ?_
    refine CWP.regionT ⟨[(4, .raw (.slice none 0 0))], [], 56⟩ ?_ ?_
    · exact Le.keep (live := [4]) (names := []) (nx := 56) rfl
    refine CWP.weaken (s' := ⟨[(4, .own 0 1 0 (([] : List Int).length))], [(0, .li 1 cI 0 ([] : List Int))], 1⟩) (Le.trans (Le.nilOwn (t := 4) (sz := 1) (f := fun j => cI (([] : List Int).getD j 0)) rfl (by decide)) (Le.ren [(0, 56)] rfl ⟨rfl, trivial⟩ ⟨⟨_, rfl, rfl⟩, trivial⟩)) ?_
    refine CWP.ret ?_
    have e := Option.some.inj h
    subst e
    exact ⟨rfl, ⟨⟨_, rfl, rfl⟩, trivial⟩, trivial⟩
  · have h := ite_f h hc
    refine CWP.skip ?_
    refine CWP.seq ?_
    refine CWP.regionT ⟨[(1, I p1), (2, .ptr 0 0), (5, .raw (.slice none 0 0))], [(0, .box (api_Shape.cs p0))], 56⟩ ?_ ?_
    · exact Le.keep (live := [1, 2, 5]) (names := [0]) (nx := 56) rfl
    refine CWP.seq ?_
    obtain ⟨r64, hr64, h⟩ := Option.bind_eq_some_iff.1 h
    refine CWP.regionT ⟨[(1, I p1), (2, .ptr 0 0), (5, .raw (.slice none 0 0)), (6, .own 64 1 0 r64.length)], [(0, .box (api_Shape.cs p0)), (64, .ml cB false r64)], 80⟩ ?_ ?_
    · refine FC.semT rfl rfl rfl trivial (c42 hr64) (Or.inl rfl) ?_
      refine ex_refl ?_
      exact Le.keep (live := [1, 2, 5, 6]) (names := [0, 64]) (nx := 80) rfl
    refine CWP.seq ?_
    refine CWP.seq ?_
    refine CWP.regionT ⟨[(1, I p1), (2, .ptr 0 0), (5, .raw (.slice none 0 0)), (6, .own 64 1 0 r64.length), (16, api_Event.sl p0.Events), (17, I (p0.Events.length : Int)), (18, I 0)], [(0, .box (api_Shape.cs p0)), (64, .ml cB false r64)], 112⟩ ?_ ?_
    · exact Le.keep (live := [1, 2, 5, 6, 16, 17, 18]) (names := [0, 64]) (nx := 112) rfl
    generalize hn111 : l57_3 n n p0 ([] : List Int) r64 p1 p0.Events (p0.Events.length : Int) 0 = o111 at h
    rcases o111 with _ | o111
    · cases h
    refine CWP.weaken (s' := ⟨[(1, I p1), (2, .ptr 0 0), (5, .own 1 1 0 (([] : List Int).length)), (6, .own 2 1 0 r64.length), (16, api_Event.sl p0.Events), (17, I (p0.Events.length : Int)), (18, I 0)], [(0, .box (api_Shape.cs p0)), (1, .li 1 cI 0 ([] : List Int)), (2, .ml cB false r64)], 3⟩) (Le.trans (Le.nilOwn (t := 5) (sz := 1) (f := fun j => cI (([] : List Int).getD j 0)) rfl (by decide)) (Le.ren [(0, 0), (1, 112), (2, 64)] rfl ⟨rfl, rfl, rfl, rfl, rfl, rfl, rfl, trivial⟩ ⟨⟨_, rfl, rfl⟩, ⟨_, rfl, rfl⟩, ⟨_, rfl, rfl⟩, trivial⟩)) ?_
    refine t57_3 hn111 ?_
    · intro b0_112 e
      subst e
      dsimp only at h
      refine CWP.seq ?_
      refine CWP.regionT ⟨[(4, .own 0 1 0 b0_112.length)], [(0, .li 1 cI 0 b0_112)], 17⟩ ?_ ?_
      · exact Le.keep (live := [4]) (names := [0]) (nx := 17) rfl
      refine CWP.weaken (s' := ⟨[(4, .own 0 1 0 b0_112.length)], [(0, .li 1 cI 0 b0_112)], 1⟩) (Le.keep (live := [4]) (names := [0]) (nx := 1) rfl) ?_
      refine CWP.ret ?_
      have e := Option.some.inj h
      subst e
      exact ⟨rfl, ⟨⟨_, rfl, rfl⟩, trivial⟩, trivial⟩
theorem c57 {n : Nat} {p0 : api_Shape} {p1 : Int} {r : List Int} (h : s57 n p0 p1 = some r) : FC Try.prog 57 [.agg (api_Shape.cs p0), I p1] (.own 0 1 0 r.length) [(0, .li 1 cI 0 r)] true := FC.new rfl rfl (RC.ofE (st := []) (r := .own 0 1 0 r.length) (st' := [(0, .li 1 cI 0 r)]) (pins := []) 0 [(0, 0)] (fn := Try.f57) (cc := code57) (res := .one 4) (by kernel_rfl) (by kernel_rfl) tr57 (by kernel_rfl) (Nat.le_of_ble_eq_true rfl) rfl rfl (fun β => wf57 h)) rfl ⟨(fun _ _ _ _ => rfl), trivial⟩
def code64_1 : CCode :=
 (.block 0
  (.loop
  (.seq
   (.region [⟨(some 9), (.bin 0 .lss (.tmp 8) (.tmp 7)), none⟩] none)
   (.seq
   (.cond (.tmp 9)
    .skip
    (.exit 0))
   (.seq
    (.block 1
    (.seq
     (.region [⟨(some 10), (.mv (.tmp 8)), none⟩,
      ⟨(some 5), (.mv (.tmp 10)), none⟩] none)
     (.seq
     (.region [⟨(some 11), (.mv (.tmp 1)), none⟩,
      ⟨(some 12), (.mv (.tmp 0)), none⟩,
      ⟨(some 13), (.mv (.tmp 5)), none⟩,
      ⟨(some 14), (.idx 1 (.tmp 12) (.tmp 13)), none⟩,
      ⟨(some 15), (.load false 1 (.tmp 14)), none⟩,
      ⟨(some 16), (.bin 0 .eql (.tmp 11) (.tmp 15)), none⟩] none)
     (.cond (.tmp 16)
      (.seq
      (.region [⟨(some 17), (.mv (.tmp 5)), none⟩,
       ⟨(some 4), (.mv (.tmp 17)), none⟩] none)
      .ret)
      .skip))))
    (.region [⟨(some 18), (.bin 0 .add (.tmp 8) (.const (.int .i64 1))), none⟩,
     ⟨(some 8), (.mv (.tmp 18)), none⟩] none))))))
def code64 : CCode :=
 (.seq
  (.region [⟨(some 4), (.mv (.const (.int .i64 0))), none⟩] none)
  (.seq
  (.seq
   (.region [⟨(some 6), (.mv (.tmp 0)), none⟩,
    ⟨(some 7), (.len 1 (.tmp 6)), none⟩,
    ⟨(some 8), (.mv (.const (.int .i64 0))), none⟩] none)
   code64_1)
  (.seq
   (.region [⟨(some 4), (.mv (.const (.int .i64 (-1)))), none⟩] none)
   .ret)))
theorem tr64 : (Try.f64.body).bind (trCode Try.prog Try.f64.ntmps) = some code64 := by kernel_rfl
inductive O64_1 where
  | ok
  | ret (r : Int)
def l64_1 (n : Nat) : Nat → (List Int) → Int → Int → Int → Option O64_1
  | 0, _, _, _, _ => none
  | m + 1, v0, v1, v7, v8 =>
    if decide (v8 < v7) then
      if 0 ≤ v8 ∧ v8 < (v0.length : Int) then
        if v1 == (v0.getD v8.toNat 0) then
          some (.ret v8)
        else
          l64_1 n m v0 v1 v7 (w64 (v8 + 1))
      else none
    else
      some (.ok)
def s64 (n : Nat) (p0 : List Int) (p1 : Int) : Option Int :=
  (match l64_1 n n p0 p1 (p0.length : Int) 0 with
  | none => none
  | some (.ok) =>
    some (-1)
  | some (.ret r) =>
    some r)
def E64 (r : Int) (s : AS) : Prop := resOf s (.one 4) = some (I r)
theorem t64_1 {n fuel : Nat} {v0 : List Int} {v1 : Int} {v7 : Int} {v8 : Int} {out : O64_1} (h : l64_1 n fuel v0 v1 v7 v8 = some out) {Q : Ex → AS → Prop} (hok : out = .ok → Q .normal ⟨[], [], 0⟩) (hret : ∀ r, out = .ret r → ∀ s, E64 r s → Q .ret s) : CWP Try.prog Try.f64.ntmps code64_1 Q ⟨[(0, sI v0), (1, I v1), (7, I v7), (8, I v8)], [], 0⟩ := by
  refine CWP.block ?_
  refine CWP.loop (fun k s => ∃ v0 : List Int, ∃ v1 : Int, ∃ v7 : Int, ∃ v8 : Int, s = ⟨[(0, sI v0), (1, I v1), (7, I v7), (8, I v8)], [], 0⟩ ∧ l64_1 n k v0 v1 v7 v8 = some out) fuel ⟨v0, v1, v7, v8, rfl, h⟩ ?_
  clear h
  rintro k s ⟨v0, v1, v7, v8, rfl, h⟩
  cases k with
  | zero => cases h
  | succ m =>
    rw [l64_1] at h
    refine CWP.seq ?_
    refine CWP.regionT ⟨[(0, sI v0), (1, I v1), (7, I v7), (8, I v8), (9, .tst (decide (v8 < v7)))], [], 8⟩ ?_ ?_
    · exact Le.keep (live := [0, 1, 7, 8, 9]) (names := []) (nx := 8) rfl
    refine CWP.seq ?_
    refine CWP.cond (And.intro (fun hc => ?_) (fun hc => ?_))
    · have h := ite_t h hc
      refine CWP.skip ?_
      refine CWP.seq ?_
      refine CWP.block ?_
      refine CWP.seq ?_
      refine CWP.regionT ⟨[(0, sI v0), (1, I v1), (5, I v8), (7, I v7), (8, I v8)], [], 24⟩ ?_ ?_
      · exact Le.keep (live := [0, 1, 5, 7, 8]) (names := []) (nx := 24) rfl
      refine CWP.seq ?_
      obtain ⟨hs116, h⟩ := ite_some h
      refine CWP.regionT ⟨[(0, sI v0), (1, I v1), (5, I v8), (7, I v7), (8, I v8), (16, .tst (v1 == (v0.getD v8.toNat 0)))], [], 72⟩ ?_ ?_
      · refine And.intro hs116 ?_
        exact Le.keep (live := [0, 1, 5, 7, 8, 16]) (names := []) (nx := 72) rfl
      refine CWP.cond (And.intro (fun hc => ?_) (fun hc => ?_))
      · have h := ite_t h hc
        refine CWP.seq ?_
        refine CWP.regionT ⟨[(4, I v8)], [], 88⟩ ?_ ?_
        · exact Le.keep (live := [4]) (names := []) (nx := 88) rfl
        refine CWP.ret ?_
        exact hret _ (Option.some.inj h).symm _ rfl
      · have h := ite_f h hc
        refine CWP.skip ?_
        refine CWP.regionT ⟨[(0, sI v0), (1, I v1), (7, I v7), (8, I (w64 (v8 + 1)))], [], 0⟩ ?_ ?_
        · exact Le.trans (Le.keep (live := [0, 1, 7, 8]) (names := []) (nx := 88) rfl) (Le.keep (live := [0, 1, 7, 8]) (names := []) (nx := 0) rfl)
        exact ⟨m, Nat.lt_succ_self m, _, _, _, _, rfl, h⟩
    · have h := ite_f h hc
      refine CWP.exitL (Le.keep (live := []) (names := []) (nx := 0) rfl) (s' := ⟨[], [], 0⟩) ?_
      exact hok (Option.some.inj h).symm
theorem wf64 {n : Nat} {p0 : List Int} {p1 : Int} {r : Int} (h : s64 n p0 p1 = some r) : CWP Try.prog Try.f64.ntmps code64 (AtE (E64 r)) ⟨[(0, sI p0), (1, I p1)], [], 0⟩ := by
  unfold s64 at h
  refine CWP.seq ?_
  refine CWP.regionT ⟨[(0, sI p0), (1, I p1)], [], 8⟩ ?_ ?_
  · exact Le.keep (live := [0, 1]) (names := []) (nx := 8) rfl
  refine CWP.seq ?_
  refine CWP.seq ?_
  refine CWP.regionT ⟨[(0, sI p0), (1, I p1), (7, I (p0.length : Int)), (8, I 0)], [], 32⟩ ?_ ?_
  · exact Le.keep (live := [0, 1, 7, 8]) (names := []) (nx := 32) rfl
  generalize hn117 : l64_1 n n p0 p1 (p0.length : Int) 0 = o117 at h
  rcases o117 with _ | o117
  · cases h
  refine CWP.weaken (s' := ⟨[(0, sI p0), (1, I p1), (7, I (p0.length : Int)), (8, I 0)], [], 0⟩) (Le.keep (live := [0, 1, 7, 8]) (names := []) (nx := 0) rfl) ?_
  refine t64_1 hn117 ?_ ?_
  · intro e
    subst e
    dsimp only at h
    refine CWP.seq ?_
    refine CWP.regionT ⟨[(4, I (-1))], [], 8⟩ ?_ ?_
    · exact Le.keep (live := [4]) (names := []) (nx := 8) rfl
    refine CWP.ret ?_
    have e := Option.some.inj h
    subst e
    exact rfl
  · intro r e s hs
    subst e
    dsimp only at h
    have e := Option.some.inj h
    subst e
    exact hs
theorem c64 {n : Nat} {p0 : List Int} {p1 : Int} {r : Int} (h : s64 n p0 p1 = some r) : FC Try.prog 64 [sI p0, I p1] (I r) [] false := FC.pureE (fn := Try.f64) (cc := code64) (res := .one 4) (by kernel_rfl) (by kernel_rfl) tr64 (by kernel_rfl) (Nat.le_of_ble_eq_true rfl) rfl (wf64 h)
def code56 : CCode :=
 (.seq
  (.region [⟨(some 4), (.mv (.const (.bool false))), none⟩] none)
  (.seq
  (.region [⟨(some 5), (.mv (.tmp 0)), none⟩,
   ⟨(some 6), (.mv (.tmp 1)), none⟩,
   ⟨(some 7), (.call (.func 64) [(.tmp 5), (.tmp 6)]), none⟩,
   ⟨(some 8), (.bin 0 .geq (.tmp 7) (.const (.int .i64 0))), none⟩,
   ⟨(some 4), (.mv (.tmp 8)), none⟩] none)
  .ret))
theorem tr56 : (Try.f56.body).bind (trCode Try.prog Try.f56.ntmps) = some code56 := by kernel_rfl
def s56 (n : Nat) (p0 : List Int) (p1 : Int) : Option Bool :=
  (s64 n p0 p1).bind fun r114 =>
  some (decide (r114 ≥ 0))
def E56 (r : Bool) (s : AS) : Prop := resOf s (.one 4) = some (.tst r)
theorem wf56 {n : Nat} {p0 : List Int} {p1 : Int} {r : Bool} (h : s56 n p0 p1 = some r) : CWP Try.prog Try.f56.ntmps code56 (AtE (E56 r)) ⟨[(0, sI p0), (1, I p1)], [], 0⟩ := by
  unfold s56 at h
  refine CWP.seq ?_
  refine CWP.regionT ⟨[(0, sI p0), (1, I p1)], [], 8⟩ ?_ ?_
  · exact Le.keep (live := [0, 1]) (names := []) (nx := 8) rfl
  refine CWP.seq ?_
  obtain ⟨r114, hr114, h⟩ := Option.bind_eq_some_iff.1 h
  refine CWP.regionT ⟨[(4, .tst (decide (r114 ≥ 0)))], [], 48⟩ ?_ ?_
  · refine FC.semT rfl rfl rfl trivial (c64 hr114) (Or.inl rfl) ?_
    refine ex_refl ?_
    exact Le.keep (live := [4]) (names := []) (nx := 48) rfl
  refine CWP.ret ?_
  have e := Option.some.inj h
  subst e
  exact rfl
theorem c56 {n : Nat} {p0 : List Int} {p1 : Int} {r : Bool} (h : s56 n p0 p1 = some r) : FC Try.prog 56 [sI p0, I p1] (.tst r) [] false := FC.pureE (fn := Try.f56) (cc := code56) (res := .one 4) (by kernel_rfl) (by kernel_rfl) tr56 (by kernel_rfl) (Nat.le_of_ble_eq_true rfl) rfl (wf56 h)
def code58_1 : CCode :=
 (.block 0
  (.loop
  (.seq
   (.seq
   (.region [⟨(some 68), (.mv (.tmp 9)), none⟩,
    ⟨(some 69), (.mv (.tmp 0)), none⟩,
    ⟨(some 70), (.nilck (.tmp 69)), none⟩,
    ⟨(some 71), (.fad 0 (.tmp 70)), none⟩,
    ⟨(some 72), (.fad 0 (.tmp 71)), none⟩,
    ⟨(some 73), (.load false 1 (.tmp 72)), none⟩,
    ⟨(some 74), (.len 1 (.tmp 73)), none⟩,
    ⟨(some 75), (.bin 0 .lss (.tmp 68) (.tmp 74)), none⟩,
    ⟨(some 76), (.mv (.tmp 75)), none⟩,
    ⟨(some 77), (.mv (.tmp 0)), (some (76, true))⟩,
    ⟨(some 78), (.nilck (.tmp 77)), (some (76, true))⟩,
    ⟨(some 79), (.fad 0 (.tmp 78)), (some (76, true))⟩,
    ⟨(some 80), (.fad 0 (.tmp 79)), (some (76, true))⟩,
    ⟨(some 81), (.load false 1 (.tmp 80)), (some (76, true))⟩,
    ⟨(some 82), (.mv (.tmp 9)), (some (76, true))⟩,
    ⟨(some 83), (.idx 4 (.tmp 81) (.tmp 82)), (some (76, true))⟩,
    ⟨(some 84), (.fad 0 (.tmp 83)), (some (76, true))⟩,
    ⟨(some 85), (.load false 1 (.tmp 84)), (some (76, true))⟩,
    ⟨(some 86), (.fad 0 (.tmp 7)), (some (76, true))⟩,
    ⟨(some 87), (.load false 1 (.tmp 86)), (some (76, true))⟩,
    ⟨(some 88), (.bin 0 .eql (.tmp 85) (.tmp 87)), (some (76, true))⟩,
    ⟨(some 89), (.pick (.tmp 76) (.tmp 88) (.const (.bool false))), none⟩] (some (.take 0 (.take 1 (.take 2 (.take 3 (.take 4 (.take 5 (.take 6 (.take 7 (.take 8 (.take 9 (.take 10 (.take 11 (.take 12 (.take 13 (.take 14 (.take 15 (.take 16 (.take 17 (.take 18 (.take 19 (.take 20 (.take 21 .done))))))))))))))))))))))))
   (.cond (.tmp 89)
    .skip
    (.exit 0)))
   (.seq
   (.block 1
    (.seq
    (.region [⟨(some 92), (.mv (.tmp 0)), none⟩,
     ⟨(some 93), (.nilck (.tmp 92)), none⟩,
     ⟨(some 94), (.fad 4 (.tmp 93)), none⟩,
     ⟨(some 95), (.load false 1 (.tmp 94)), none⟩,
     ⟨(some 96), (.mv (.tmp 9)), none⟩,
     ⟨(some 97), (.idx 1 (.tmp 95) (.tmp 96)), none⟩,
     ⟨(some 98), (.load false 1 (.tmp 97)), none⟩,
     ⟨(some 99), (.bin 0 .gtr (.tmp 98) (.const (.int .i64 0))), none⟩] none)
    (.cond (.tmp 99)
     (.seq
     (.region [⟨(some 6), (.mv (.const (.bool false))), none⟩] none)
     .ret)
     .skip)))
   (.region [⟨(some 90), (.mv (.tmp 9)), none⟩,
    ⟨(some 91), (.bin 0 .add (.tmp 90) (.const (.int .i64 1))), none⟩,
    ⟨(some 9), (.mv (.tmp 91)), none⟩] none)))))
def code58 : CCode :=
 (.seq
  (.region [⟨(some 6), (.mv (.const (.bool false))), none⟩] none)
  (.seq
  (.seq
   (.region [⟨(some 10), (.mv (.tmp 1)), none⟩,
    ⟨(some 11), (.bin 0 .lss (.tmp 10) (.const (.int .i64 0))), none⟩,
    ⟨(some 12), (.mv (.tmp 11)), none⟩,
    ⟨(some 13), (.mv (.tmp 1)), (some (12, false))⟩,
    ⟨(some 14), (.mv (.tmp 0)), (some (12, false))⟩,
    ⟨(some 15), (.nilck (.tmp 14)), (some (12, false))⟩,
    ⟨(some 16), (.fad 0 (.tmp 15)), (some (12, false))⟩,
    ⟨(some 17), (.fad 0 (.tmp 16)), (some (12, false))⟩,
    ⟨(some 18), (.load false 1 (.tmp 17)), (some (12, false))⟩,
    ⟨(some 19), (.len 1 (.tmp 18)), (some (12, false))⟩,
    ⟨(some 20), (.bin 0 .geq (.tmp 13) (.tmp 19)), (some (12, false))⟩,
    ⟨(some 21), (.pick (.tmp 12) (.const (.bool true)) (.tmp 20)), none⟩,
    ⟨(some 22), (.mv (.tmp 21)), none⟩,
    ⟨(some 23), (.mv (.tmp 0)), (some (22, false))⟩,
    ⟨(some 24), (.nilck (.tmp 23)), (some (22, false))⟩,
    ⟨(some 25), (.fad 4 (.tmp 24)), (some (22, false))⟩,
    ⟨(some 26), (.load false 1 (.tmp 25)), (some (22, false))⟩,
    ⟨(some 27), (.mv (.tmp 1)), (some (22, false))⟩,
    ⟨(some 28), (.idx 1 (.tmp 26) (.tmp 27)), (some (22, false))⟩,
    ⟨(some 29), (.load false 1 (.tmp 28)), (some (22, false))⟩,
    ⟨(some 30), (.bin 0 .gtr (.tmp 29) (.const (.int .i64 0))), (some (22, false))⟩,
    ⟨(some 31), (.pick (.tmp 22) (.const (.bool true)) (.tmp 30)), none⟩] none)
   (.cond (.tmp 31)
   (.seq
    (.region [⟨(some 6), (.mv (.const (.bool false))), none⟩] none)
    .ret)
   .skip))
  (.seq
   (.region [⟨(some 32), (.mv (.tmp 0)), none⟩,
    ⟨(some 33), (.nilck (.tmp 32)), none⟩,
    ⟨(some 34), (.fad 0 (.tmp 33)), none⟩,
    ⟨(some 35), (.fad 0 (.tmp 34)), none⟩,
    ⟨(some 36), (.load false 1 (.tmp 35)), none⟩,
    ⟨(some 37), (.mv (.tmp 1)), none⟩,
    ⟨(some 38), (.idx 4 (.tmp 36) (.tmp 37)), none⟩,
    ⟨(some 39), (.load true 4 (.tmp 38)), none⟩,
    ⟨(some 7), (.alloc [(.int .i64 0), (.int .i64 0), (.int .i64 0), (.int .i64 0)]), none⟩,
    ⟨none, (.store 4 (.tmp 7) (.tmp 39)), none⟩] none)
   (.seq
   (.seq
    (.region [⟨(some 40), (.mv (.tmp 0)), none⟩,
     ⟨(some 41), (.nilck (.tmp 40)), none⟩,
     ⟨(some 42), (.fad 0 (.tmp 41)), none⟩,
     ⟨(some 43), (.fad 1 (.tmp 42)), none⟩,
     ⟨(some 44), (.load false 1 (.tmp 43)), none⟩,
     ⟨(some 45), (.fad 0 (.tmp 7)), none⟩,
     ⟨(some 46), (.load false 1 (.tmp 45)), none⟩,
     ⟨(some 47), (.idx 1 (.tmp 44) (.tmp 46)), none⟩,
     ⟨(some 48), (.load false 1 (.tmp 47)), none⟩,
     ⟨(some 8), (.mv (.tmp 48)), none⟩] (some (.take 0 (.take 1 (.take 2 (.take 3 (.take 4 (.take 5 (.take 6 (.take 7 (.take 8 (.take 9 .done))))))))))))
    (.seq
    (.region [⟨(some 49), (.fad 0 (.tmp 7)), none⟩,
     ⟨(some 50), (.load false 1 (.tmp 49)), none⟩,
     ⟨(some 51), (.bin 0 .gtr (.tmp 50) (.const (.int .i64 0))), none⟩,
     ⟨(some 52), (.mv (.tmp 51)), none⟩,
     ⟨(some 53), (.mv (.tmp 8)), (some (52, true))⟩,
     ⟨(some 54), (.bin 0 .lss (.tmp 53) (.const (.int .i64 0))), (some (52, true))⟩,
     ⟨(some 55), (.mv (.tmp 54)), (some (52, true))⟩,
     ⟨(some 56), (.mv (.tmp 0)), (some (55, false))⟩,
     ⟨(some 57), (.nilck (.tmp 56)), (some (55, false))⟩,
     ⟨(some 58), (.fad 4 (.tmp 57)), (some (55, false))⟩,
     ⟨(some 59), (.load false 1 (.tmp 58)), (some (55, false))⟩,
     ⟨(some 60), (.mv (.tmp 8)), (some (55, false))⟩,
     ⟨(some 61), (.idx 1 (.tmp 59) (.tmp 60)), (some (55, false))⟩,
     ⟨(some 62), (.load false 1 (.tmp 61)), (some (55, false))⟩,
     ⟨(some 63), (.bin 0 .eql (.tmp 62) (.const (.int .i64 0))), (some (55, false))⟩,
     ⟨(some 64), (.pick (.tmp 55) (.const (.bool true)) (.tmp 63)), (some (52, true))⟩,
     ⟨(some 65), (.pick (.tmp 52) (.tmp 64) (.const (.bool false))), none⟩] none)
    (.cond (.tmp 65)
     (.seq
     (.region [⟨(some 6), (.mv (.const (.bool false))), none⟩] none)
     .ret)
     .skip)))
   (.seq
    (.seq
    (.region [⟨(some 66), (.mv (.tmp 1)), none⟩,
     ⟨(some 67), (.bin 0 .add (.tmp 66) (.const (.int .i64 1))), none⟩,
     ⟨(some 9), (.mv (.tmp 67)), none⟩] none)
    code58_1)
    (.seq
    (.region [⟨(some 100), (.mv (.tmp 0)), none⟩,
     ⟨(some 101), (.nilck (.tmp 100)), none⟩,
     ⟨(some 102), (.fad 4 (.tmp 101)), none⟩,
     ⟨(some 103), (.load false 1 (.tmp 102)), none⟩,
     ⟨(some 104), (.mv (.tmp 1)), none⟩,
     ⟨(some 105), (.mv (.tmp 2)), none⟩,
     ⟨(some 106), (.bin 0 .add (.tmp 105) (.const (.int .i64 1))), none⟩,
     ⟨(some 107), (.idx 1 (.tmp 103) (.tmp 104)), none⟩,
     ⟨none, (.store 1 (.tmp 107) (.tmp 106)), none⟩] none)
    (.seq
     (.region [⟨(some 6), (.mv (.const (.bool true))), none⟩] none)
     .ret)))))))
theorem tr58 : (Try.f58.body).bind (trCode Try.prog Try.f58.ntmps) = some code58 := by kernel_rfl
inductive O58_P59ffffoqdd__1 where
  | ok (b0 : hb_log) (v1 : Int) (v2 : Int)
  | ret (r : Bool × hb_log)
def l58_P59ffffoqdd__1 (n : Nat) : Nat → hb_log → api_Event → Int → Int → Int → Option O58_P59ffffoqdd__1
  | 0, _, _, _, _, _ => none
  | m + 1, b0, b6, v1, v2, v9 =>
    if (decide (v9 < (b0.s.Events.length : Int))) = true → 0 ≤ v9 ∧ v9 < (b0.s.Events.length : Int) then
      if (decide (v9 < (b0.s.Events.length : Int))) && (((b0.s.Events.getD v9.toNat default).Proc) == b6.Proc) then
        if 0 ≤ v9 ∧ v9 < (b0.at_.length : Int) then
          if decide ((b0.at_.getD v9.toNat 0) > 0) then
            some (.ret (false, b0))
          else
            l58_P59ffffoqdd__1 n m b0 b6 v1 v2 (w64 (v9 + 1))
        else none
      else
        some (.ok b0 v1 v2)
    else none
def s58_P59ffffoqdd (n : Nat) (p0 : hb_log) (p1 : Int) (p2 : Int) : Option (Bool × hb_log) :=
  if ((decide (p1 < 0)) || (decide (p1 ≥ (p0.s.Events.length : Int)))) = false → 0 ≤ p1 ∧ p1 < (p0.at_.length : Int) then
    if ((decide (p1 < 0)) || (decide (p1 ≥ (p0.s.Events.length : Int)))) || (decide ((p0.at_.getD p1.toNat 0) > 0)) then
      some (false, p0)
    else
      if 0 ≤ p1 ∧ p1 < (p0.s.Events.length : Int) then
        if 0 ≤ ((p0.s.Events.getD p1.toNat default).Proc) ∧ ((p0.s.Events.getD p1.toNat default).Proc) < (p0.s.Starts.length : Int) then
          if (decide (((p0.s.Events.getD p1.toNat default).Proc) > 0)) = true → (decide ((p0.s.Starts.getD ((p0.s.Events.getD p1.toNat default).Proc).toNat 0) < 0)) = false → 0 ≤ (p0.s.Starts.getD ((p0.s.Events.getD p1.toNat default).Proc).toNat 0) ∧ (p0.s.Starts.getD ((p0.s.Events.getD p1.toNat default).Proc).toNat 0) < (p0.at_.length : Int) then
            if (decide (((p0.s.Events.getD p1.toNat default).Proc) > 0)) && ((decide ((p0.s.Starts.getD ((p0.s.Events.getD p1.toNat default).Proc).toNat 0) < 0)) || ((p0.at_.getD (p0.s.Starts.getD ((p0.s.Events.getD p1.toNat default).Proc).toNat 0).toNat 0) == 0)) then
              some (false, p0)
            else
              (match l58_P59ffffoqdd__1 n n p0 (p0.s.Events.getD p1.toNat default) p1 p2 (w64 (p1 + 1)) with
              | none => none
              | some (.ok b0_147 v1_147 v2_147) =>
                if 0 ≤ v1_147 ∧ v1_147 < (b0_147.at_.length : Int) then
                  some (true, (⟨b0_147.s, b0_147.d, b0_147.l, b0_147.at_.set v1_147.toNat (w64 (v2_147 + 1)), b0_147.in_⟩ : hb_log))
                else none
              | some (.ret r) =>
                some r)
          else none
        else none
      else none
  else none
def E58_P59ffffoqdd (β : Name → Option Nat) (r : Bool × hb_log) (s : AS) : Prop := resOf s (.one 6) = some (.tst r.1) ∧ EndSt [(0, 0), (1, 1), (2, 2)] s.st [(0, .box (hb_log.co r.2 1 2)), (1, .li 1 cI 0 r.2.at_), (2, .mapI r.2.in_)] ∧ PinEnd β s.st [(3, 0)]
theorem t58_P59ffffoqdd__1 {n fuel : Nat} {β : Name → Option Nat} {b0 : hb_log} {b6 : api_Event} {v1 : Int} {v2 : Int} {v9 : Int} {out : O58_P59ffffoqdd__1} (h : l58_P59ffffoqdd__1 n fuel b0 b6 v1 v2 v9 = some out) {Q : Ex → AS → Prop} (hok : ∀ b0 v1 v2, out = .ok b0 v1 v2 → Q .normal ⟨[(0, .ptr 0 0), (1, I v1), (2, I v2)], [(0, .box (hb_log.co b0 4 5)), (3, .pin 0 (β 0)), (4, .li 1 cI 0 b0.at_), (5, .mapI b0.in_)], 6⟩) (hret : ∀ r, out = .ret r → ∀ s, E58_P59ffffoqdd β r s → Q .ret s) : CWP Try.prog Try.f58.ntmps code58_1 Q ⟨[(0, .ptr 0 0), (1, I v1), (2, I v2), (7, .ptr 6 0), (9, I v9)], [(0, .box (hb_log.co b0 4 5)), (3, .pin 0 (β 0)), (4, .li 1 cI 0 b0.at_), (5, .mapI b0.in_), (6, .box (api_Event.cs b6))], 7⟩ := by
  refine CWP.block ?_
  refine CWP.loop (fun k s => ∃ b0 : hb_log, ∃ b6 : api_Event, ∃ v1 : Int, ∃ v2 : Int, ∃ v9 : Int, s = ⟨[(0, .ptr 0 0), (1, I v1), (2, I v2), (7, .ptr 6 0), (9, I v9)], [(0, .box (hb_log.co b0 4 5)), (3, .pin 0 (β 0)), (4, .li 1 cI 0 b0.at_), (5, .mapI b0.in_), (6, .box (api_Event.cs b6))], 7⟩ ∧ l58_P59ffffoqdd__1 n k b0 b6 v1 v2 v9 = some out) fuel ⟨b0, b6, v1, v2, v9, rfl, h⟩ ?_
  clear h
  rintro k s ⟨b0, b6, v1, v2, v9, rfl, h⟩
  cases k with
  | zero => cases h
  | succ m =>
    rw [l58_P59ffffoqdd__1] at h
    refine CWP.seq ?_
    refine CWP.seq ?_
    obtain ⟨hs143, h⟩ := ite_some h
    refine CWP.drawT [] [] ⟨[(0, .ptr 0 0), (1, I v1), (2, I v2), (7, .ptr 6 0), (9, I v9), (89, .tst ((decide (v9 < (b0.s.Events.length : Int))) && (((b0.s.Events.getD v9.toNat default).Proc) == b6.Proc)))], [(0, .box (hb_log.co b0 4 5)), (3, .pin 0 (β 0)), (4, .li 1 cI 0 b0.at_), (5, .mapI b0.in_), (6, .box (api_Event.cs b6))], 183⟩ ?_ ?_
    · refine And.intro rfl ?_
      iterate 8 refine And.intro rfl ?_
      refine And.intro (fun hg145 => ?_) (fun hg145 => ?_)
      · have hg145 : (decide (v9 < (b0.s.Events.length : Int))) = true := hg145
        iterate 7 refine And.intro rfl ?_
        refine And.intro (hs143 (by simp only [hg145, sB, reduceIte])) ?_
        iterate 6 refine And.intro rfl ?_
        exact Le.trans (Le.rep (t := 89) rfl (RepLe.fr rfl (FrLe.tst2 (by simp only [hg145, sB, reduceIte])))) (Le.keep (live := [0, 1, 2, 7, 9, 89]) (names := [0, 3, 4, 5, 6]) (nx := 183) rfl)
      · have hg145 : (decide (v9 < (b0.s.Events.length : Int))) = false := hg145
        refine And.intro rfl ?_
        exact Le.trans (Le.rep (t := 89) rfl (RepLe.fr rfl (FrLe.tst (by simp only [hg145, sB, reduceIte])))) (Le.keep (live := [0, 1, 2, 7, 9, 89]) (names := [0, 3, 4, 5, 6]) (nx := 183) rfl)
    refine CWP.cond (And.intro (fun hc => ?_) (fun hc => ?_))
    · have h := ite_t h hc
      refine CWP.skip ?_
      refine CWP.seq ?_
      refine CWP.block ?_
      refine CWP.seq ?_
      obtain ⟨hs144, h⟩ := ite_some h
      refine CWP.regionT ⟨[(0, .ptr 0 0), (1, I v1), (2, I v2), (7, .ptr 6 0), (9, I v9), (99, .tst (decide ((b0.at_.getD v9.toNat 0) > 0)))], [(0, .box (hb_log.co b0 4 5)), (3, .pin 0 (β 0)), (4, .li 1 cI 0 b0.at_), (5, .mapI b0.in_), (6, .box (api_Event.cs b6))], 247⟩ ?_ ?_
      · refine And.intro hs144 ?_
        refine And.intro (idx_lt hs144) ?_
        exact Le.keep (live := [0, 1, 2, 7, 9, 99]) (names := [0, 3, 4, 5, 6]) (nx := 247) rfl
      refine CWP.cond (And.intro (fun hc => ?_) (fun hc => ?_))
      · have h := ite_t h hc
        refine CWP.seq ?_
        refine CWP.regionT ⟨[(6, .raw (.bool false))], [(0, .box (hb_log.co b0 4 5)), (3, .pin 0 (β 0)), (4, .li 1 cI 0 b0.at_), (5, .mapI b0.in_)], 255⟩ ?_ ?_
        · exact Le.keep (live := [6]) (names := [0, 3, 4, 5]) (nx := 255) rfl
        refine CWP.weaken (s' := ⟨[(6, .tst false)], [(0, .box (hb_log.co b0 1 2)), (1, .li 1 cI 0 b0.at_), (2, .mapI b0.in_), (3, .pin 0 (β 0))], 4⟩) (Le.trans (Le.rep (t := 6) rfl (RepLe.fr rfl (FrLe.tst rfl))) (Le.ren [(0, 0), (1, 4), (2, 5), (3, 3)] rfl ⟨rfl, trivial⟩ ⟨⟨_, rfl, rfl⟩, ⟨_, rfl, rfl⟩, ⟨_, rfl, rfl⟩, ⟨_, rfl, rfl⟩, trivial⟩)) ?_
        refine CWP.ret ?_
        exact hret _ (Option.some.inj h).symm _ ⟨rfl, ⟨⟨_, rfl, rfl⟩, ⟨_, rfl, rfl⟩, ⟨_, rfl, rfl⟩, trivial⟩, ⟨rfl, trivial⟩⟩
      · have h := ite_f h hc
        refine CWP.skip ?_
        refine CWP.regionT ⟨[(0, .ptr 0 0), (1, I v1), (2, I v2), (7, .ptr 6 0), (9, I (w64 (v9 + 1)))], [(0, .box (hb_log.co b0 4 5)), (3, .pin 0 (β 0)), (4, .li 1 cI 0 b0.at_), (5, .mapI b0.in_), (6, .box (api_Event.cs b6))], 7⟩ ?_ ?_
        · exact Le.trans (Le.keep (live := [0, 1, 2, 7, 9]) (names := [0, 3, 4, 5, 6]) (nx := 271) rfl) (Le.keep (live := [0, 1, 2, 7, 9]) (names := [0, 3, 4, 5, 6]) (nx := 7) rfl)
        exact ⟨m, Nat.lt_succ_self m, _, _, _, _, _, rfl, h⟩
    · have h := ite_f h hc
      refine CWP.exitL (Le.keep (live := [0, 1, 2]) (names := [0, 3, 4, 5]) (nx := 6) rfl) (s' := ⟨[(0, .ptr 0 0), (1, I v1), (2, I v2)], [(0, .box (hb_log.co b0 4 5)), (3, .pin 0 (β 0)), (4, .li 1 cI 0 b0.at_), (5, .mapI b0.in_)], 6⟩) ?_
      exact hok _ _ _ (Option.some.inj h).symm
theorem wf58_P59ffffoqdd {n : Nat} {β : Name → Option Nat} {p0 : hb_log} {p1 : Int} {p2 : Int} {r : Bool × hb_log} (h : s58_P59ffffoqdd n p0 p1 p2 = some r) : CWP Try.prog Try.f58.ntmps code58 (AtE (E58_P59ffffoqdd β r)) ⟨[(0, .ptr 0 0), (1, I p1), (2, I p2)], [(0, .box (hb_log.co p0 1 2)), (1, .li 1 cI 0 p0.at_), (2, .mapI p0.in_), (3, .pin 0 (β 0))], 4⟩ := by
  unfold s58_P59ffffoqdd at h
  refine CWP.seq ?_
  refine CWP.regionT ⟨[(0, .ptr 0 0), (1, I p1), (2, I p2)], [(0, .box (hb_log.co p0 1 2)), (1, .li 1 cI 0 p0.at_), (2, .mapI p0.in_), (3, .pin 0 (β 0))], 12⟩ ?_ ?_
  · exact Le.keep (live := [0, 1, 2]) (names := [0, 1, 2, 3]) (nx := 12) rfl
  refine CWP.seq ?_
  refine CWP.seq ?_
  obtain ⟨hs136, h⟩ := ite_some h
  refine CWP.regionT ⟨[(0, .ptr 0 0), (1, I p1), (2, I p2), (31, .tst (((decide (p1 < 0)) || (decide (p1 ≥ (p0.s.Events.length : Int)))) || (decide ((p0.at_.getD p1.toNat 0) > 0))))], [(0, .box (hb_log.co p0 1 2)), (1, .li 1 cI 0 p0.at_), (2, .mapI p0.in_), (3, .pin 0 (β 0))], 188⟩ ?_ ?_
  · refine And.intro (fun hg151 => ?_) (fun hg151 => ?_)
    · have hg151 : (decide (p1 < 0)) = false := hg151
      refine And.intro (fun hg152 => ?_) (fun hg152 => ?_)
      · have hg152 : (decide (p1 ≥ (p0.s.Events.length : Int))) = false := hg152
        refine And.intro (hs136 (by simp only [hg151, hg152, sB, reduceIte])) ?_
        refine And.intro (idx_lt (hs136 (by simp only [hg151, hg152, sB, reduceIte]))) ?_
        exact Le.trans (Le.rep (t := 31) rfl (RepLe.fr rfl (FrLe.tst2 (by simp only [hg151, hg152, sB, reduceIte])))) (Le.keep (live := [0, 1, 2, 31]) (names := [0, 1, 2, 3]) (nx := 188) rfl)
      · have hg152 : (decide (p1 ≥ (p0.s.Events.length : Int))) = true := hg152
        exact Le.trans (Le.rep (t := 31) rfl (RepLe.fr rfl (FrLe.tst (by simp only [hg151, hg152, sB, reduceIte])))) (Le.keep (live := [0, 1, 2, 31]) (names := [0, 1, 2, 3]) (nx := 188) rfl)
    · have hg151 : (decide (p1 < 0)) = true := hg151
      exact Le.trans (Le.rep (t := 31) rfl (RepLe.fr rfl (FrLe.tst (by simp only [hg151, sB, reduceIte])))) (Le.keep (live := [0, 1, 2, 31]) (names := [0, 1, 2, 3]) (nx := 188) rfl)
  refine CWP.cond (And.intro (fun hc => ?_) (fun hc => ?_))
  · have h := ite_t h hc
    refine CWP.seq ?_
    refine CWP.regionT ⟨[(6, .raw (.bool false))], [(0, .box (hb_log.co p0 1 2)), (1, .li 1 cI 0 p0.at_), (2, .mapI p0.in_), (3, .pin 0 (β 0))], 196⟩ ?_ ?_
    · exact Le.keep (live := [6]) (names := [0, 1, 2, 3]) (nx := 196) rfl
    refine CWP.weaken (s' := ⟨[(6, .tst false)], [(0, .box (hb_log.co p0 1 2)), (1, .li 1 cI 0 p0.at_), (2, .mapI p0.in_), (3, .pin 0 (β 0))], 4⟩) (Le.trans (Le.rep (t := 6) rfl (RepLe.fr rfl (FrLe.tst rfl))) (Le.keep (live := [6]) (names := [0, 1, 2, 3]) (nx := 4) rfl)) ?_
    refine CWP.ret ?_
    have e := Option.some.inj h
    subst e
    exact ⟨rfl, ⟨⟨_, rfl, rfl⟩, ⟨_, rfl, rfl⟩, ⟨_, rfl, rfl⟩, trivial⟩, ⟨rfl, trivial⟩⟩
  · have h := ite_f h hc
    refine CWP.skip ?_
    refine CWP.seq ?_
    obtain ⟨hs137, h⟩ := ite_some h
    refine CWP.regionT ⟨[(0, .ptr 0 0), (1, I p1), (2, I p2), (7, .ptr 252 0)], [(0, .box (hb_log.co p0 1 2)), (1, .li 1 cI 0 p0.at_), (2, .mapI p0.in_), (3, .pin 0 (β 0)), (252, .box [I ((p0.s.Events.getD p1.toNat default).Proc), I ((p0.s.Events.getD p1.toNat default).Inst), I ((p0.s.Events.getD p1.toNat default).Kind), I ((p0.s.Events.getD p1.toNat default).Obj)])], 268⟩ ?_ ?_
    · refine And.intro hs137 ?_
      refine SemOp.ofT ?_
      refine ex_refl ?_
      exact Le.keep (live := [0, 1, 2, 7]) (names := [0, 1, 2, 3, 252]) (nx := 268) rfl
    refine CWP.seq ?_
    refine CWP.seq ?_
    obtain ⟨hs138, h⟩ := ite_some h
    refine CWP.drawT [] [] ⟨[(0, .ptr 0 0), (1, I p1), (2, I p2), (7, .ptr 252 0), (8, I (p0.s.Starts.getD ((p0.s.Events.getD p1.toNat default).Proc).toNat 0))], [(0, .box (hb_log.co p0 1 2)), (1, .li 1 cI 0 p0.at_), (2, .mapI p0.in_), (3, .pin 0 (β 0)), (252, .box [I ((p0.s.Events.getD p1.toNat default).Proc), I ((p0.s.Events.getD p1.toNat default).Inst), I ((p0.s.Events.getD p1.toNat default).Kind), I ((p0.s.Events.getD p1.toNat default).Obj)])], 348⟩ ?_ ?_
    · refine And.intro rfl ?_
      iterate 7 refine And.intro rfl ?_
      refine And.intro hs138 ?_
      iterate 2 refine And.intro rfl ?_
      exact Le.keep (live := [0, 1, 2, 7, 8]) (names := [0, 1, 2, 3, 252]) (nx := 348) rfl
    refine CWP.seq ?_
    obtain ⟨hs139, h⟩ := ite_some h
    refine CWP.regionT ⟨[(0, .ptr 0 0), (1, I p1), (2, I p2), (7, .ptr 252 0), (65, .tst ((decide (((p0.s.Events.getD p1.toNat default).Proc) > 0)) && ((decide ((p0.s.Starts.getD ((p0.s.Events.getD p1.toNat default).Proc).toNat 0) < 0)) || ((p0.at_.getD (p0.s.Starts.getD ((p0.s.Events.getD p1.toNat default).Proc).toNat 0).toNat 0) == 0))))], [(0, .box (hb_log.co p0 1 2)), (1, .li 1 cI 0 p0.at_), (2, .mapI p0.in_), (3, .pin 0 (β 0)), (252, .box [I ((p0.s.Events.getD p1.toNat default).Proc), I ((p0.s.Events.getD p1.toNat default).Inst), I ((p0.s.Events.getD p1.toNat default).Kind), I ((p0.s.Events.getD p1.toNat default).Obj)])], 484⟩ ?_ ?_
    · refine And.intro (fun hg149 => ?_) (fun hg149 => ?_)
      · have hg149 : (decide (((p0.s.Events.getD p1.toNat default).Proc) > 0)) = true := hg149
        refine And.intro (fun hg150 => ?_) (fun hg150 => ?_)
        · have hg150 : (decide ((p0.s.Starts.getD ((p0.s.Events.getD p1.toNat default).Proc).toNat 0) < 0)) = false := hg150
          refine And.intro (hs139 (by simp only [hg149, hg150, sB, reduceIte]) (by simp only [hg149, hg150, sB, reduceIte])) ?_
          refine And.intro (idx_lt (hs139 (by simp only [hg149, hg150, sB, reduceIte]) (by simp only [hg149, hg150, sB, reduceIte]))) ?_
          exact Le.trans (Le.rep (t := 65) rfl (RepLe.fr rfl (FrLe.tst2 (by simp only [hg149, hg150, sB, reduceIte])))) (Le.keep (live := [0, 1, 2, 7, 65]) (names := [0, 1, 2, 3, 252]) (nx := 484) rfl)
        · have hg150 : (decide ((p0.s.Starts.getD ((p0.s.Events.getD p1.toNat default).Proc).toNat 0) < 0)) = true := hg150
          exact Le.trans (Le.rep (t := 65) rfl (RepLe.fr rfl (FrLe.tst (by simp only [hg149, hg150, sB, reduceIte])))) (Le.keep (live := [0, 1, 2, 7, 65]) (names := [0, 1, 2, 3, 252]) (nx := 484) rfl)
      · have hg149 : (decide (((p0.s.Events.getD p1.toNat default).Proc) > 0)) = false := hg149
        exact Le.trans (Le.rep (t := 65) rfl (RepLe.fr rfl (FrLe.tst (by simp only [hg149, sB, reduceIte])))) (Le.keep (live := [0, 1, 2, 7, 65]) (names := [0, 1, 2, 3, 252]) (nx := 484) rfl)
    refine CWP.cond (And.intro (fun hc => ?_) (fun hc => ?_))
    · have h := ite_t h hc
      refine CWP.seq ?_
      refine CWP.regionT ⟨[(6, .raw (.bool false))], [(0, .box (hb_log.co p0 1 2)), (1, .li 1 cI 0 p0.at_), (2, .mapI p0.in_), (3, .pin 0 (β 0))], 492⟩ ?_ ?_
      · exact Le.keep (live := [6]) (names := [0, 1, 2, 3]) (nx := 492) rfl
      refine CWP.weaken (s' := ⟨[(6, .tst false)], [(0, .box (hb_log.co p0 1 2)), (1, .li 1 cI 0 p0.at_), (2, .mapI p0.in_), (3, .pin 0 (β 0))], 4⟩) (Le.trans (Le.rep (t := 6) rfl (RepLe.fr rfl (FrLe.tst rfl))) (Le.keep (live := [6]) (names := [0, 1, 2, 3]) (nx := 4) rfl)) ?_
      refine CWP.ret ?_
      have e := Option.some.inj h
      subst e
      exact ⟨rfl, ⟨⟨_, rfl, rfl⟩, ⟨_, rfl, rfl⟩, ⟨_, rfl, rfl⟩, trivial⟩, ⟨rfl, trivial⟩⟩
    · have h := ite_f h hc
      refine CWP.skip ?_
      refine CWP.seq ?_
      refine CWP.seq ?_
      refine CWP.regionT ⟨[(0, .ptr 0 0), (1, I p1), (2, I p2), (7, .ptr 252 0), (9, I (w64 (p1 + 1)))], [(0, .box (hb_log.co p0 1 2)), (1, .li 1 cI 0 p0.at_), (2, .mapI p0.in_), (3, .pin 0 (β 0)), (252, .box [I ((p0.s.Events.getD p1.toNat default).Proc), I ((p0.s.Events.getD p1.toNat default).Inst), I ((p0.s.Events.getD p1.toNat default).Kind), I ((p0.s.Events.getD p1.toNat default).Obj)])], 508⟩ ?_ ?_
      · exact Le.keep (live := [0, 1, 2, 7, 9]) (names := [0, 1, 2, 3, 252]) (nx := 508) rfl
      generalize hn146 : l58_P59ffffoqdd__1 n n p0 (p0.s.Events.getD p1.toNat default) p1 p2 (w64 (p1 + 1)) = o146 at h
      rcases o146 with _ | o146
      · cases h
      refine CWP.weaken (s' := ⟨[(0, .ptr 0 0), (1, I p1), (2, I p2), (7, .ptr 6 0), (9, I (w64 (p1 + 1)))], [(0, .box (hb_log.co p0 4 5)), (3, .pin 0 (β 0)), (4, .li 1 cI 0 p0.at_), (5, .mapI p0.in_), (6, .box [I ((p0.s.Events.getD p1.toNat default).Proc), I ((p0.s.Events.getD p1.toNat default).Inst), I ((p0.s.Events.getD p1.toNat default).Kind), I ((p0.s.Events.getD p1.toNat default).Obj)])], 7⟩) (Le.ren [(0, 0), (3, 3), (4, 1), (5, 2), (6, 252)] rfl ⟨rfl, rfl, rfl, rfl, rfl, trivial⟩ ⟨⟨_, rfl, rfl⟩, ⟨_, rfl, rfl⟩, ⟨_, rfl, rfl⟩, ⟨_, rfl, rfl⟩, ⟨_, rfl, rfl⟩, trivial⟩) ?_
      refine t58_P59ffffoqdd__1 (β := β) hn146 ?_ ?_
      · intro b0_147 v1_147 v2_147 e
        subst e
        dsimp only at h
        refine CWP.seq ?_
        obtain ⟨hs148, h⟩ := ite_some h
        refine CWP.regionT ⟨[], [(0, .box [api_Event.sl b0_147.s.Events, sI b0_147.s.Starts, api_Decl.sl b0_147.d, api_Entry.sl b0_147.l, .own 4 1 0 ((b0_147.at_.set v1_147.toNat (w64 (v2_147 + 1))).length), .mp 5]), (3, .pin 0 (β 0)), (4, .li 1 cI 0 (b0_147.at_.set v1_147.toNat (w64 (v2_147 + 1)))), (5, .mapI b0_147.in_)], 78⟩ ?_ ?_
        · refine And.intro hs148 ?_
          refine SemOp.ofT ?_
          refine And.intro (idx_lt hs148) ?_
          refine ex_arr (b0_147.at_.set v1_147.toNat (w64 (v2_147 + 1))) (x := 4) (cell := cI) (d := 0) rfl (li_at (v := w64 (v2_147 + 1)) rfl (by intro c hc; match c, hc with | 0, _ => rfl | _ + 1, h => exact absurd h (by omega))) ?_
          exact Le.trans (Le.list (x := 4) rfl (cell := cI) (d := 0) (l := b0_147.at_.set v1_147.toNat (w64 (v2_147 + 1))) (len_set rfl) (fun _ _ _ _ => rfl)) (Le.trans (Le.blk (x := 0) rfl (BlkLe.box (RepLes.cons (RepLe.refl _) (RepLes.cons (RepLe.refl _) (RepLes.cons (RepLe.refl _) (RepLes.cons (RepLe.refl _) (RepLes.cons (RepLe.ownLen (len_set rfl).symm) (RepLes.cons (RepLe.refl _) (RepLes.nil))))))))) (Le.keep (live := []) (names := [0, 3, 4, 5]) (nx := 78) rfl))
        refine CWP.seq ?_
        refine CWP.regionT ⟨[(6, .raw (.bool true))], [(0, .box [api_Event.sl b0_147.s.Events, sI b0_147.s.Starts, api_Decl.sl b0_147.d, api_Entry.sl b0_147.l, .own 4 1 0 ((b0_147.at_.set v1_147.toNat (w64 (v2_147 + 1))).length), .mp 5]), (3, .pin 0 (β 0)), (4, .li 1 cI 0 (b0_147.at_.set v1_147.toNat (w64 (v2_147 + 1)))), (5, .mapI b0_147.in_)], 86⟩ ?_ ?_
        · exact Le.keep (live := [6]) (names := [0, 3, 4, 5]) (nx := 86) rfl
        refine CWP.weaken (s' := ⟨[(6, .tst true)], [(0, .box [api_Event.sl b0_147.s.Events, sI b0_147.s.Starts, api_Decl.sl b0_147.d, api_Entry.sl b0_147.l, .own 1 1 0 ((b0_147.at_.set v1_147.toNat (w64 (v2_147 + 1))).length), .mp 2]), (1, .li 1 cI 0 (b0_147.at_.set v1_147.toNat (w64 (v2_147 + 1)))), (2, .mapI b0_147.in_), (3, .pin 0 (β 0))], 4⟩) (Le.trans (Le.rep (t := 6) rfl (RepLe.fr rfl (FrLe.tst rfl))) (Le.ren [(0, 0), (1, 4), (2, 5), (3, 3)] rfl ⟨rfl, trivial⟩ ⟨⟨_, rfl, rfl⟩, ⟨_, rfl, rfl⟩, ⟨_, rfl, rfl⟩, ⟨_, rfl, rfl⟩, trivial⟩)) ?_
        refine CWP.ret ?_
        have e := Option.some.inj h
        subst e
        exact ⟨rfl, ⟨⟨_, rfl, rfl⟩, ⟨_, rfl, rfl⟩, ⟨_, rfl, rfl⟩, trivial⟩, ⟨rfl, trivial⟩⟩
      · intro r e s hs
        subst e
        dsimp only at h
        have e := Option.some.inj h
        subst e
        exact hs
theorem c58_P59ffffoqdd {n : Nat} {p0 : hb_log} {p1 : Int} {p2 : Int} {r : Bool × hb_log} (h : s58_P59ffffoqdd n p0 p1 p2 = some r) : RC Try.prog 58 [.ptr 0 0, I p1, I p2] [(0, .box (hb_log.co p0 1 2)), (1, .li 1 cI 0 p0.at_), (2, .mapI p0.in_)] (.tst r.1) [(0, .box (hb_log.co r.2 1 2)), (1, .li 1 cI 0 r.2.at_), (2, .mapI r.2.in_)] [0] [0, 1, 2] := RC.ofE (st := [(0, .box (hb_log.co p0 1 2)), (1, .li 1 cI 0 p0.at_), (2, .mapI p0.in_)]) (r := .tst r.1) (st' := [(0, .box (hb_log.co r.2 1 2)), (1, .li 1 cI 0 r.2.at_), (2, .mapI r.2.in_)]) (pins := [(3, 0)]) 4 [(0, 0), (1, 1), (2, 2)] (fn := Try.f58) (cc := code58) (res := .one 6) (by kernel_rfl) (by kernel_rfl) tr58 (by kernel_rfl) (Nat.le_of_ble_eq_true rfl) rfl rfl (fun β => wf58_P59ffffoqdd (β := β) h)
def code59_1 : CCode :=
 (.seq
  (.region [⟨(some 5), (.fad 2 (.tmp 3)), none⟩,
   ⟨(some 6), (.load false 1 (.tmp 5)), none⟩] none)
  (.block 0
  (.seq
   (.region [⟨(some 8), (.bin 0 .eql (.tmp 6) (.const (.int .i64 9))), none⟩,
    ⟨(some 7), (.mv (.tmp 8)), none⟩] none)
   (.cond (.tmp 7)
   (.region [⟨(some 9), (.mv (.tmp 0)), none⟩,
    ⟨(some 10), (.nilck (.tmp 9)), none⟩,
    ⟨(some 11), (.fad 5 (.tmp 10)), none⟩,
    ⟨(some 12), (.load false 1 (.tmp 11)), none⟩,
    ⟨(some 13), (.fad 3 (.tmp 3)), none⟩,
    ⟨(some 14), (.load false 1 (.tmp 13)), none⟩,
    ⟨(some 15), (.look false (.tmp 12) (.tmp 14) false), none⟩,
    ⟨(some 16), (.bin 0 .add (.tmp 15) (.const (.int .i64 1))), none⟩,
    ⟨none, (.mup false (.tmp 12) (.tmp 14) (.tmp 16)), none⟩] (some (.take 0 (.take 1 (.take 2 (.take 3 (.take 4 (.take 5 (.alt 6 (.take 7 (.alt 8 .done .alt0)) .alt0)))))))))
   (.seq
    (.region [⟨(some 18), (.bin 0 .eql (.tmp 6) (.const (.int .i64 10))), none⟩,
     ⟨(some 17), (.mv (.tmp 18)), none⟩] none)
    (.cond (.tmp 17)
    (.region [⟨(some 19), (.mv (.tmp 0)), none⟩,
     ⟨(some 20), (.nilck (.tmp 19)), none⟩,
     ⟨(some 21), (.fad 5 (.tmp 20)), none⟩,
     ⟨(some 22), (.load false 1 (.tmp 21)), none⟩,
     ⟨(some 23), (.fad 3 (.tmp 3)), none⟩,
     ⟨(some 24), (.load false 1 (.tmp 23)), none⟩,
     ⟨(some 25), (.look false (.tmp 22) (.tmp 24) false), none⟩,
     ⟨(some 26), (.bin 0 .sub (.tmp 25) (.const (.int .i64 1))), none⟩,
     ⟨none, (.mup false (.tmp 22) (.tmp 24) (.tmp 26)), none⟩] (some (.take 0 (.take 1 (.take 2 (.take 3 (.take 4 (.take 5 (.alt 6 (.take 7 (.alt 8 .done .alt0)) .alt0)))))))))
    (.seq
     (.region [⟨(some 4), (.mv (.const (.bool true))), none⟩] none)
     .ret)))))))
def code59 : CCode :=
 (.seq
  (.region [⟨(some 3), (.box 4 (.tmp 1)), none⟩,
   ⟨(some 4), (.mv (.const (.bool false))), none⟩] none)
  (.seq
  code59_1
  (.seq
   (.region [⟨(some 27), (.mv (.tmp 0)), none⟩,
    ⟨(some 28), (.nilck (.tmp 27)), none⟩,
    ⟨(some 29), (.fad 5 (.tmp 28)), none⟩,
    ⟨(some 30), (.load false 1 (.tmp 29)), none⟩,
    ⟨(some 31), (.fad 3 (.tmp 3)), none⟩,
    ⟨(some 32), (.load false 1 (.tmp 31)), none⟩,
    ⟨(some 33), (.look false (.tmp 30) (.tmp 32) false), none⟩,
    ⟨(some 34), (.bin 0 .geq (.tmp 33) (.const (.int .i64 0))), none⟩,
    ⟨(some 35), (.mv (.tmp 34)), none⟩,
    ⟨(some 36), (.mv (.tmp 0)), (some (35, true))⟩,
    ⟨(some 37), (.nilck (.tmp 36)), (some (35, true))⟩,
    ⟨(some 38), (.fad 5 (.tmp 37)), (some (35, true))⟩,
    ⟨(some 39), (.load false 1 (.tmp 38)), (some (35, true))⟩,
    ⟨(some 40), (.fad 3 (.tmp 3)), (some (35, true))⟩,
    ⟨(some 41), (.load false 1 (.tmp 40)), (some (35, true))⟩,
    ⟨(some 42), (.look false (.tmp 39) (.tmp 41) false), (some (35, true))⟩,
    ⟨(some 43), (.mv (.tmp 0)), (some (35, true))⟩,
    ⟨(some 44), (.nilck (.tmp 43)), (some (35, true))⟩,
    ⟨(some 45), (.fad 2 (.tmp 44)), (some (35, true))⟩,
    ⟨(some 46), (.load false 1 (.tmp 45)), (some (35, true))⟩,
    ⟨(some 47), (.fad 3 (.tmp 3)), (some (35, true))⟩,
    ⟨(some 48), (.load false 1 (.tmp 47)), (some (35, true))⟩,
    ⟨(some 49), (.idx 4 (.tmp 46) (.tmp 48)), (some (35, true))⟩,
    ⟨(some 50), (.fad 2 (.tmp 49)), (some (35, true))⟩,
    ⟨(some 51), (.load false 1 (.tmp 50)), (some (35, true))⟩,
    ⟨(some 52), (.bin 0 .leq (.tmp 42) (.tmp 51)), (some (35, true))⟩,
    ⟨(some 53), (.pick (.tmp 35) (.tmp 52) (.const (.bool false))), none⟩,
    ⟨(some 4), (.mv (.tmp 53)), none⟩] (some (.take 0 (.take 1 (.take 2 (.take 3 (.take 4 (.take 5 (.take 6 (.take 7 (.take 8 (.take 9 (.take 10 (.take 11 (.take 12 (.take 13 (.take 14 (.take 15 (.take 16 (.take 17 (.take 18 (.take 19 (.take 20 (.take 21 (.take 22 (.take 23 (.take 24 (.take 25 (.take 26 (.take 27 .done))))))))))))))))))))))))))))))
   .ret)))
theorem tr59 : (Try.f59.body).bind (trCode Try.prog Try.f59.ntmps) = some code59 := by kernel_rfl
inductive O59_P59ffffoqd__1 where
  | ok (b0 : hb_log) (b6 : api_Event)
  | ret (r : Bool × hb_log)
def l59_P59ffffoqd__1 (n : Nat) (b0 : hb_log) (b6 : api_Event) : Option O59_P59ffffoqd__1 :=
  if b6.Kind == 9 then
    some (.ok (⟨b0.s, b0.d, b0.l, b0.at_, mset b0.in_ b6.Obj (w64 (((b0.in_ b6.Obj).getD 0) + 1))⟩ : hb_log) b6)
  else
    if b6.Kind == 10 then
      some (.ok (⟨b0.s, b0.d, b0.l, b0.at_, mset b0.in_ b6.Obj (w64 (((b0.in_ b6.Obj).getD 0) - 1))⟩ : hb_log) b6)
    else
      some (.ret (true, b0))
def s59_P59ffffoqd (n : Nat) (p0 : hb_log) (p1 : api_Event) : Option (Bool × hb_log) :=
  (match l59_P59ffffoqd__1 n p0 p1 with
  | none => none
  | some (.ok b0_155 b6_155) =>
    if (decide (((b0_155.in_ b6_155.Obj).getD 0) ≥ 0)) = true → 0 ≤ b6_155.Obj ∧ b6_155.Obj < (b0_155.d.length : Int) then
      some ((decide (((b0_155.in_ b6_155.Obj).getD 0) ≥ 0)) && (decide (((b0_155.in_ b6_155.Obj).getD 0) ≤ ((b0_155.d.getD b6_155.Obj.toNat default).Num))), b0_155)
    else none
  | some (.ret r) =>
    some r)
def E59_P59ffffoqd (β : Name → Option Nat) (r : Bool × hb_log) (s : AS) : Prop := resOf s (.one 4) = some (.tst r.1) ∧ EndSt [(0, 0), (1, 1), (2, 2)] s.st [(0, .box (hb_log.co r.2 1 2)), (1, .li 1 cI 0 r.2.at_), (2, .mapI r.2.in_)] ∧ PinEnd β s.st [(3, 0)]
theorem t59_P59ffffoqd__1 {n : Nat} {β : Name → Option Nat} {b0 : hb_log} {b6 : api_Event} {out : O59_P59ffffoqd__1} (h : l59_P59ffffoqd__1 n b0 b6 = some out) {Q : Ex → AS → Prop} (hok : ∀ b0 b6, out = .ok b0 b6 → Q .normal ⟨[(0, .ptr 0 0), (3, .ptr 6 0)], [(0, .box (hb_log.co b0 4 5)), (3, .pin 0 (β 0)), (4, .li 1 cI 0 b0.at_), (5, .mapI b0.in_), (6, .box (api_Event.cs b6))], 7⟩) (hret : ∀ r, out = .ret r → ∀ s, E59_P59ffffoqd β r s → Q .ret s) : CWP Try.prog Try.f59.ntmps code59_1 Q ⟨[(0, .ptr 0 0), (3, .ptr 6 0)], [(0, .box (hb_log.co b0 4 5)), (3, .pin 0 (β 0)), (4, .li 1 cI 0 b0.at_), (5, .mapI b0.in_), (6, .box (api_Event.cs b6))], 7⟩ := by
  unfold l59_P59ffffoqd__1 at h
  refine CWP.seq ?_
  refine CWP.regionT ⟨[(0, .ptr 0 0), (3, .ptr 6 0), (6, I b6.Kind)], [(0, .box (hb_log.co b0 4 5)), (3, .pin 0 (β 0)), (4, .li 1 cI 0 b0.at_), (5, .mapI b0.in_), (6, .box (api_Event.cs b6))], 23⟩ ?_ ?_
  · exact Le.keep (live := [0, 3, 6]) (names := [0, 3, 4, 5, 6]) (nx := 23) rfl
  refine CWP.block ?_
  refine CWP.seq ?_
  refine CWP.regionT ⟨[(0, .ptr 0 0), (3, .ptr 6 0), (6, I b6.Kind), (7, .tst (b6.Kind == 9))], [(0, .box (hb_log.co b0 4 5)), (3, .pin 0 (β 0)), (4, .li 1 cI 0 b0.at_), (5, .mapI b0.in_), (6, .box (api_Event.cs b6))], 39⟩ ?_ ?_
  · exact Le.keep (live := [0, 3, 6, 7]) (names := [0, 3, 4, 5, 6]) (nx := 39) rfl
  refine CWP.cond (And.intro (fun hc => ?_) (fun hc => ?_))
  · have h := ite_t h hc
    refine CWP.drawT [5] [] ⟨[(0, .ptr 0 0), (3, .ptr 6 0)], [(0, .box (hb_log.co b0 4 5)), (3, .pin 0 (β 0)), (4, .li 1 cI 0 b0.at_), (5, .mapI (mset b0.in_ b6.Obj (w64 (((b0.in_ b6.Obj).getD 0) + 1)))), (6, .box (api_Event.cs b6))], 7⟩ ?_ ?_
    · refine And.intro rfl ?_
      iterate 5 refine And.intro rfl ?_
      refine And.intro ?_ ?_
      · refine And.intro rfl ?_
        refine And.intro rfl ?_
        refine And.intro ?_ ?_
        · refine And.intro rfl ?_
          refine SemOp.ofD rfl ?_
          refine ex_refl ?_
          exact Le.trans (Le.keep (live := [0, 3]) (names := [0, 3, 4, 5, 6]) (nx := 111) rfl) (Le.keep (live := [0, 3]) (names := [0, 3, 4, 5, 6]) (nx := 7) rfl)
        · exact trivial
      · exact trivial
    exact hok _ _ (Option.some.inj h).symm
  · have h := ite_f h hc
    refine CWP.seq ?_
    refine CWP.regionT ⟨[(0, .ptr 0 0), (3, .ptr 6 0), (17, .tst (b6.Kind == 10))], [(0, .box (hb_log.co b0 4 5)), (3, .pin 0 (β 0)), (4, .li 1 cI 0 b0.at_), (5, .mapI b0.in_), (6, .box (api_Event.cs b6))], 55⟩ ?_ ?_
    · exact Le.keep (live := [0, 3, 17]) (names := [0, 3, 4, 5, 6]) (nx := 55) rfl
    refine CWP.cond (And.intro (fun hc => ?_) (fun hc => ?_))
    · have h := ite_t h hc
      refine CWP.drawT [5] [] ⟨[(0, .ptr 0 0), (3, .ptr 6 0)], [(0, .box (hb_log.co b0 4 5)), (3, .pin 0 (β 0)), (4, .li 1 cI 0 b0.at_), (5, .mapI (mset b0.in_ b6.Obj (w64 (((b0.in_ b6.Obj).getD 0) - 1)))), (6, .box (api_Event.cs b6))], 7⟩ ?_ ?_
      · refine And.intro rfl ?_
        iterate 5 refine And.intro rfl ?_
        refine And.intro ?_ ?_
        · refine And.intro rfl ?_
          refine And.intro rfl ?_
          refine And.intro ?_ ?_
          · refine And.intro rfl ?_
            refine SemOp.ofD rfl ?_
            refine ex_refl ?_
            exact Le.trans (Le.keep (live := [0, 3]) (names := [0, 3, 4, 5, 6]) (nx := 127) rfl) (Le.keep (live := [0, 3]) (names := [0, 3, 4, 5, 6]) (nx := 7) rfl)
          · exact trivial
        · exact trivial
      exact hok _ _ (Option.some.inj h).symm
    · have h := ite_f h hc
      refine CWP.seq ?_
      refine CWP.regionT ⟨[(4, .raw (.bool true))], [(0, .box (hb_log.co b0 4 5)), (3, .pin 0 (β 0)), (4, .li 1 cI 0 b0.at_), (5, .mapI b0.in_)], 63⟩ ?_ ?_
      · exact Le.keep (live := [4]) (names := [0, 3, 4, 5]) (nx := 63) rfl
      refine CWP.weaken (s' := ⟨[(4, .tst true)], [(0, .box (hb_log.co b0 1 2)), (1, .li 1 cI 0 b0.at_), (2, .mapI b0.in_), (3, .pin 0 (β 0))], 4⟩) (Le.trans (Le.rep (t := 4) rfl (RepLe.fr rfl (FrLe.tst rfl))) (Le.ren [(0, 0), (1, 4), (2, 5), (3, 3)] rfl ⟨rfl, trivial⟩ ⟨⟨_, rfl, rfl⟩, ⟨_, rfl, rfl⟩, ⟨_, rfl, rfl⟩, ⟨_, rfl, rfl⟩, trivial⟩)) ?_
      refine CWP.ret ?_
      exact hret _ (Option.some.inj h).symm _ ⟨rfl, ⟨⟨_, rfl, rfl⟩, ⟨_, rfl, rfl⟩, ⟨_, rfl, rfl⟩, trivial⟩, ⟨rfl, trivial⟩⟩
theorem wf59_P59ffffoqd {n : Nat} {β : Name → Option Nat} {p0 : hb_log} {p1 : api_Event} {r : Bool × hb_log} (h : s59_P59ffffoqd n p0 p1 = some r) : CWP Try.prog Try.f59.ntmps code59 (AtE (E59_P59ffffoqd β r)) ⟨[(0, .ptr 0 0), (1, .agg (api_Event.cs p1))], [(0, .box (hb_log.co p0 1 2)), (1, .li 1 cI 0 p0.at_), (2, .mapI p0.in_), (3, .pin 0 (β 0))], 4⟩ := by
  unfold s59_P59ffffoqd at h
  refine CWP.seq ?_
  refine CWP.regionT ⟨[(0, .ptr 0 0), (3, .ptr 4 0)], [(0, .box (hb_log.co p0 1 2)), (1, .li 1 cI 0 p0.at_), (2, .mapI p0.in_), (3, .pin 0 (β 0)), (4, .box (api_Event.cs p1))], 20⟩ ?_ ?_
  · exact Le.keep (live := [0, 3]) (names := [0, 1, 2, 3, 4]) (nx := 20) rfl
  refine CWP.seq ?_
  generalize hn154 : l59_P59ffffoqd__1 n p0 p1 = o154 at h
  rcases o154 with _ | o154
  · cases h
  refine CWP.weaken (s' := ⟨[(0, .ptr 0 0), (3, .ptr 6 0)], [(0, .box (hb_log.co p0 4 5)), (3, .pin 0 (β 0)), (4, .li 1 cI 0 p0.at_), (5, .mapI p0.in_), (6, .box (api_Event.cs p1))], 7⟩) (Le.ren [(0, 0), (3, 3), (4, 1), (5, 2), (6, 4)] rfl ⟨rfl, rfl, trivial⟩ ⟨⟨_, rfl, rfl⟩, ⟨_, rfl, rfl⟩, ⟨_, rfl, rfl⟩, ⟨_, rfl, rfl⟩, ⟨_, rfl, rfl⟩, trivial⟩) ?_
  refine t59_P59ffffoqd__1 (β := β) hn154 ?_ ?_
  · intro b0_155 b6_155 e
    subst e
    dsimp only at h
    refine CWP.seq ?_
    obtain ⟨hs156, h⟩ := ite_some h
    refine CWP.drawT [] [] ⟨[(4, .tst ((decide (((b0_155.in_ b6_155.Obj).getD 0) ≥ 0)) && (decide (((b0_155.in_ b6_155.Obj).getD 0) ≤ ((b0_155.d.getD b6_155.Obj.toNat default).Num)))))], [(0, .box (hb_log.co b0_155 4 5)), (3, .pin 0 (β 0)), (4, .li 1 cI 0 b0_155.at_), (5, .mapI b0_155.in_)], 231⟩ ?_ ?_
    · refine And.intro rfl ?_
      iterate 8 refine And.intro rfl ?_
      refine And.intro (fun hg157 => ?_) (fun hg157 => ?_)
      · have hg157 : (decide (((b0_155.in_ b6_155.Obj).getD 0) ≥ 0)) = true := hg157
        iterate 14 refine And.intro rfl ?_
        refine And.intro (hs156 (by simp only [hg157, sB, reduceIte])) ?_
        iterate 5 refine And.intro rfl ?_
        exact Le.trans (Le.rep (t := 4) rfl (RepLe.fr rfl (FrLe.tst2 (by simp only [hg157, sB, reduceIte])))) (Le.keep (live := [4]) (names := [0, 3, 4, 5]) (nx := 231) rfl)
      · have hg157 : (decide (((b0_155.in_ b6_155.Obj).getD 0) ≥ 0)) = false := hg157
        iterate 2 refine And.intro rfl ?_
        exact Le.trans (Le.rep (t := 4) rfl (RepLe.fr rfl (FrLe.tst (by simp only [hg157, sB, reduceIte])))) (Le.keep (live := [4]) (names := [0, 3, 4, 5]) (nx := 231) rfl)
    refine CWP.weaken (s' := ⟨[(4, .tst ((decide (((b0_155.in_ b6_155.Obj).getD 0) ≥ 0)) && (decide (((b0_155.in_ b6_155.Obj).getD 0) ≤ ((b0_155.d.getD b6_155.Obj.toNat default).Num)))))], [(0, .box (hb_log.co b0_155 1 2)), (1, .li 1 cI 0 b0_155.at_), (2, .mapI b0_155.in_), (3, .pin 0 (β 0))], 4⟩) (Le.ren [(0, 0), (1, 4), (2, 5), (3, 3)] rfl ⟨rfl, trivial⟩ ⟨⟨_, rfl, rfl⟩, ⟨_, rfl, rfl⟩, ⟨_, rfl, rfl⟩, ⟨_, rfl, rfl⟩, trivial⟩) ?_
    refine CWP.ret ?_
    have e := Option.some.inj h
    subst e
    exact ⟨rfl, ⟨⟨_, rfl, rfl⟩, ⟨_, rfl, rfl⟩, ⟨_, rfl, rfl⟩, trivial⟩, ⟨rfl, trivial⟩⟩
  · intro r e s hs
    subst e
    dsimp only at h
    have e := Option.some.inj h
    subst e
    exact hs
theorem c59_P59ffffoqd {n : Nat} {p0 : hb_log} {p1 : api_Event} {r : Bool × hb_log} (h : s59_P59ffffoqd n p0 p1 = some r) : RC Try.prog 59 [.ptr 0 0, .agg (api_Event.cs p1)] [(0, .box (hb_log.co p0 1 2)), (1, .li 1 cI 0 p0.at_), (2, .mapI p0.in_)] (.tst r.1) [(0, .box (hb_log.co r.2 1 2)), (1, .li 1 cI 0 r.2.at_), (2, .mapI r.2.in_)] [0] [0, 1, 2] := RC.ofE (st := [(0, .box (hb_log.co p0 1 2)), (1, .li 1 cI 0 p0.at_), (2, .mapI p0.in_)]) (r := .tst r.1) (st' := [(0, .box (hb_log.co r.2 1 2)), (1, .li 1 cI 0 r.2.at_), (2, .mapI r.2.in_)]) (pins := [(3, 0)]) 4 [(0, 0), (1, 1), (2, 2)] (fn := Try.f59) (cc := code59) (res := .one 4) (by kernel_rfl) (by kernel_rfl) tr59 (by kernel_rfl) (Nat.le_of_ble_eq_true rfl) rfl rfl (fun β => wf59_P59ffffoqd (β := β) h)
end Go.AM
