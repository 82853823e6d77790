/- Part 6 of the proof. HbChecks holds: at every shape of events and every log the law answers true and leaves its arguments as they were. -/
import Derived.Test.YtomhajfgokkbfaaC75
set_option linter.unusedVariables false
set_option linter.unusedSimpArgs false
set_option maxHeartbeats 4000000
set_option maxRecDepth 100000
namespace Go.AM
open Go.RowKit Go.Proofs
def code18_1 : CCode :=
 (.block 3
  (.seq
  (.region [⟨(some 40), (.fad 0 (.tmp 3)), none⟩,
   ⟨(some 41), (.load false 1 (.tmp 40)), none⟩,
   ⟨(some 42), (.mv (.tmp 12)), none⟩,
   ⟨(some 43), (.idx 4 (.tmp 41) (.tmp 42)), none⟩,
   ⟨(some 44), (.load true 4 (.tmp 43)), none⟩,
   ⟨(some 13), (.alloc [(.int .i64 0), (.int .i64 0), (.int .i64 0), (.int .i64 0)]), none⟩,
   ⟨none, (.store 4 (.tmp 13) (.tmp 44)), none⟩] none)
  (.seq
   (.seq
   (.region [⟨(some 45), (.mv (.tmp 7)), none⟩,
    ⟨(some 46), (.nilck (.tmp 45)), none⟩,
    ⟨(some 47), (.fad 4 (.tmp 46)), none⟩,
    ⟨(some 48), (.load false 1 (.tmp 47)), none⟩,
    ⟨(some 49), (.mv (.tmp 10)), none⟩,
    ⟨(some 50), (.idx 1 (.tmp 48) (.tmp 49)), none⟩,
    ⟨(some 51), (.load false 1 (.tmp 50)), none⟩,
    ⟨(some 52), (.bin 0 .eql (.tmp 51) (.const (.int .i64 0))), none⟩,
    ⟨(some 53), (.mv (.tmp 52)), none⟩,
    ⟨(some 54), (.mv (.tmp 7)), (some (53, false))⟩,
    ⟨(some 55), (.nilck (.tmp 54)), (some (53, false))⟩,
    ⟨(some 56), (.fad 4 (.tmp 55)), (some (53, false))⟩,
    ⟨(some 57), (.load false 1 (.tmp 56)), (some (53, false))⟩,
    ⟨(some 58), (.mv (.tmp 12)), (some (53, false))⟩,
    ⟨(some 59), (.idx 1 (.tmp 57) (.tmp 58)), (some (53, false))⟩,
    ⟨(some 60), (.load false 1 (.tmp 59)), (some (53, false))⟩,
    ⟨(some 61), (.bin 0 .eql (.tmp 60) (.const (.int .i64 0))), (some (53, false))⟩,
    ⟨(some 62), (.pick (.tmp 53) (.const (.bool true)) (.tmp 61)), none⟩,
    ⟨(some 63), (.mv (.tmp 62)), none⟩,
    ⟨(some 64), (.fad 2 (.tmp 11)), (some (63, false))⟩,
    ⟨(some 65), (.load false 1 (.tmp 64)), (some (63, false))⟩,
    ⟨(some 66), (.call (.func 32) [(.tmp 65)]), (some (63, false))⟩,
    ⟨(some 67), (.un .not (.tmp 66)), (some (63, false))⟩,
    ⟨(some 68), (.pick (.tmp 63) (.const (.bool true)) (.tmp 67)), none⟩,
    ⟨(some 69), (.mv (.tmp 68)), none⟩,
    ⟨(some 70), (.fad 2 (.tmp 13)), (some (69, false))⟩,
    ⟨(some 71), (.load false 1 (.tmp 70)), (some (69, false))⟩,
    ⟨(some 72), (.call (.func 32) [(.tmp 71)]), (some (69, false))⟩,
    ⟨(some 73), (.un .not (.tmp 72)), (some (69, false))⟩,
    ⟨(some 74), (.pick (.tmp 69) (.const (.bool true)) (.tmp 73)), none⟩,
    ⟨(some 75), (.mv (.tmp 74)), none⟩,
    ⟨(some 76), (.fad 3 (.tmp 11)), (some (75, false))⟩,
    ⟨(some 77), (.load false 1 (.tmp 76)), (some (75, false))⟩,
    ⟨(some 78), (.fad 3 (.tmp 13)), (some (75, false))⟩,
    ⟨(some 79), (.load false 1 (.tmp 78)), (some (75, false))⟩,
    ⟨(some 80), (.bin 0 .neq (.tmp 77) (.tmp 79)), (some (75, false))⟩,
    ⟨(some 81), (.pick (.tmp 75) (.const (.bool true)) (.tmp 80)), none⟩,
    ⟨(some 82), (.mv (.tmp 81)), none⟩,
    ⟨(some 83), (.fad 0 (.tmp 11)), (some (82, false))⟩,
    ⟨(some 84), (.load false 1 (.tmp 83)), (some (82, false))⟩,
    ⟨(some 85), (.fad 0 (.tmp 13)), (some (82, false))⟩,
    ⟨(some 86), (.load false 1 (.tmp 85)), (some (82, false))⟩,
    ⟨(some 87), (.bin 0 .eql (.tmp 84) (.tmp 86)), (some (82, false))⟩,
    ⟨(some 88), (.pick (.tmp 82) (.const (.bool true)) (.tmp 87)), none⟩] none)
   (.cond (.tmp 88)
    (.exit 3)
    .skip))
   (.seq
   (.region [⟨(some 89), (.fad 2 (.tmp 11)), none⟩,
    ⟨(some 90), (.load false 1 (.tmp 89)), none⟩,
    ⟨(some 91), (.bin 0 .eql (.tmp 90) (.const (.int .i64 2))), none⟩,
    ⟨(some 92), (.mv (.tmp 91)), none⟩,
    ⟨(some 93), (.fad 2 (.tmp 13)), (some (92, false))⟩,
    ⟨(some 94), (.load false 1 (.tmp 93)), (some (92, false))⟩,
    ⟨(some 95), (.bin 0 .eql (.tmp 94) (.const (.int .i64 2))), (some (92, false))⟩,
    ⟨(some 96), (.pick (.tmp 92) (.const (.bool true)) (.tmp 95)), none⟩,
    ⟨(some 97), (.mv (.tmp 96)), none⟩,
    ⟨(some 98), (.mv (.tmp 8)), (some (97, true))⟩,
    ⟨(some 99), (.mv (.tmp 10)), (some (97, true))⟩,
    ⟨(some 100), (.idx 1 (.tmp 98) (.tmp 99)), (some (97, true))⟩,
    ⟨(some 101), (.load false 1 (.tmp 100)), (some (97, true))⟩,
    ⟨(some 102), (.mv (.tmp 12)), (some (97, true))⟩,
    ⟨(some 103), (.idx 1 (.tmp 101) (.tmp 102)), (some (97, true))⟩,
    ⟨(some 104), (.load false 1 (.tmp 103)), (some (97, true))⟩,
    ⟨(some 105), (.un .not (.tmp 104)), (some (97, true))⟩,
    ⟨(some 106), (.pick (.tmp 97) (.tmp 105) (.const (.bool false))), none⟩,
    ⟨(some 107), (.mv (.tmp 106)), none⟩,
    ⟨(some 108), (.mv (.tmp 8)), (some (107, true))⟩,
    ⟨(some 109), (.mv (.tmp 12)), (some (107, true))⟩,
    ⟨(some 110), (.idx 1 (.tmp 108) (.tmp 109)), (some (107, true))⟩,
    ⟨(some 111), (.load false 1 (.tmp 110)), (some (107, true))⟩,
    ⟨(some 112), (.mv (.tmp 10)), (some (107, true))⟩,
    ⟨(some 113), (.idx 1 (.tmp 111) (.tmp 112)), (some (107, true))⟩,
    ⟨(some 114), (.load false 1 (.tmp 113)), (some (107, true))⟩,
    ⟨(some 115), (.un .not (.tmp 114)), (some (107, true))⟩,
    ⟨(some 116), (.pick (.tmp 107) (.tmp 115) (.const (.bool false))), none⟩] none)
   (.cond (.tmp 116)
    (.region [⟨(some 117), (.mv (.tmp 9)), none⟩,
     ⟨(some 118), (.mv (.tmp 10)), none⟩,
     ⟨(some 119), (.mv (.tmp 12)), none⟩,
     ⟨(some 120), (.build [(.int .i64 0), (.int .i64 0)] [(0, 1, (.tmp 118)), (1, 1, (.tmp 119))]), none⟩,
     ⟨(some 121), (.lit 0 2 1 [(0, (.tmp 120))]), none⟩,
     ⟨(some 122), (.app 2 16 (.tmp 117) (.tmp 121)), none⟩,
     ⟨(some 9), (.mv (.tmp 122)), none⟩] none)
    .skip)))))
def code18_2 : CCode :=
 (.block 2
  (.loop
  (.seq
   (.seq
   (.region [⟨(some 33), (.mv (.tmp 12)), none⟩,
    ⟨(some 34), (.fad 0 (.tmp 3)), none⟩,
    ⟨(some 35), (.load false 1 (.tmp 34)), none⟩,
    ⟨(some 36), (.len 1 (.tmp 35)), none⟩,
    ⟨(some 37), (.bin 0 .lss (.tmp 33) (.tmp 36)), none⟩] none)
   (.cond (.tmp 37)
    .skip
    (.exit 2)))
   (.seq
   code18_1
   (.region [⟨(some 38), (.mv (.tmp 12)), none⟩,
    ⟨(some 39), (.bin 0 .add (.tmp 38) (.const (.int .i64 1))), none⟩,
    ⟨(some 12), (.mv (.tmp 39)), none⟩] none)))))
def code18_3 : CCode :=
 (.block 0
  (.loop
  (.seq
   (.region [⟨(some 27), (.bin 0 .lss (.tmp 26) (.tmp 25)), none⟩] none)
   (.seq
   (.cond (.tmp 27)
    .skip
    (.exit 0))
   (.seq
    (.block 1
    (.seq
     (.region [⟨(some 28), (.mv (.tmp 26)), none⟩,
      ⟨(some 29), (.idx 4 (.tmp 24) (.tmp 26)), none⟩,
      ⟨(some 30), (.load true 4 (.tmp 29)), none⟩,
      ⟨(some 11), (.alloc [(.int .i64 0), (.int .i64 0), (.int .i64 0), (.int .i64 0)]), none⟩,
      ⟨(some 10), (.mv (.tmp 28)), none⟩,
      ⟨none, (.store 4 (.tmp 11) (.tmp 30)), none⟩] none)
     (.seq
     (.region [⟨(some 31), (.mv (.tmp 10)), none⟩,
      ⟨(some 32), (.bin 0 .add (.tmp 31) (.const (.int .i64 1))), none⟩,
      ⟨(some 12), (.mv (.tmp 32)), none⟩] none)
     code18_2)))
    (.region [⟨(some 123), (.bin 0 .add (.tmp 26) (.const (.int .i64 1))), none⟩,
     ⟨(some 26), (.mv (.tmp 123)), none⟩] none))))))
def code18 : CCode :=
 (.seq
  (.region [⟨(some 3), (.box 2 (.tmp 0)), none⟩,
   ⟨(some 6), (.mv (.const (.slice none 0 0))), none⟩] none)
  (.seq
  (.region [⟨(some 14), (.load true 2 (.tmp 3)), none⟩,
   ⟨(some 15), (.mv (.tmp 1)), none⟩,
   ⟨(some 16), (.mv (.tmp 2)), none⟩,
   ⟨(some 17), (.call (.func 25) [(.tmp 14), (.tmp 15), (.tmp 16)]), none⟩,
   ⟨(some 7), (.mv (.tmp 17)), none⟩] none)
  (.seq
   (.seq
   (.region [⟨(some 18), (.mv (.tmp 7)), none⟩,
    ⟨(some 19), (.bin 2 .eql (.tmp 18) (.const (.pointer none))), none⟩] none)
   (.cond (.tmp 19)
    (.seq
    (.region [⟨(some 6), (.mv (.const (.slice none 0 0))), none⟩] none)
    .ret)
    .skip))
   (.seq
   (.region [⟨(some 20), (.mv (.tmp 7)), none⟩,
    ⟨(some 21), (.call (.func 27) [(.tmp 20)]), none⟩,
    ⟨(some 22), (.call (.func 26) [(.tmp 21)]), none⟩,
    ⟨(some 8), (.mv (.tmp 22)), none⟩] none)
   (.seq
    (.region [⟨(some 9), (.mv (.const (.slice none 0 0))), none⟩] none)
    (.seq
    (.seq
     (.region [⟨(some 23), (.fad 0 (.tmp 3)), none⟩,
      ⟨(some 24), (.load false 1 (.tmp 23)), none⟩,
      ⟨(some 25), (.len 1 (.tmp 24)), none⟩,
      ⟨(some 26), (.mv (.const (.int .i64 0))), none⟩] none)
     code18_3)
    (.seq
     (.region [⟨(some 124), (.mv (.tmp 9)), none⟩,
      ⟨(some 6), (.mv (.tmp 124)), none⟩] none)
     .ret)))))))
theorem tr18 : (Try.f18.body).bind (trCode Try.prog Try.f18.ntmps) = some code18 := by kernel_rfl
inductive O18_2 where
  | ok (b0 : api_Shape) (b1 : hb_log) (b4 : List (List Bool)) (b5 : List (Int × Int)) (b6 : api_Event) (v10 : Int) (v12 : Int) (v24 : List api_Event) (v25 : Int) (v26 : Int)
def l18_2 (n : Nat) (b0 : api_Shape) (b1 : hb_log) (b4 : List (List Bool)) (b5 : List (Int × Int)) (b6 : api_Event) (v10 : Int) (v12 : Int) (v24 : List api_Event) (v25 : Int) (v26 : Int) : Option O18_2 :=
  if 0 ≤ v12 ∧ v12 < (b0.Events.length : Int) then
    if 0 ≤ v10 ∧ v10 < (b1.at_.length : Int) then
      if ((b1.at_.getD v10.toNat 0) == 0) = false → 0 ≤ v12 ∧ v12 < (b1.at_.length : Int) then
        (if !(((b1.at_.getD v10.toNat 0) == 0) || ((b1.at_.getD v12.toNat 0) == 0)) then s32 n b6.Kind else some false).bind fun r81 =>
        (if !((((b1.at_.getD v10.toNat 0) == 0) || ((b1.at_.getD v12.toNat 0) == 0)) || !r81) then s32 n ((b0.Events.getD v12.toNat default).Kind) else some false).bind fun r82 =>
        if ((((((b1.at_.getD v10.toNat 0) == 0) || ((b1.at_.getD v12.toNat 0) == 0)) || !r81) || !r82) || (b6.Obj != ((b0.Events.getD v12.toNat default).Obj))) || (b6.Proc == ((b0.Events.getD v12.toNat default).Proc)) then
          some (.ok b0 b1 b4 b5 b6 v10 v12 v24 v25 v26)
        else
          if ((b6.Kind == 2) || (((b0.Events.getD v12.toNat default).Kind) == 2)) = true → 0 ≤ v10 ∧ v10 < (b4.length : Int) then
            if ((b6.Kind == 2) || (((b0.Events.getD v12.toNat default).Kind) == 2)) = true → 0 ≤ v12 ∧ v12 < (((b4.getD v10.toNat []).length) : Int) then
              if (((b6.Kind == 2) || (((b0.Events.getD v12.toNat default).Kind) == 2)) && (!((b4.getD v10.toNat []).getD v12.toNat false))) = true → 0 ≤ v12 ∧ v12 < (b4.length : Int) then
                if (((b6.Kind == 2) || (((b0.Events.getD v12.toNat default).Kind) == 2)) && (!((b4.getD v10.toNat []).getD v12.toNat false))) = true → 0 ≤ v10 ∧ v10 < (((b4.getD v12.toNat []).length) : Int) then
                  if (((b6.Kind == 2) || (((b0.Events.getD v12.toNat default).Kind) == 2)) && (!((b4.getD v10.toNat []).getD v12.toNat false))) && (!((b4.getD v12.toNat []).getD v10.toNat false)) then
                    if (b5.length + 1) * 16 ≤ 140737488355328 then
                      some (.ok b0 b1 b4 (b5 ++ ([(v10, v12)] : List (Int × Int))) b6 v10 v12 v24 v25 v26)
                    else none
                  else
                    some (.ok b0 b1 b4 b5 b6 v10 v12 v24 v25 v26)
                else none
              else none
            else none
          else none
      else none
    else none
  else none
inductive O18_3 where
  | ok (b0 : api_Shape) (b1 : hb_log) (b4 : List (List Bool)) (b5 : List (Int × Int)) (v24 : List api_Event) (v25 : Int) (v26 : Int)
def l18_3 (n : Nat) : Nat → api_Shape → hb_log → (List (List Bool)) → (List (Int × Int)) → api_Event → Int → Int → (List api_Event) → Int → Int → Option O18_3
  | 0, _, _, _, _, _, _, _, _, _, _ => none
  | m + 1, b0, b1, b4, b5, b6, v10, v12, v24, v25, v26 =>
    if decide (v12 < (b0.Events.length : Int)) then
      (match l18_2 n b0 b1 b4 b5 b6 v10 v12 v24 v25 v26 with
      | none => none
      | some (.ok b0_100 b1_100 b4_100 b5_100 b6_100 v10_100 v12_100 v24_100 v25_100 v26_100) =>
        l18_3 n m b0_100 b1_100 b4_100 b5_100 b6_100 v10_100 (w64 (v12_100 + 1)) v24_100 v25_100 v26_100)
    else
      some (.ok b0 b1 b4 b5 v24 v25 v26)
inductive O18_4 where
  | ok (b0 : List (Int × Int))
def l18_4 (n : Nat) : Nat → api_Shape → hb_log → (List (List Bool)) → (List (Int × Int)) → (List api_Event) → Int → Int → Option O18_4
  | 0, _, _, _, _, _, _, _ => none
  | m + 1, b0, b1, b4, b5, v24, v25, v26 =>
    if decide (v26 < v25) then
      if 0 ≤ v26 ∧ v26 < (v24.length : Int) then
        (match l18_3 n n b0 b1 b4 b5 (v24.getD v26.toNat default) v26 (w64 (v26 + 1)) v24 v25 v26 with
        | none => none
        | some (.ok b0_108 b1_108 b4_108 b5_108 v24_108 v25_108 v26_108) =>
          l18_4 n m b0_108 b1_108 b4_108 b5_108 v24_108 v25_108 (w64 (v26_108 + 1)))
      else none
    else
      some (.ok b5)
def s18 (n : Nat) (p0 : api_Shape) (p1 : List api_Decl) (p2 : List api_Entry) : Option (List (Int × Int)) :=
  (s25 n p0 p1 p2).bind fun r15 =>
  (match r15 with
  | none =>
    some ([] : List (Int × Int))
  | some r15 =>
    (s27_fp59 n r15).bind fun r16 =>
    (s26 n r16).bind fun r17 =>
    (match l18_4 n n p0 r15 r17 ([] : List (Int × Int)) p0.Events (p0.Events.length : Int) 0 with
    | none => none
    | some (.ok b0_110) =>
      some b0_110))
def E18 (r : List (Int × Int)) (s : AS) : Prop := resOf s (.one 6) = some (.own 0 2 0 r.length) ∧ EndSt [(0, 0)] s.st [(0, .li 2 Arr49.cell default r)] ∧ PinEnd (fun _ => none) s.st []
theorem t18_2 {n : Nat} {b0 : api_Shape} {b1 : hb_log} {b4 : List (List Bool)} {b5 : List (Int × Int)} {b6 : api_Event} {v10 : Int} {v12 : Int} {v24 : List api_Event} {v25 : Int} {v26 : Int} {out : O18_2} (h : l18_2 n b0 b1 b4 b5 b6 v10 v12 v24 v25 v26 = some out) {Q : Ex → AS → Prop} (hok : ∀ b0 b1 b4 b5 b6 v10 v12 v24 v25 v26, out = .ok b0 b1 b4 b5 b6 v10 v12 v24 v25 v26 → Q .normal ⟨[(3, .ptr 0 0), (7, .ptr 1 0), (8, .own 4 1 0 b4.length), (9, .own 5 2 0 b5.length), (10, I v10), (11, .ptr 6 0), (12, I v12), (24, api_Event.sl v24), (25, I v25), (26, I v26)], [(0, .box (api_Shape.cs b0)), (1, .box (hb_log.co b1 2 3)), (2, .li 1 cI 0 b1.at_), (3, .mapI b1.in_), (4, .ml cB false b4), (5, .li 2 Arr49.cell default b5), (6, .box (api_Event.cs b6))], 7⟩) : CWP Try.prog Try.f18.ntmps code18_1 Q ⟨[(3, .ptr 0 0), (7, .ptr 1 0), (8, .own 4 1 0 b4.length), (9, .own 5 2 0 b5.length), (10, I v10), (11, .ptr 6 0), (12, I v12), (24, api_Event.sl v24), (25, I v25), (26, I v26)], [(0, .box (api_Shape.cs b0)), (1, .box (hb_log.co b1 2 3)), (2, .li 1 cI 0 b1.at_), (3, .mapI b1.in_), (4, .ml cB false b4), (5, .li 2 Arr49.cell default b5), (6, .box (api_Event.cs b6))], 7⟩ := by
  unfold l18_2 at h
  refine CWP.block ?_
  refine CWP.seq ?_
  obtain ⟨hs78, h⟩ := ite_some h
  refine CWP.regionT ⟨[(3, .ptr 0 0), (7, .ptr 1 0), (8, .own 4 1 0 b4.length), (9, .own 5 2 0 b5.length), (10, I v10), (11, .ptr 6 0), (12, I v12), (13, .ptr 47 0), (24, api_Event.sl v24), (25, I v25), (26, I v26)], [(0, .box (api_Shape.cs b0)), (1, .box (hb_log.co b1 2 3)), (2, .li 1 cI 0 b1.at_), (3, .mapI b1.in_), (4, .ml cB false b4), (5, .li 2 Arr49.cell default b5), (6, .box (api_Event.cs b6)), (47, .box [I ((b0.Events.getD v12.toNat default).Proc), I ((b0.Events.getD v12.toNat default).Inst), I ((b0.Events.getD v12.toNat default).Kind), I ((b0.Events.getD v12.toNat default).Obj)])], 63⟩ ?_ ?_
  · refine And.intro hs78 ?_
    refine SemOp.ofT ?_
    refine ex_refl ?_
    exact Le.keep (live := [3, 7, 8, 9, 10, 11, 12, 13, 24, 25, 26]) (names := [0, 1, 2, 3, 4, 5, 6, 47]) (nx := 63) rfl
  refine CWP.seq ?_
  refine CWP.seq ?_
  obtain ⟨hs79, h⟩ := ite_some h
  obtain ⟨hs80, h⟩ := ite_some h
  obtain ⟨r81, hr81, h⟩ := Option.bind_eq_some_iff.1 h
  obtain ⟨r82, hr82, h⟩ := Option.bind_eq_some_iff.1 h
  refine CWP.regionT ⟨[(3, .ptr 0 0), (7, .ptr 1 0), (8, .own 4 1 0 b4.length), (9, .own 5 2 0 b5.length), (10, I v10), (11, .ptr 6 0), (12, I v12), (13, .ptr 47 0), (24, api_Event.sl v24), (25, I v25), (26, I v26), (88, .tst (((((((b1.at_.getD v10.toNat 0) == 0) || ((b1.at_.getD v12.toNat 0) == 0)) || !r81) || !r82) || (b6.Obj != ((b0.Events.getD v12.toNat default).Obj))) || (b6.Proc == ((b0.Events.getD v12.toNat default).Proc))))], [(0, .box (api_Shape.cs b0)), (1, .box (hb_log.co b1 2 3)), (2, .li 1 cI 0 b1.at_), (3, .mapI b1.in_), (4, .ml cB false b4), (5, .li 2 Arr49.cell default b5), (6, .box (api_Event.cs b6)), (47, .box [I ((b0.Events.getD v12.toNat default).Proc), I ((b0.Events.getD v12.toNat default).Inst), I ((b0.Events.getD v12.toNat default).Kind), I ((b0.Events.getD v12.toNat default).Obj)])], 415⟩ ?_ ?_
  · refine And.intro hs79 ?_
    refine And.intro (idx_lt hs79) ?_
    refine And.intro (fun hg92 => ?_) (fun hg92 => ?_)
    · have hg92 : ((b1.at_.getD v10.toNat 0) == 0) = false := hg92
      refine And.intro (hs80 (by simp only [hg92, sB, reduceIte])) ?_
      refine And.intro (idx_lt (hs80 (by simp only [hg92, sB, reduceIte]))) ?_
      refine And.intro (fun hg93 => ?_) (fun hg93 => ?_)
      · have hg93 : ((b1.at_.getD v12.toNat 0) == 0) = false := hg93
        refine FC.semT rfl rfl rfl trivial (c32 (ite_t hr81 (by simp only [hg92, hg93, sB, reduceIte]))) (Or.inl rfl) ?_
        refine ex_refl ?_
        refine And.intro (fun hg94 => ?_) (fun hg94 => ?_)
        · have hg94 : (!r81) = false := hg94
          refine FC.semT rfl rfl rfl trivial (c32 (ite_t hr82 (by simp only [hg92, hg93, hg94, sB, reduceIte]))) (Or.inl rfl) ?_
          refine ex_refl ?_
          refine And.intro (fun hg95 => ?_) (fun hg95 => ?_)
          · have hg95 : (!r82) = false := hg95
            refine And.intro (fun hg96 => ?_) (fun hg96 => ?_)
            · have hg96 : (b6.Obj != ((b0.Events.getD v12.toNat default).Obj)) = false := hg96
              exact Le.trans (Le.rep (t := 88) rfl (RepLe.fr rfl (FrLe.tst2 (by simp only [hg92, hg93, hg94, hg95, hg96, sB, reduceIte])))) (Le.keep (live := [3, 7, 8, 9, 10, 11, 12, 13, 24, 25, 26, 88]) (names := [0, 1, 2, 3, 4, 5, 6, 47]) (nx := 415) rfl)
            · have hg96 : (b6.Obj != ((b0.Events.getD v12.toNat default).Obj)) = true := hg96
              exact Le.trans (Le.rep (t := 88) rfl (RepLe.fr rfl (FrLe.tst (by simp only [hg92, hg93, hg94, hg95, hg96, sB, reduceIte])))) (Le.keep (live := [3, 7, 8, 9, 10, 11, 12, 13, 24, 25, 26, 88]) (names := [0, 1, 2, 3, 4, 5, 6, 47]) (nx := 415) rfl)
          · have hg95 : (!r82) = true := hg95
            exact Le.trans (Le.rep (t := 88) rfl (RepLe.fr rfl (FrLe.tst (by simp only [hg92, hg93, hg94, hg95, sB, reduceIte])))) (Le.keep (live := [3, 7, 8, 9, 10, 11, 12, 13, 24, 25, 26, 88]) (names := [0, 1, 2, 3, 4, 5, 6, 47]) (nx := 415) rfl)
        · have hg94 : (!r81) = true := hg94
          exact Le.trans (Le.rep (t := 88) rfl (RepLe.fr rfl (FrLe.tst (by simp only [hg92, hg93, hg94, sB, reduceIte])))) (Le.keep (live := [3, 7, 8, 9, 10, 11, 12, 13, 24, 25, 26, 88]) (names := [0, 1, 2, 3, 4, 5, 6, 47]) (nx := 415) rfl)
      · have hg93 : ((b1.at_.getD v12.toNat 0) == 0) = true := hg93
        exact Le.trans (Le.rep (t := 88) rfl (RepLe.fr rfl (FrLe.tst (by simp only [hg92, hg93, sB, reduceIte])))) (Le.keep (live := [3, 7, 8, 9, 10, 11, 12, 13, 24, 25, 26, 88]) (names := [0, 1, 2, 3, 4, 5, 6, 47]) (nx := 415) rfl)
    · have hg92 : ((b1.at_.getD v10.toNat 0) == 0) = true := hg92
      exact Le.trans (Le.rep (t := 88) rfl (RepLe.fr rfl (FrLe.tst (by simp only [hg92, sB, reduceIte])))) (Le.keep (live := [3, 7, 8, 9, 10, 11, 12, 13, 24, 25, 26, 88]) (names := [0, 1, 2, 3, 4, 5, 6, 47]) (nx := 415) rfl)
  refine CWP.cond (And.intro (fun hc => ?_) (fun hc => ?_))
  · have h := ite_t h hc
    refine CWP.exitL (Le.keep (live := [3, 7, 8, 9, 10, 11, 12, 24, 25, 26]) (names := [0, 1, 2, 3, 4, 5, 6]) (nx := 7) rfl) (s' := ⟨[(3, .ptr 0 0), (7, .ptr 1 0), (8, .own 4 1 0 b4.length), (9, .own 5 2 0 b5.length), (10, I v10), (11, .ptr 6 0), (12, I v12), (24, api_Event.sl v24), (25, I v25), (26, I v26)], [(0, .box (api_Shape.cs b0)), (1, .box (hb_log.co b1 2 3)), (2, .li 1 cI 0 b1.at_), (3, .mapI b1.in_), (4, .ml cB false b4), (5, .li 2 Arr49.cell default b5), (6, .box (api_Event.cs b6))], 7⟩) ?_
    exact hok _ _ _ _ _ _ _ _ _ _ (Option.some.inj h).symm
  · have h := ite_f h hc
    refine CWP.skip ?_
    refine CWP.seq ?_
    obtain ⟨hs83, h⟩ := ite_some h
    obtain ⟨hs84, h⟩ := ite_some h
    obtain ⟨hs85, h⟩ := ite_some h
    obtain ⟨hs86, h⟩ := ite_some h
    refine CWP.regionT ⟨[(3, .ptr 0 0), (7, .ptr 1 0), (8, .own 4 1 0 b4.length), (9, .own 5 2 0 b5.length), (10, I v10), (11, .ptr 6 0), (12, I v12), (24, api_Event.sl v24), (25, I v25), (26, I v26), (116, .tst ((((b6.Kind == 2) || (((b0.Events.getD v12.toNat default).Kind) == 2)) && (!((b4.getD v10.toNat []).getD v12.toNat false))) && (!((b4.getD v12.toNat []).getD v10.toNat false))))], [(0, .box (api_Shape.cs b0)), (1, .box (hb_log.co b1 2 3)), (2, .li 1 cI 0 b1.at_), (3, .mapI b1.in_), (4, .ml cB false b4), (5, .li 2 Arr49.cell default b5), (6, .box (api_Event.cs b6))], 639⟩ ?_ ?_
    · refine And.intro (fun hg88 => ?_) (fun hg88 => ?_)
      · have hg88 : (b6.Kind == 2) = false := hg88
        refine And.intro (fun hg89 => ?_) (fun hg89 => ?_)
        · have hg89 : (((b0.Events.getD v12.toNat default).Kind) == 2) = true := hg89
          refine And.intro (hs83 (by simp only [hg88, hg89, sB, reduceIte])) ?_
          refine And.intro (idx_lt (hs83 (by simp only [hg88, hg89, sB, reduceIte]))) ?_
          refine And.intro (hs84 (by simp only [hg88, hg89, sB, reduceIte])) ?_
          refine And.intro ⟨idx_lt (hs83 (by simp only [hg88, hg89, sB, reduceIte])), idx_lt (hs84 (by simp only [hg88, hg89, sB, reduceIte]))⟩ ?_
          refine And.intro (fun hg90 => ?_) (fun hg90 => ?_)
          · have hg90 : (!((b4.getD v10.toNat []).getD v12.toNat false)) = true := hg90
            refine And.intro (hs85 (by simp only [hg88, hg89, hg90, sB, reduceIte])) ?_
            refine And.intro (idx_lt (hs85 (by simp only [hg88, hg89, hg90, sB, reduceIte]))) ?_
            refine And.intro (hs86 (by simp only [hg88, hg89, hg90, sB, reduceIte])) ?_
            refine And.intro ⟨idx_lt (hs85 (by simp only [hg88, hg89, hg90, sB, reduceIte])), idx_lt (hs86 (by simp only [hg88, hg89, hg90, sB, reduceIte]))⟩ ?_
            exact Le.trans (Le.rep (t := 116) rfl (RepLe.fr rfl (FrLe.tst2 (by simp only [hg88, hg89, hg90, sB, reduceIte])))) (Le.keep (live := [3, 7, 8, 9, 10, 11, 12, 24, 25, 26, 116]) (names := [0, 1, 2, 3, 4, 5, 6]) (nx := 639) rfl)
          · have hg90 : (!((b4.getD v10.toNat []).getD v12.toNat false)) = false := hg90
            exact Le.trans (Le.rep (t := 116) rfl (RepLe.fr rfl (FrLe.tst (by simp only [hg88, hg89, hg90, sB, reduceIte])))) (Le.keep (live := [3, 7, 8, 9, 10, 11, 12, 24, 25, 26, 116]) (names := [0, 1, 2, 3, 4, 5, 6]) (nx := 639) rfl)
        · have hg89 : (((b0.Events.getD v12.toNat default).Kind) == 2) = false := hg89
          exact Le.trans (Le.rep (t := 116) rfl (RepLe.fr rfl (FrLe.tst (by simp only [hg88, hg89, sB, reduceIte])))) (Le.keep (live := [3, 7, 8, 9, 10, 11, 12, 24, 25, 26, 116]) (names := [0, 1, 2, 3, 4, 5, 6]) (nx := 639) rfl)
      · have hg88 : (b6.Kind == 2) = true := hg88
        refine And.intro (hs83 (by simp only [hg88, sB, reduceIte])) ?_
        refine And.intro (idx_lt (hs83 (by simp only [hg88, sB, reduceIte]))) ?_
        refine And.intro (hs84 (by simp only [hg88, sB, reduceIte])) ?_
        refine And.intro ⟨idx_lt (hs83 (by simp only [hg88, sB, reduceIte])), idx_lt (hs84 (by simp only [hg88, sB, reduceIte]))⟩ ?_
        refine And.intro (fun hg91 => ?_) (fun hg91 => ?_)
        · have hg91 : (!((b4.getD v10.toNat []).getD v12.toNat false)) = true := hg91
          refine And.intro (hs85 (by simp only [hg88, hg91, sB, reduceIte])) ?_
          refine And.intro (idx_lt (hs85 (by simp only [hg88, hg91, sB, reduceIte]))) ?_
          refine And.intro (hs86 (by simp only [hg88, hg91, sB, reduceIte])) ?_
          refine And.intro ⟨idx_lt (hs85 (by simp only [hg88, hg91, sB, reduceIte])), idx_lt (hs86 (by simp only [hg88, hg91, sB, reduceIte]))⟩ ?_
          exact Le.trans (Le.rep (t := 116) rfl (RepLe.fr rfl (FrLe.tst2 (by simp only [hg88, hg91, sB, reduceIte])))) (Le.keep (live := [3, 7, 8, 9, 10, 11, 12, 24, 25, 26, 116]) (names := [0, 1, 2, 3, 4, 5, 6]) (nx := 639) rfl)
        · have hg91 : (!((b4.getD v10.toNat []).getD v12.toNat false)) = false := hg91
          exact Le.trans (Le.rep (t := 116) rfl (RepLe.fr rfl (FrLe.tst (by simp only [hg88, hg91, sB, reduceIte])))) (Le.keep (live := [3, 7, 8, 9, 10, 11, 12, 24, 25, 26, 116]) (names := [0, 1, 2, 3, 4, 5, 6]) (nx := 639) rfl)
    refine CWP.cond (And.intro (fun hc => ?_) (fun hc => ?_))
    · have h := ite_t h hc
      obtain ⟨hs87, h⟩ := ite_some h
      refine CWP.regionT ⟨[(3, .ptr 0 0), (7, .ptr 1 0), (8, .own 4 1 0 b4.length), (9, .own 5 2 0 ((b5 ++ ([(v10, v12)] : List (Int × Int))).length)), (10, I v10), (11, .ptr 6 0), (12, I v12), (24, api_Event.sl v24), (25, I v25), (26, I v26)], [(0, .box (api_Shape.cs b0)), (1, .box (hb_log.co b1 2 3)), (2, .li 1 cI 0 b1.at_), (3, .mapI b1.in_), (4, .ml cB false b4), (5, .li 2 Arr49.cell default (b5 ++ ([(v10, v12)] : List (Int × Int)))), (6, .box (api_Event.cs b6))], 7⟩ ?_ ?_
      · refine SemOp.ofT ?_
        refine ex_arr ([(v10, v12)] : List (Int × Int)) (x := 671) (sz := 2) (n := 1) (cell := Arr49.cell) (d := default) rfl (by intro j c hj hc; match j, hj with | 0, _ => (match c, hc with | 0, _ => rfl | 1, _ => rfl | _ + 2, h => exact absurd h (by omega)) | _ + 1, h => exact absurd h (by omega)) ?_
        refine SemOp.ofT ?_
        refine And.intro ⟨Nat.le_refl _, hs87, Nat.le_refl _⟩ ?_
        refine ex_arr (b5 ++ ([(v10, v12)] : List (Int × Int))) (x := 5) (cell := Arr49.cell) (d := default) rfl (li_ap rfl rfl) ?_
        exact Le.trans (Le.trans (Le.list (x := 5) rfl (cell := Arr49.cell) (d := default) (l := b5 ++ ([(v10, v12)] : List (Int × Int))) (len_app (l := b5) (k := ([(v10, v12)] : List (Int × Int))) (n := b5.length) (m := 1) rfl rfl) (fun _ _ _ _ => rfl)) (Le.trans (Le.rep (t := 9) rfl (RepLe.ownLen (len_app (l := b5) (k := ([(v10, v12)] : List (Int × Int))) (n := b5.length) (m := 1) rfl rfl).symm)) (Le.keep (live := [3, 7, 8, 9, 10, 11, 12, 24, 25, 26]) (names := [0, 1, 2, 3, 4, 5, 6]) (nx := 695) rfl))) (Le.keep (live := [3, 7, 8, 9, 10, 11, 12, 24, 25, 26]) (names := [0, 1, 2, 3, 4, 5, 6]) (nx := 7) rfl)
      exact hok _ _ _ _ _ _ _ _ _ _ (Option.some.inj h).symm
    · have h := ite_f h hc
      refine CWP.skipL (Le.keep (live := [3, 7, 8, 9, 10, 11, 12, 24, 25, 26]) (names := [0, 1, 2, 3, 4, 5, 6]) (nx := 7) rfl) (s' := ⟨[(3, .ptr 0 0), (7, .ptr 1 0), (8, .own 4 1 0 b4.length), (9, .own 5 2 0 b5.length), (10, I v10), (11, .ptr 6 0), (12, I v12), (24, api_Event.sl v24), (25, I v25), (26, I v26)], [(0, .box (api_Shape.cs b0)), (1, .box (hb_log.co b1 2 3)), (2, .li 1 cI 0 b1.at_), (3, .mapI b1.in_), (4, .ml cB false b4), (5, .li 2 Arr49.cell default b5), (6, .box (api_Event.cs b6))], 7⟩) ?_
      exact hok _ _ _ _ _ _ _ _ _ _ (Option.some.inj h).symm
theorem t18_3 {n fuel : Nat} {b0 : api_Shape} {b1 : hb_log} {b4 : List (List Bool)} {b5 : List (Int × Int)} {b6 : api_Event} {v10 : Int} {v12 : Int} {v24 : List api_Event} {v25 : Int} {v26 : Int} {out : O18_3} (h : l18_3 n fuel b0 b1 b4 b5 b6 v10 v12 v24 v25 v26 = some out) {Q : Ex → AS → Prop} (hok : ∀ b0 b1 b4 b5 v24 v25 v26, out = .ok b0 b1 b4 b5 v24 v25 v26 → Q .normal ⟨[(3, .ptr 0 0), (7, .ptr 1 0), (8, .own 4 1 0 b4.length), (9, .own 5 2 0 b5.length), (24, api_Event.sl v24), (25, I v25), (26, I v26)], [(0, .box (api_Shape.cs b0)), (1, .box (hb_log.co b1 2 3)), (2, .li 1 cI 0 b1.at_), (3, .mapI b1.in_), (4, .ml cB false b4), (5, .li 2 Arr49.cell default b5)], 6⟩) : CWP Try.prog Try.f18.ntmps code18_2 Q ⟨[(3, .ptr 0 0), (7, .ptr 1 0), (8, .own 4 1 0 b4.length), (9, .own 5 2 0 b5.length), (10, I v10), (11, .ptr 6 0), (12, I v12), (24, api_Event.sl v24), (25, I v25), (26, I v26)], [(0, .box (api_Shape.cs b0)), (1, .box (hb_log.co b1 2 3)), (2, .li 1 cI 0 b1.at_), (3, .mapI b1.in_), (4, .ml cB false b4), (5, .li 2 Arr49.cell default b5), (6, .box (api_Event.cs b6))], 7⟩ := by
  refine CWP.block ?_
  refine CWP.loop (fun k s => ∃ b0 : api_Shape, ∃ b1 : hb_log, ∃ b4 : List (List Bool), ∃ b5 : List (Int × Int), ∃ b6 : api_Event, ∃ v10 : Int, ∃ v12 : Int, ∃ v24 : List api_Event, ∃ v25 : Int, ∃ v26 : Int, s = ⟨[(3, .ptr 0 0), (7, .ptr 1 0), (8, .own 4 1 0 b4.length), (9, .own 5 2 0 b5.length), (10, I v10), (11, .ptr 6 0), (12, I v12), (24, api_Event.sl v24), (25, I v25), (26, I v26)], [(0, .box (api_Shape.cs b0)), (1, .box (hb_log.co b1 2 3)), (2, .li 1 cI 0 b1.at_), (3, .mapI b1.in_), (4, .ml cB false b4), (5, .li 2 Arr49.cell default b5), (6, .box (api_Event.cs b6))], 7⟩ ∧ l18_3 n k b0 b1 b4 b5 b6 v10 v12 v24 v25 v26 = some out) fuel ⟨b0, b1, b4, b5, b6, v10, v12, v24, v25, v26, rfl, h⟩ ?_
  clear h
  rintro k s ⟨b0, b1, b4, b5, b6, v10, v12, v24, v25, v26, rfl, h⟩
  cases k with
  | zero => cases h
  | succ m =>
    rw [l18_3] at h
    refine CWP.seq ?_
    refine CWP.seq ?_
    refine CWP.regionT ⟨[(3, .ptr 0 0), (7, .ptr 1 0), (8, .own 4 1 0 b4.length), (9, .own 5 2 0 b5.length), (10, I v10), (11, .ptr 6 0), (12, I v12), (24, api_Event.sl v24), (25, I v25), (26, I v26), (37, .tst (decide (v12 < (b0.Events.length : Int))))], [(0, .box (api_Shape.cs b0)), (1, .box (hb_log.co b1 2 3)), (2, .li 1 cI 0 b1.at_), (3, .mapI b1.in_), (4, .ml cB false b4), (5, .li 2 Arr49.cell default b5), (6, .box (api_Event.cs b6))], 47⟩ ?_ ?_
    · exact Le.keep (live := [3, 7, 8, 9, 10, 11, 12, 24, 25, 26, 37]) (names := [0, 1, 2, 3, 4, 5, 6]) (nx := 47) rfl
    refine CWP.cond (And.intro (fun hc => ?_) (fun hc => ?_))
    · have h := ite_t h hc
      refine CWP.skip ?_
      refine CWP.seq ?_
      generalize hn99 : l18_2 n b0 b1 b4 b5 b6 v10 v12 v24 v25 v26 = o99 at h
      rcases o99 with _ | o99
      · cases h
      refine CWP.weaken (s' := ⟨[(3, .ptr 0 0), (7, .ptr 1 0), (8, .own 4 1 0 b4.length), (9, .own 5 2 0 b5.length), (10, I v10), (11, .ptr 6 0), (12, I v12), (24, api_Event.sl v24), (25, I v25), (26, I v26)], [(0, .box (api_Shape.cs b0)), (1, .box (hb_log.co b1 2 3)), (2, .li 1 cI 0 b1.at_), (3, .mapI b1.in_), (4, .ml cB false b4), (5, .li 2 Arr49.cell default b5), (6, .box (api_Event.cs b6))], 7⟩) (Le.keep (live := [3, 7, 8, 9, 10, 11, 12, 24, 25, 26]) (names := [0, 1, 2, 3, 4, 5, 6]) (nx := 7) rfl) ?_
      refine t18_2 hn99 ?_
      · intro b0_100 b1_100 b4_100 b5_100 b6_100 v10_100 v12_100 v24_100 v25_100 v26_100 e
        subst e
        dsimp only at h
        refine CWP.regionT ⟨[(3, .ptr 0 0), (7, .ptr 1 0), (8, .own 4 1 0 b4_100.length), (9, .own 5 2 0 b5_100.length), (10, I v10_100), (11, .ptr 6 0), (12, I (w64 (v12_100 + 1))), (24, api_Event.sl v24_100), (25, I v25_100), (26, I v26_100)], [(0, .box (api_Shape.cs b0_100)), (1, .box (hb_log.co b1_100 2 3)), (2, .li 1 cI 0 b1_100.at_), (3, .mapI b1_100.in_), (4, .ml cB false b4_100), (5, .li 2 Arr49.cell default b5_100), (6, .box (api_Event.cs b6_100))], 7⟩ ?_ ?_
        · exact Le.trans (Le.keep (live := [3, 7, 8, 9, 10, 11, 12, 24, 25, 26]) (names := [0, 1, 2, 3, 4, 5, 6]) (nx := 31) rfl) (Le.keep (live := [3, 7, 8, 9, 10, 11, 12, 24, 25, 26]) (names := [0, 1, 2, 3, 4, 5, 6]) (nx := 7) rfl)
        exact ⟨m, Nat.lt_succ_self m, _, _, _, _, _, _, _, _, _, _, rfl, h⟩
    · have h := ite_f h hc
      refine CWP.exitL (Le.keep (live := [3, 7, 8, 9, 24, 25, 26]) (names := [0, 1, 2, 3, 4, 5]) (nx := 6) rfl) (s' := ⟨[(3, .ptr 0 0), (7, .ptr 1 0), (8, .own 4 1 0 b4.length), (9, .own 5 2 0 b5.length), (24, api_Event.sl v24), (25, I v25), (26, I v26)], [(0, .box (api_Shape.cs b0)), (1, .box (hb_log.co b1 2 3)), (2, .li 1 cI 0 b1.at_), (3, .mapI b1.in_), (4, .ml cB false b4), (5, .li 2 Arr49.cell default b5)], 6⟩) ?_
      exact hok _ _ _ _ _ _ _ (Option.some.inj h).symm
theorem t18_4 {n fuel : Nat} {b0 : api_Shape} {b1 : hb_log} {b4 : List (List Bool)} {b5 : List (Int × Int)} {v24 : List api_Event} {v25 : Int} {v26 : Int} {out : O18_4} (h : l18_4 n fuel b0 b1 b4 b5 v24 v25 v26 = some out) {Q : Ex → AS → Prop} (hok : ∀ b0, out = .ok b0 → Q .normal ⟨[(9, .own 0 2 0 b0.length)], [(0, .li 2 Arr49.cell default b0)], 1⟩) : CWP Try.prog Try.f18.ntmps code18_3 Q ⟨[(3, .ptr 0 0), (7, .ptr 1 0), (8, .own 4 1 0 b4.length), (9, .own 5 2 0 b5.length), (24, api_Event.sl v24), (25, I v25), (26, I v26)], [(0, .box (api_Shape.cs b0)), (1, .box (hb_log.co b1 2 3)), (2, .li 1 cI 0 b1.at_), (3, .mapI b1.in_), (4, .ml cB false b4), (5, .li 2 Arr49.cell default b5)], 6⟩ := by
  refine CWP.block ?_
  refine CWP.loop (fun k s => ∃ b0 : api_Shape, ∃ b1 : hb_log, ∃ b4 : List (List Bool), ∃ b5 : List (Int × Int), ∃ v24 : List api_Event, ∃ v25 : Int, ∃ v26 : Int, s = ⟨[(3, .ptr 0 0), (7, .ptr 1 0), (8, .own 4 1 0 b4.length), (9, .own 5 2 0 b5.length), (24, api_Event.sl v24), (25, I v25), (26, I v26)], [(0, .box (api_Shape.cs b0)), (1, .box (hb_log.co b1 2 3)), (2, .li 1 cI 0 b1.at_), (3, .mapI b1.in_), (4, .ml cB false b4), (5, .li 2 Arr49.cell default b5)], 6⟩ ∧ l18_4 n k b0 b1 b4 b5 v24 v25 v26 = some out) fuel ⟨b0, b1, b4, b5, v24, v25, v26, rfl, h⟩ ?_
  clear h
  rintro k s ⟨b0, b1, b4, b5, v24, v25, v26, rfl, h⟩
  cases k with
  | zero => cases h
  | succ m =>
    rw [l18_4] at h
    refine CWP.seq ?_
    refine CWP.regionT ⟨[(3, .ptr 0 0), (7, .ptr 1 0), (8, .own 4 1 0 b4.length), (9, .own 5 2 0 b5.length), (24, api_Event.sl v24), (25, I v25), (26, I v26), (27, .tst (decide (v26 < v25)))], [(0, .box (api_Shape.cs b0)), (1, .box (hb_log.co b1 2 3)), (2, .li 1 cI 0 b1.at_), (3, .mapI b1.in_), (4, .ml cB false b4), (5, .li 2 Arr49.cell default b5)], 14⟩ ?_ ?_
    · exact Le.keep (live := [3, 7, 8, 9, 24, 25, 26, 27]) (names := [0, 1, 2, 3, 4, 5]) (nx := 14) rfl
    refine CWP.seq ?_
    refine CWP.cond (And.intro (fun hc => ?_) (fun hc => ?_))
    · have h := ite_t h hc
      refine CWP.skip ?_
      refine CWP.seq ?_
      refine CWP.block ?_
      refine CWP.seq ?_
      obtain ⟨hs106, h⟩ := ite_some h
      refine CWP.regionT ⟨[(3, .ptr 0 0), (7, .ptr 1 0), (8, .own 4 1 0 b4.length), (9, .own 5 2 0 b5.length), (10, I v26), (11, .ptr 38 0), (24, api_Event.sl v24), (25, I v25), (26, I v26)], [(0, .box (api_Shape.cs b0)), (1, .box (hb_log.co b1 2 3)), (2, .li 1 cI 0 b1.at_), (3, .mapI b1.in_), (4, .ml cB false b4), (5, .li 2 Arr49.cell default b5), (38, .box [I ((v24.getD v26.toNat default).Proc), I ((v24.getD v26.toNat default).Inst), I ((v24.getD v26.toNat default).Kind), I ((v24.getD v26.toNat default).Obj)])], 62⟩ ?_ ?_
      · refine And.intro hs106 ?_
        refine SemOp.ofT ?_
        refine ex_refl ?_
        exact Le.keep (live := [3, 7, 8, 9, 10, 11, 24, 25, 26]) (names := [0, 1, 2, 3, 4, 5, 38]) (nx := 62) rfl
      refine CWP.seq ?_
      refine CWP.regionT ⟨[(3, .ptr 0 0), (7, .ptr 1 0), (8, .own 4 1 0 b4.length), (9, .own 5 2 0 b5.length), (10, I v26), (11, .ptr 38 0), (12, I (w64 (v26 + 1))), (24, api_Event.sl v24), (25, I v25), (26, I v26)], [(0, .box (api_Shape.cs b0)), (1, .box (hb_log.co b1 2 3)), (2, .li 1 cI 0 b1.at_), (3, .mapI b1.in_), (4, .ml cB false b4), (5, .li 2 Arr49.cell default b5), (38, .box [I ((v24.getD v26.toNat default).Proc), I ((v24.getD v26.toNat default).Inst), I ((v24.getD v26.toNat default).Kind), I ((v24.getD v26.toNat default).Obj)])], 86⟩ ?_ ?_
      · exact Le.keep (live := [3, 7, 8, 9, 10, 11, 12, 24, 25, 26]) (names := [0, 1, 2, 3, 4, 5, 38]) (nx := 86) rfl
      generalize hn107 : l18_3 n n b0 b1 b4 b5 (v24.getD v26.toNat default) v26 (w64 (v26 + 1)) v24 v25 v26 = o107 at h
      rcases o107 with _ | o107
      · cases h
      refine CWP.weaken (s' := ⟨[(3, .ptr 0 0), (7, .ptr 1 0), (8, .own 4 1 0 b4.length), (9, .own 5 2 0 b5.length), (10, I v26), (11, .ptr 6 0), (12, I (w64 (v26 + 1))), (24, api_Event.sl v24), (25, I v25), (26, I v26)], [(0, .box (api_Shape.cs b0)), (1, .box (hb_log.co b1 2 3)), (2, .li 1 cI 0 b1.at_), (3, .mapI b1.in_), (4, .ml cB false b4), (5, .li 2 Arr49.cell default b5), (6, .box [I ((v24.getD v26.toNat default).Proc), I ((v24.getD v26.toNat default).Inst), I ((v24.getD v26.toNat default).Kind), I ((v24.getD v26.toNat default).Obj)])], 7⟩) (Le.ren [(0, 0), (1, 1), (2, 2), (3, 3), (4, 4), (5, 5), (6, 38)] rfl ⟨rfl, rfl, rfl, rfl, rfl, rfl, rfl, rfl, rfl, rfl, trivial⟩ ⟨⟨_, rfl, rfl⟩, ⟨_, rfl, rfl⟩, ⟨_, rfl, rfl⟩, ⟨_, rfl, rfl⟩, ⟨_, rfl, rfl⟩, ⟨_, rfl, rfl⟩, ⟨_, rfl, rfl⟩, trivial⟩) ?_
      refine t18_3 hn107 ?_
      · intro b0_108 b1_108 b4_108 b5_108 v24_108 v25_108 v26_108 e
        subst e
        dsimp only at h
        refine CWP.regionT ⟨[(3, .ptr 0 0), (7, .ptr 1 0), (8, .own 4 1 0 b4_108.length), (9, .own 5 2 0 b5_108.length), (24, api_Event.sl v24_108), (25, I v25_108), (26, I (w64 (v26_108 + 1)))], [(0, .box (api_Shape.cs b0_108)), (1, .box (hb_log.co b1_108 2 3)), (2, .li 1 cI 0 b1_108.at_), (3, .mapI b1_108.in_), (4, .ml cB false b4_108), (5, .li 2 Arr49.cell default b5_108)], 6⟩ ?_ ?_
        · exact Le.trans (Le.keep (live := [3, 7, 8, 9, 24, 25, 26]) (names := [0, 1, 2, 3, 4, 5]) (nx := 22) rfl) (Le.keep (live := [3, 7, 8, 9, 24, 25, 26]) (names := [0, 1, 2, 3, 4, 5]) (nx := 6) rfl)
        exact ⟨m, Nat.lt_succ_self m, _, _, _, _, _, _, _, rfl, h⟩
    · have h := ite_f h hc
      refine CWP.exitL (Le.ren [(0, 5)] rfl ⟨rfl, trivial⟩ ⟨⟨_, rfl, rfl⟩, trivial⟩) (s' := ⟨[(9, .own 0 2 0 b5.length)], [(0, .li 2 Arr49.cell default b5)], 1⟩) ?_
      exact hok _ (Option.some.inj h).symm
theorem wf18 {n : Nat} {p0 : api_Shape} {p1 : List api_Decl} {p2 : List api_Entry} {r : List (Int × Int)} (h : s18 n p0 p1 p2 = some r) : CWP Try.prog Try.f18.ntmps code18 (AtE (E18 r)) ⟨[(0, .agg (api_Shape.cs p0)), (1, api_Decl.sl p1), (2, api_Entry.sl p2)], [], 0⟩ := by
  unfold s18 at h
  refine CWP.seq ?_
  refine CWP.regionT ⟨[(1, api_Decl.sl p1), (2, api_Entry.sl p2), (3, .ptr 0 0)], [(0, .box (api_Shape.cs p0))], 16⟩ ?_ ?_
  · exact Le.keep (live := [1, 2, 3]) (names := [0]) (nx := 16) rfl
  refine CWP.seq ?_
  obtain ⟨r15, hr15, h⟩ := Option.bind_eq_some_iff.1 h
  rcases r15 with _ | r15
  · dsimp only at h
    refine CWP.regionT ⟨[(3, .ptr 0 0), (7, .raw (.pointer none))], [(0, .box (api_Shape.cs p0))], 56⟩ ?_ ?_
    · refine FC.semT rfl rfl rfl trivial (c25n hr15) (Or.inl rfl) ?_
      refine ex_refl ?_
      exact Le.keep (live := [3, 7]) (names := [0]) (nx := 56) rfl
    refine CWP.seq ?_
    refine CWP.seq ?_
    refine CWP.regionT ⟨[(3, .ptr 0 0), (7, .raw (.pointer none)), (19, .raw (.bool true))], [(0, .box (api_Shape.cs p0))], 72⟩ ?_ ?_
    · exact Le.keep (live := [3, 7, 19]) (names := [0]) (nx := 72) rfl
    refine CWP.cond ?_
    refine CWP.seq ?_
    refine CWP.regionT ⟨[(6, .raw (.slice none 0 0))], [], 80⟩ ?_ ?_
    · exact Le.keep (live := [6]) (names := []) (nx := 80) rfl
    refine CWP.weaken (s' := ⟨[(6, .own 0 2 0 (([] : List (Int × Int)).length))], [(0, .li 2 Arr49.cell default ([] : List (Int × Int)))], 1⟩) (Le.trans (Le.nilOwn (t := 6) (sz := 2) (f := fun j => Arr49.cell (([] : List (Int × Int)).getD j default)) rfl (by decide)) (Le.ren [(0, 80)] rfl ⟨rfl, trivial⟩ ⟨⟨_, rfl, rfl⟩, trivial⟩)) ?_
    refine CWP.ret ?_
    have e := Option.some.inj h
    subst e
    exact ⟨rfl, ⟨⟨_, rfl, rfl⟩, trivial⟩, trivial⟩
  · dsimp only at h
    refine CWP.regionT ⟨[(3, .ptr 0 0), (7, .ptr 40 0)], [(0, .box (api_Shape.cs p0)), (40, .box (hb_log.co r15 41 42)), (41, .li 1 cI 0 r15.at_), (42, .mapI r15.in_)], 56⟩ ?_ ?_
    · refine FC.semT rfl rfl rfl trivial (c25 hr15) (Or.inl rfl) ?_
      refine ex_refl ?_
      exact Le.keep (live := [3, 7]) (names := [0, 40, 41, 42]) (nx := 56) rfl
    refine CWP.seq ?_
    refine CWP.seq ?_
    refine CWP.regionT ⟨[(3, .ptr 0 0), (7, .ptr 40 0), (19, .raw (.bool false))], [(0, .box (api_Shape.cs p0)), (40, .box (hb_log.co r15 41 42)), (41, .li 1 cI 0 r15.at_), (42, .mapI r15.in_)], 72⟩ ?_ ?_
    · exact Le.keep (live := [3, 7, 19]) (names := [0, 40, 41, 42]) (nx := 72) rfl
    refine CWP.cond ?_
    refine CWP.skip ?_
    refine CWP.seq ?_
    obtain ⟨r16, hr16, h⟩ := Option.bind_eq_some_iff.1 h
    obtain ⟨r17, hr17, h⟩ := Option.bind_eq_some_iff.1 h
    refine CWP.regionT ⟨[(3, .ptr 0 0), (7, .ptr 40 0), (8, .own 88 1 0 r17.length)], [(0, .box (api_Shape.cs p0)), (40, .box (hb_log.co r15 41 42)), (41, .li 1 cI 0 r15.at_), (42, .mapI r15.in_), (88, .ml cB false r17)], 104⟩ ?_ ?_
    · refine FC.semT rfl rfl rfl (Nat.le_refl _) (FC.args (FrLes.cons (FrLe.fpt (fun i hi => match i, hi with | 0, _ => FrLe.refl _ | 1, _ => FrLe.refl _ | 2, _ => FrLe.refl _ | 3, _ => FrLe.refl _ | 4, _ => FrLe.refl _ | 5, _ => FrLe.refl _ | _ + 6, h => absurd h (by simp))) (FrLes.nil)) (c27_fp59 hr16)) (Or.inr (Or.inr rfl)) ?_
      refine ex_refl ?_
      refine FC.semT rfl rfl rfl (Nat.le_refl _) (c26 hr17) (Or.inr (Or.inr rfl)) ?_
      refine ex_refl ?_
      exact Le.keep (live := [3, 7, 8]) (names := [0, 40, 41, 42, 88]) (nx := 104) rfl
    refine CWP.seq ?_
    refine CWP.regionT ⟨[(3, .ptr 0 0), (7, .ptr 40 0), (8, .own 88 1 0 r17.length), (9, .raw (.slice none 0 0))], [(0, .box (api_Shape.cs p0)), (40, .box (hb_log.co r15 41 42)), (41, .li 1 cI 0 r15.at_), (42, .mapI r15.in_), (88, .ml cB false r17)], 112⟩ ?_ ?_
    · exact Le.keep (live := [3, 7, 8, 9]) (names := [0, 40, 41, 42, 88]) (nx := 112) rfl
    refine CWP.seq ?_
    refine CWP.seq ?_
    refine CWP.regionT ⟨[(3, .ptr 0 0), (7, .ptr 40 0), (8, .own 88 1 0 r17.length), (9, .raw (.slice none 0 0)), (24, api_Event.sl p0.Events), (25, I (p0.Events.length : Int)), (26, I 0)], [(0, .box (api_Shape.cs p0)), (40, .box (hb_log.co r15 41 42)), (41, .li 1 cI 0 r15.at_), (42, .mapI r15.in_), (88, .ml cB false r17)], 144⟩ ?_ ?_
    · exact Le.keep (live := [3, 7, 8, 9, 24, 25, 26]) (names := [0, 40, 41, 42, 88]) (nx := 144) rfl
    generalize hn109 : l18_4 n n p0 r15 r17 ([] : List (Int × Int)) p0.Events (p0.Events.length : Int) 0 = o109 at h
    rcases o109 with _ | o109
    · cases h
    refine CWP.weaken (s' := ⟨[(3, .ptr 0 0), (7, .ptr 1 0), (8, .own 4 1 0 r17.length), (9, .own 5 2 0 (([] : List (Int × Int)).length)), (24, api_Event.sl p0.Events), (25, I (p0.Events.length : Int)), (26, I 0)], [(0, .box (api_Shape.cs p0)), (1, .box (hb_log.co r15 2 3)), (2, .li 1 cI 0 r15.at_), (3, .mapI r15.in_), (4, .ml cB false r17), (5, .li 2 Arr49.cell default ([] : List (Int × Int)))], 6⟩) (Le.trans (Le.nilOwn (t := 9) (sz := 2) (f := fun j => Arr49.cell (([] : List (Int × Int)).getD j default)) rfl (by decide)) (Le.ren [(0, 0), (1, 40), (2, 41), (3, 42), (4, 88), (5, 144)] rfl ⟨rfl, rfl, rfl, rfl, rfl, rfl, rfl, trivial⟩ ⟨⟨_, rfl, rfl⟩, ⟨_, rfl, rfl⟩, ⟨_, rfl, rfl⟩, ⟨_, rfl, rfl⟩, ⟨_, rfl, rfl⟩, ⟨_, rfl, rfl⟩, trivial⟩)) ?_
    refine t18_4 hn109 ?_
    · intro b0_110 e
      subst e
      dsimp only at h
      refine CWP.seq ?_
      refine CWP.regionT ⟨[(6, .own 0 2 0 b0_110.length)], [(0, .li 2 Arr49.cell default b0_110)], 17⟩ ?_ ?_
      · exact Le.keep (live := [6]) (names := [0]) (nx := 17) rfl
      refine CWP.weaken (s' := ⟨[(6, .own 0 2 0 b0_110.length)], [(0, .li 2 Arr49.cell default b0_110)], 1⟩) (Le.keep (live := [6]) (names := [0]) (nx := 1) rfl) ?_
      refine CWP.ret ?_
      have e := Option.some.inj h
      subst e
      exact ⟨rfl, ⟨⟨_, rfl, rfl⟩, trivial⟩, trivial⟩
theorem c18 {n : Nat} {p0 : api_Shape} {p1 : List api_Decl} {p2 : List api_Entry} {r : List (Int × Int)} (h : s18 n p0 p1 p2 = some r) : FC Try.prog 18 [.agg (api_Shape.cs p0), api_Decl.sl p1, api_Entry.sl p2] (.own 0 2 0 r.length) [(0, .li 2 Arr49.cell default r)] true := FC.new rfl rfl (RC.ofE (st := []) (r := .own 0 2 0 r.length) (st' := [(0, .li 2 Arr49.cell default r)]) (pins := []) 0 [(0, 0)] (fn := Try.f18) (cc := code18) (res := .one 6) (by kernel_rfl) (by kernel_rfl) tr18 (by kernel_rfl) (Nat.le_of_ble_eq_true rfl) rfl rfl (fun β => wf18 h)) rfl ⟨(by intro j c hj hc; match c, hc with | 0, _ => rfl | 1, _ => rfl | _ + 2, h => exact absurd h (by omega)), trivial⟩
def code30 : CCode :=
 (.seq
  (.region [⟨(some 5), (.mv (.const (.bool false))), none⟩] none)
  (.seq
  (.region [⟨(some 6), (.load false 1 (.tmp 1)), none⟩,
   ⟨(some 7), (.mv (.tmp 0)), none⟩,
   ⟨(some 8), (.idx 1 (.tmp 6) (.tmp 7)), none⟩,
   ⟨(some 9), (.load false 1 (.tmp 8)), none⟩,
   ⟨(some 10), (.load false 1 (.tmp 2)), none⟩,
   ⟨(some 11), (.idx 1 (.tmp 9) (.tmp 10)), none⟩,
   ⟨(some 12), (.load false 1 (.tmp 11)), none⟩,
   ⟨(some 13), (.mv (.tmp 12)), none⟩,
   ⟨(some 14), (.load false 1 (.tmp 3)), (some (13, true))⟩,
   ⟨(some 15), (.bin 0 .lss (.tmp 14) (.const (.int .i64 0))), (some (13, true))⟩,
   ⟨(some 16), (.mv (.tmp 15)), (some (13, true))⟩,
   ⟨(some 17), (.load false 1 (.tmp 1)), (some (16, false))⟩,
   ⟨(some 18), (.load false 1 (.tmp 3)), (some (16, false))⟩,
   ⟨(some 19), (.idx 1 (.tmp 17) (.tmp 18)), (some (16, false))⟩,
   ⟨(some 20), (.load false 1 (.tmp 19)), (some (16, false))⟩,
   ⟨(some 21), (.mv (.tmp 0)), (some (16, false))⟩,
   ⟨(some 22), (.idx 1 (.tmp 20) (.tmp 21)), (some (16, false))⟩,
   ⟨(some 23), (.load false 1 (.tmp 22)), (some (16, false))⟩,
   ⟨(some 24), (.pick (.tmp 16) (.const (.bool true)) (.tmp 23)), (some (13, true))⟩,
   ⟨(some 25), (.pick (.tmp 13) (.tmp 24) (.const (.bool false))), none⟩,
   ⟨(some 5), (.mv (.tmp 25)), none⟩] (some (.take 0 (.take 1 (.take 2 (.take 3 (.take 4 (.take 5 (.take 6 (.take 7 (.take 8 (.take 9 (.take 10 (.take 11 (.take 12 (.take 13 (.take 14 (.take 15 (.take 16 (.take 17 (.take 18 (.take 19 (.take 20 .done)))))))))))))))))))))))
  .ret))
theorem tr30 : (Try.f30.body).bind (trCode Try.prog Try.f30.ntmps) = some code30 := by kernel_rfl
def s30_dfp36fp3fp3 (n : Nat) (p0 : Int) (p1 : List (List Bool)) (p2 : Int) (p3 : Int) : Option Bool :=
  if 0 ≤ p0 ∧ p0 < (p1.length : Int) then
    if 0 ≤ p2 ∧ p2 < ((p1.getD p0.toNat []).length : Int) then
      if ((p1.getD p0.toNat []).getD p2.toNat false) = true → (decide (p3 < 0)) = false → 0 ≤ p3 ∧ p3 < (p1.length : Int) then
        if ((p1.getD p0.toNat []).getD p2.toNat false) = true → (decide (p3 < 0)) = false → 0 ≤ p0 ∧ p0 < ((p1.getD p3.toNat []).length : Int) then
          some (((p1.getD p0.toNat []).getD p2.toNat false) && ((decide (p3 < 0)) || ((p1.getD p3.toNat []).getD p0.toNat false)))
        else none
      else none
    else none
  else none
def E30_dfp36fp3fp3 (r : Bool) (s : AS) : Prop := resOf s (.one 5) = some (.tst r)
theorem wf30_dfp36fp3fp3 {n : Nat} {p0 : Int} {p1 : List (List Bool)} {p2 : Int} {p3 : Int} {r : Bool} (h : s30_dfp36fp3fp3 n p0 p1 p2 p3 = some r) : CWP Try.prog Try.f30.ntmps code30 (AtE (E30_dfp36fp3fp3 r)) ⟨[(0, I p0), (1, .fpt 1 ((fun (x : List (List Bool)) _ => AV.sl 1 (fun (x : List Bool) _ => AV.sl 1 cB false x) [] x) p1)), (2, .fpt 1 (cI p2)), (3, .fpt 1 (cI p3))], [], 0⟩ := by
  unfold s30_dfp36fp3fp3 at h
  refine CWP.seq ?_
  refine CWP.regionT ⟨[(0, I p0), (1, .fpt 1 ((fun (x : List (List Bool)) _ => AV.sl 1 (fun (x : List Bool) _ => AV.sl 1 cB false x) [] x) p1)), (2, .fpt 1 (cI p2)), (3, .fpt 1 (cI p3))], [], 8⟩ ?_ ?_
  · exact Le.keep (live := [0, 1, 2, 3]) (names := []) (nx := 8) rfl
  refine CWP.seq ?_
  obtain ⟨hs168, h⟩ := ite_some h
  obtain ⟨hs169, h⟩ := ite_some h
  obtain ⟨hs170, h⟩ := ite_some h
  obtain ⟨hs171, h⟩ := ite_some h
  refine CWP.drawT [] [] ⟨[(5, .tst (((p1.getD p0.toNat []).getD p2.toNat false) && ((decide (p3 < 0)) || ((p1.getD p3.toNat []).getD p0.toNat false))))], [], 176⟩ ?_ ?_
  · refine And.intro rfl ?_
    iterate 2 refine And.intro rfl ?_
    refine And.intro hs168 ?_
    iterate 3 refine And.intro rfl ?_
    refine And.intro hs169 ?_
    iterate 2 refine And.intro rfl ?_
    refine And.intro (fun hg172 => ?_) (fun hg172 => ?_)
    · have hg172 : ((p1.getD p0.toNat []).getD p2.toNat false) = true := hg172
      iterate 3 refine And.intro rfl ?_
      refine And.intro (fun hg173 => ?_) (fun hg173 => ?_)
      · have hg173 : (decide (p3 < 0)) = false := hg173
        iterate 3 refine And.intro rfl ?_
        refine And.intro (hs170 (by simp only [hg172, hg173, sB, reduceIte]) (by simp only [hg172, hg173, sB, reduceIte])) ?_
        iterate 3 refine And.intro rfl ?_
        refine And.intro (hs171 (by simp only [hg172, hg173, sB, reduceIte]) (by simp only [hg172, hg173, sB, reduceIte])) ?_
        iterate 4 refine And.intro rfl ?_
        exact Le.trans (Le.rep (t := 5) rfl (RepLe.fr rfl (FrLe.tst2 (by simp only [hg172, hg173, sB, reduceIte])))) (Le.keep (live := [5]) (names := []) (nx := 176) rfl)
      · have hg173 : (decide (p3 < 0)) = true := hg173
        iterate 3 refine And.intro rfl ?_
        exact Le.trans (Le.rep (t := 5) rfl (RepLe.fr rfl (FrLe.tst (by simp only [hg172, hg173, sB, reduceIte])))) (Le.keep (live := [5]) (names := []) (nx := 176) rfl)
    · have hg172 : ((p1.getD p0.toNat []).getD p2.toNat false) = false := hg172
      iterate 2 refine And.intro rfl ?_
      exact Le.trans (Le.rep (t := 5) rfl (RepLe.fr rfl (FrLe.tst (by simp only [hg172, sB, reduceIte])))) (Le.keep (live := [5]) (names := []) (nx := 176) rfl)
  refine CWP.ret ?_
  have e := Option.some.inj h
  subst e
  exact rfl
theorem c30_dfp36fp3fp3 {n : Nat} {p0 : Int} {p1 : List (List Bool)} {p2 : Int} {p3 : Int} {r : Bool} (h : s30_dfp36fp3fp3 n p0 p1 p2 p3 = some r) : FC Try.prog 30 [I p0, .fpt 1 ((fun (x : List (List Bool)) _ => AV.sl 1 (fun (x : List Bool) _ => AV.sl 1 cB false x) [] x) p1), .fpt 1 (cI p2), .fpt 1 (cI p3)] (.tst r) [] false := FC.pureE (fn := Try.f30) (cc := code30) (res := .one 5) (by kernel_rfl) (by kernel_rfl) tr30 (by kernel_rfl) (Nat.le_of_ble_eq_true rfl) rfl (wf30_dfp36fp3fp3 h)
def code45_1 : CCode :=
 (.block 0
  (.loop
  (.seq
   (.region [⟨(some 9), (.bin 0 .lss (.tmp 8) (.tmp 7)), none⟩] none)
   (.seq
   (.cond (.tmp 9)
    .skip
    (.exit 0))
   (.seq
    (.block 1
    (.seq
     (.region [⟨(some 10), (.mv (.tmp 8)), none⟩,
      ⟨(some 5), (.mv (.tmp 10)), none⟩] none)
     (.seq
     (.region [⟨(some 11), (.mv (.tmp 1)), none⟩,
      ⟨(some 12), (.mv (.tmp 0)), none⟩,
      ⟨(some 13), (.mv (.tmp 5)), none⟩,
      ⟨(some 14), (.idx 1 (.tmp 12) (.tmp 13)), none⟩,
      ⟨(some 15), (.load false 1 (.tmp 14)), none⟩,
      ⟨(some 16), (.call (.tmp 11) [(.tmp 15)]), none⟩] none)
     (.cond (.tmp 16)
      (.seq
      (.region [⟨(some 17), (.mv (.tmp 5)), none⟩,
       ⟨(some 4), (.mv (.tmp 17)), none⟩] none)
      .ret)
      .skip))))
    (.region [⟨(some 18), (.bin 0 .add (.tmp 8) (.const (.int .i64 1))), none⟩,
     ⟨(some 8), (.mv (.tmp 18)), none⟩] none))))))
def code45 : CCode :=
 (.seq
  (.region [⟨(some 4), (.mv (.const (.int .i64 0))), none⟩] none)
  (.seq
  (.seq
   (.region [⟨(some 6), (.mv (.tmp 0)), none⟩,
    ⟨(some 7), (.len 1 (.tmp 6)), none⟩,
    ⟨(some 8), (.mv (.const (.int .i64 0))), none⟩] none)
   code45_1)
  (.seq
   (.region [⟨(some 4), (.mv (.const (.int .i64 (-1)))), none⟩] none)
   .ret)))
theorem tr45 : (Try.f45.body).bind (trCode Try.prog Try.f45.ntmps) = some code45 := by kernel_rfl
inductive O45_dfn30fp36fp3fp3__1 where
  | ok
  | ret (r : Int)
def l45_dfn30fp36fp3fp3__1 (n : Nat) : Nat → (List Int) → (List (List Bool)) → Int → Int → Int → Int → Option O45_dfn30fp36fp3fp3__1
  | 0, _, _, _, _, _, _ => none
  | m + 1, v0, v1_0, v1_1, v1_2, v7, v8 =>
    if decide (v8 < v7) then
      if 0 ≤ v8 ∧ v8 < (v0.length : Int) then
        (s30_dfp36fp3fp3 n (v0.getD v8.toNat 0) v1_0 v1_1 v1_2).bind fun r169 =>
        if r169 then
          some (.ret v8)
        else
          l45_dfn30fp36fp3fp3__1 n m v0 v1_0 v1_1 v1_2 v7 (w64 (v8 + 1))
      else none
    else
      some (.ok)
def s45_dfn30fp36fp3fp3 (n : Nat) (p0 : List Int) (p1_0 : List (List Bool)) (p1_1 : Int) (p1_2 : Int) : Option Int :=
  (match l45_dfn30fp36fp3fp3__1 n n p0 p1_0 p1_1 p1_2 (p0.length : Int) 0 with
  | none => none
  | some (.ok) =>
    some (-1)
  | some (.ret r) =>
    some r)
def E45_dfn30fp36fp3fp3 (r : Int) (s : AS) : Prop := resOf s (.one 4) = some (I r)
theorem t45_dfn30fp36fp3fp3__1 {n fuel : Nat} {v0 : List Int} {v1_0 : List (List Bool)} {v1_1 : Int} {v1_2 : Int} {v7 : Int} {v8 : Int} {out : O45_dfn30fp36fp3fp3__1} (h : l45_dfn30fp36fp3fp3__1 n fuel v0 v1_0 v1_1 v1_2 v7 v8 = some out) {Q : Ex → AS → Prop} (hok : out = .ok → Q .normal ⟨[], [], 0⟩) (hret : ∀ r, out = .ret r → ∀ s, E45_dfn30fp36fp3fp3 r s → Q .ret s) : CWP Try.prog Try.f45.ntmps code45_1 Q ⟨[(0, sI v0), (1, .fn (.func 30) [] [.fpt 1 ((fun (x : List (List Bool)) _ => AV.sl 1 (fun (x : List Bool) _ => AV.sl 1 cB false x) [] x) v1_0), .fpt 1 (cI v1_1), .fpt 1 (cI v1_2)]), (7, I v7), (8, I v8)], [], 0⟩ := by
  refine CWP.block ?_
  refine CWP.loop (fun k s => ∃ v0 : List Int, ∃ v1_0 : List (List Bool), ∃ v1_1 : Int, ∃ v1_2 : Int, ∃ v7 : Int, ∃ v8 : Int, s = ⟨[(0, sI v0), (1, .fn (.func 30) [] [.fpt 1 ((fun (x : List (List Bool)) _ => AV.sl 1 (fun (x : List Bool) _ => AV.sl 1 cB false x) [] x) v1_0), .fpt 1 (cI v1_1), .fpt 1 (cI v1_2)]), (7, I v7), (8, I v8)], [], 0⟩ ∧ l45_dfn30fp36fp3fp3__1 n k v0 v1_0 v1_1 v1_2 v7 v8 = some out) fuel ⟨v0, v1_0, v1_1, v1_2, v7, v8, rfl, h⟩ ?_
  clear h
  rintro k s ⟨v0, v1_0, v1_1, v1_2, v7, v8, rfl, h⟩
  cases k with
  | zero => cases h
  | succ m =>
    rw [l45_dfn30fp36fp3fp3__1] at h
    refine CWP.seq ?_
    refine CWP.regionT ⟨[(0, sI v0), (1, .fn (.func 30) [] [.fpt 1 ((fun (x : List (List Bool)) _ => AV.sl 1 (fun (x : List Bool) _ => AV.sl 1 cB false x) [] x) v1_0), .fpt 1 (cI v1_1), .fpt 1 (cI v1_2)]), (7, I v7), (8, I v8), (9, .tst (decide (v8 < v7)))], [], 8⟩ ?_ ?_
    · exact Le.keep (live := [0, 1, 7, 8, 9]) (names := []) (nx := 8) rfl
    refine CWP.seq ?_
    refine CWP.cond (And.intro (fun hc => ?_) (fun hc => ?_))
    · have h := ite_t h hc
      refine CWP.skip ?_
      refine CWP.seq ?_
      refine CWP.block ?_
      refine CWP.seq ?_
      refine CWP.regionT ⟨[(0, sI v0), (1, .fn (.func 30) [] [.fpt 1 ((fun (x : List (List Bool)) _ => AV.sl 1 (fun (x : List Bool) _ => AV.sl 1 cB false x) [] x) v1_0), .fpt 1 (cI v1_1), .fpt 1 (cI v1_2)]), (5, I v8), (7, I v7), (8, I v8)], [], 24⟩ ?_ ?_
      · exact Le.keep (live := [0, 1, 5, 7, 8]) (names := []) (nx := 24) rfl
      refine CWP.seq ?_
      obtain ⟨hs168, h⟩ := ite_some h
      obtain ⟨r169, hr169, h⟩ := Option.bind_eq_some_iff.1 h
      refine CWP.regionT ⟨[(0, sI v0), (1, .fn (.func 30) [] [.fpt 1 ((fun (x : List (List Bool)) _ => AV.sl 1 (fun (x : List Bool) _ => AV.sl 1 cB false x) [] x) v1_0), .fpt 1 (cI v1_1), .fpt 1 (cI v1_2)]), (5, I v8), (7, I v7), (8, I v8), (16, .tst r169)], [], 72⟩ ?_ ?_
      · refine And.intro hs168 ?_
        refine FC.semT rfl rfl rfl trivial (c30_dfp36fp3fp3 hr169) (Or.inl rfl) ?_
        refine ex_refl ?_
        exact Le.keep (live := [0, 1, 5, 7, 8, 16]) (names := []) (nx := 72) rfl
      refine CWP.cond (And.intro (fun hc => ?_) (fun hc => ?_))
      · have h := ite_t h hc
        refine CWP.seq ?_
        refine CWP.regionT ⟨[(4, I v8)], [], 88⟩ ?_ ?_
        · exact Le.keep (live := [4]) (names := []) (nx := 88) rfl
        refine CWP.ret ?_
        exact hret _ (Option.some.inj h).symm _ rfl
      · have h := ite_f h hc
        refine CWP.skip ?_
        refine CWP.regionT ⟨[(0, sI v0), (1, .fn (.func 30) [] [.fpt 1 ((fun (x : List (List Bool)) _ => AV.sl 1 (fun (x : List Bool) _ => AV.sl 1 cB false x) [] x) v1_0), .fpt 1 (cI v1_1), .fpt 1 (cI v1_2)]), (7, I v7), (8, I (w64 (v8 + 1)))], [], 0⟩ ?_ ?_
        · exact Le.trans (Le.keep (live := [0, 1, 7, 8]) (names := []) (nx := 88) rfl) (Le.keep (live := [0, 1, 7, 8]) (names := []) (nx := 0) rfl)
        exact ⟨m, Nat.lt_succ_self m, _, _, _, _, _, _, rfl, h⟩
    · have h := ite_f h hc
      refine CWP.exitL (Le.keep (live := []) (names := []) (nx := 0) rfl) (s' := ⟨[], [], 0⟩) ?_
      exact hok (Option.some.inj h).symm
theorem wf45_dfn30fp36fp3fp3 {n : Nat} {p0 : List Int} {p1_0 : List (List Bool)} {p1_1 : Int} {p1_2 : Int} {r : Int} (h : s45_dfn30fp36fp3fp3 n p0 p1_0 p1_1 p1_2 = some r) : CWP Try.prog Try.f45.ntmps code45 (AtE (E45_dfn30fp36fp3fp3 r)) ⟨[(0, sI p0), (1, .fn (.func 30) [] [.fpt 1 ((fun (x : List (List Bool)) _ => AV.sl 1 (fun (x : List Bool) _ => AV.sl 1 cB false x) [] x) p1_0), .fpt 1 (cI p1_1), .fpt 1 (cI p1_2)])], [], 0⟩ := by
  unfold s45_dfn30fp36fp3fp3 at h
  refine CWP.seq ?_
  refine CWP.regionT ⟨[(0, sI p0), (1, .fn (.func 30) [] [.fpt 1 ((fun (x : List (List Bool)) _ => AV.sl 1 (fun (x : List Bool) _ => AV.sl 1 cB false x) [] x) p1_0), .fpt 1 (cI p1_1), .fpt 1 (cI p1_2)])], [], 8⟩ ?_ ?_
  · exact Le.keep (live := [0, 1]) (names := []) (nx := 8) rfl
  refine CWP.seq ?_
  refine CWP.seq ?_
  refine CWP.regionT ⟨[(0, sI p0), (1, .fn (.func 30) [] [.fpt 1 ((fun (x : List (List Bool)) _ => AV.sl 1 (fun (x : List Bool) _ => AV.sl 1 cB false x) [] x) p1_0), .fpt 1 (cI p1_1), .fpt 1 (cI p1_2)]), (7, I (p0.length : Int)), (8, I 0)], [], 32⟩ ?_ ?_
  · exact Le.keep (live := [0, 1, 7, 8]) (names := []) (nx := 32) rfl
  generalize hn170 : l45_dfn30fp36fp3fp3__1 n n p0 p1_0 p1_1 p1_2 (p0.length : Int) 0 = o170 at h
  rcases o170 with _ | o170
  · cases h
  refine CWP.weaken (s' := ⟨[(0, sI p0), (1, .fn (.func 30) [] [.fpt 1 ((fun (x : List (List Bool)) _ => AV.sl 1 (fun (x : List Bool) _ => AV.sl 1 cB false x) [] x) p1_0), .fpt 1 (cI p1_1), .fpt 1 (cI p1_2)]), (7, I (p0.length : Int)), (8, I 0)], [], 0⟩) (Le.keep (live := [0, 1, 7, 8]) (names := []) (nx := 0) rfl) ?_
  refine t45_dfn30fp36fp3fp3__1 hn170 ?_ ?_
  · intro e
    subst e
    dsimp only at h
    refine CWP.seq ?_
    refine CWP.regionT ⟨[(4, I (-1))], [], 8⟩ ?_ ?_
    · exact Le.keep (live := [4]) (names := []) (nx := 8) rfl
    refine CWP.ret ?_
    have e := Option.some.inj h
    subst e
    exact rfl
  · intro r e s hs
    subst e
    dsimp only at h
    have e := Option.some.inj h
    subst e
    exact hs
theorem c45_dfn30fp36fp3fp3 {n : Nat} {p0 : List Int} {p1_0 : List (List Bool)} {p1_1 : Int} {p1_2 : Int} {r : Int} (h : s45_dfn30fp36fp3fp3 n p0 p1_0 p1_1 p1_2 = some r) : FC Try.prog 45 [sI p0, .fn (.func 30) [] [.fpt 1 ((fun (x : List (List Bool)) _ => AV.sl 1 (fun (x : List Bool) _ => AV.sl 1 cB false x) [] x) p1_0), .fpt 1 (cI p1_1), .fpt 1 (cI p1_2)]] (I r) [] false := FC.pureE (fn := Try.f45) (cc := code45) (res := .one 4) (by kernel_rfl) (by kernel_rfl) tr45 (by kernel_rfl) (Nat.le_of_ble_eq_true rfl) rfl (wf45_dfn30fp36fp3fp3 h)
def code29 : CCode :=
 (.seq
  (.region [⟨(some 4), (.mv (.const (.bool false))), none⟩] none)
  (.seq
  (.region [⟨(some 5), (.mv (.tmp 0)), none⟩,
   ⟨(some 6), (.mv (.tmp 1)), none⟩,
   ⟨(some 7), (.call (.func 45) [(.tmp 5), (.tmp 6)]), none⟩,
   ⟨(some 8), (.bin 0 .geq (.tmp 7) (.const (.int .i64 0))), none⟩,
   ⟨(some 4), (.mv (.tmp 8)), none⟩] none)
  .ret))
theorem tr29 : (Try.f29.body).bind (trCode Try.prog Try.f29.ntmps) = some code29 := by kernel_rfl
def s29_dfn30fp36fp3fp3 (n : Nat) (p0 : List Int) (p1_0 : List (List Bool)) (p1_1 : Int) (p1_2 : Int) : Option Bool :=
  (s45_dfn30fp36fp3fp3 n p0 p1_0 p1_1 p1_2).bind fun r165 =>
  some (decide (r165 ≥ 0))
def E29_dfn30fp36fp3fp3 (r : Bool) (s : AS) : Prop := resOf s (.one 4) = some (.tst r)
theorem wf29_dfn30fp36fp3fp3 {n : Nat} {p0 : List Int} {p1_0 : List (List Bool)} {p1_1 : Int} {p1_2 : Int} {r : Bool} (h : s29_dfn30fp36fp3fp3 n p0 p1_0 p1_1 p1_2 = some r) : CWP Try.prog Try.f29.ntmps code29 (AtE (E29_dfn30fp36fp3fp3 r)) ⟨[(0, sI p0), (1, .fn (.func 30) [] [.fpt 1 ((fun (x : List (List Bool)) _ => AV.sl 1 (fun (x : List Bool) _ => AV.sl 1 cB false x) [] x) p1_0), .fpt 1 (cI p1_1), .fpt 1 (cI p1_2)])], [], 0⟩ := by
  unfold s29_dfn30fp36fp3fp3 at h
  refine CWP.seq ?_
  refine CWP.regionT ⟨[(0, sI p0), (1, .fn (.func 30) [] [.fpt 1 ((fun (x : List (List Bool)) _ => AV.sl 1 (fun (x : List Bool) _ => AV.sl 1 cB false x) [] x) p1_0), .fpt 1 (cI p1_1), .fpt 1 (cI p1_2)])], [], 8⟩ ?_ ?_
  · exact Le.keep (live := [0, 1]) (names := []) (nx := 8) rfl
  refine CWP.seq ?_
  obtain ⟨r165, hr165, h⟩ := Option.bind_eq_some_iff.1 h
  refine CWP.regionT ⟨[(4, .tst (decide (r165 ≥ 0)))], [], 48⟩ ?_ ?_
  · refine FC.semT rfl rfl rfl trivial (FC.args (FrLes.cons (FrLe.refl _) (FrLes.cons (FrLe.fn FrLes.nil (FrLes.cons (FrLe.refl _) (FrLes.cons (FrLe.refl _) (FrLes.cons (FrLe.refl _) (FrLes.nil))))) (FrLes.nil))) (c45_dfn30fp36fp3fp3 hr165)) (Or.inl rfl) ?_
    refine ex_refl ?_
    exact Le.keep (live := [4]) (names := []) (nx := 48) rfl
  refine CWP.ret ?_
  have e := Option.some.inj h
  subst e
  exact rfl
theorem c29_dfn30fp36fp3fp3 {n : Nat} {p0 : List Int} {p1_0 : List (List Bool)} {p1_1 : Int} {p1_2 : Int} {r : Bool} (h : s29_dfn30fp36fp3fp3 n p0 p1_0 p1_1 p1_2 = some r) : FC Try.prog 29 [sI p0, .fn (.func 30) [] [.fpt 1 ((fun (x : List (List Bool)) _ => AV.sl 1 (fun (x : List Bool) _ => AV.sl 1 cB false x) [] x) p1_0), .fpt 1 (cI p1_1), .fpt 1 (cI p1_2)]] (.tst r) [] false := FC.pureE (fn := Try.f29) (cc := code29) (res := .one 4) (by kernel_rfl) (by kernel_rfl) tr29 (by kernel_rfl) (Nat.le_of_ble_eq_true rfl) rfl (wf29_dfn30fp36fp3fp3 h)
def code28 : CCode :=
 (.seq
  (.region [⟨(some 4), (.box 1 (.tmp 0)), none⟩,
   ⟨(some 5), (.mv (.const (.bool false))), none⟩] none)
  (.seq
  (.region [⟨(some 6), (.load false 1 (.tmp 1)), none⟩,
   ⟨(some 7), (.mkfn (.func 30) [] [(.tmp 2), (.tmp 3), (.tmp 4)]), none⟩,
   ⟨(some 8), (.call (.func 29) [(.tmp 6), (.tmp 7)]), none⟩,
   ⟨(some 5), (.mv (.tmp 8)), none⟩] none)
  .ret))
theorem tr28 : (Try.f28.body).bind (trCode Try.prog Try.f28.ntmps) = some code28 := by kernel_rfl
def s28_dfp23fp36fp3 (n : Nat) (p0 : Int) (p1 : List Int) (p2 : List (List Bool)) (p3 : Int) : Option Bool :=
  (s29_dfn30fp36fp3fp3 n p1 p2 p3 p0).bind fun r164 =>
  some r164
def E28_dfp23fp36fp3 (r : Bool) (s : AS) : Prop := resOf s (.one 5) = some (.tst r)
theorem wf28_dfp23fp36fp3 {n : Nat} {p0 : Int} {p1 : List Int} {p2 : List (List Bool)} {p3 : Int} {r : Bool} (h : s28_dfp23fp36fp3 n p0 p1 p2 p3 = some r) : CWP Try.prog Try.f28.ntmps code28 (AtE (E28_dfp23fp36fp3 r)) ⟨[(0, I p0), (1, .fpt 1 ((fun (x : List Int) _ => sI x) p1)), (2, .fpt 1 ((fun (x : List (List Bool)) _ => AV.sl 1 (fun (x : List Bool) _ => AV.sl 1 cB false x) [] x) p2)), (3, .fpt 1 (cI p3))], [], 0⟩ := by
  unfold s28_dfp23fp36fp3 at h
  refine CWP.seq ?_
  refine CWP.regionT ⟨[(1, .fpt 1 ((fun (x : List Int) _ => sI x) p1)), (2, .fpt 1 ((fun (x : List (List Bool)) _ => AV.sl 1 (fun (x : List Bool) _ => AV.sl 1 cB false x) [] x) p2)), (3, .fpt 1 (cI p3)), (4, .ptr 0 0)], [(0, .box [I p0])], 16⟩ ?_ ?_
  · exact Le.keep (live := [1, 2, 3, 4]) (names := [0]) (nx := 16) rfl
  refine CWP.seq ?_
  obtain ⟨r164, hr164, h⟩ := Option.bind_eq_some_iff.1 h
  refine CWP.regionT ⟨[(5, .tst r164)], [], 48⟩ ?_ ?_
  · refine FC.semT rfl rfl rfl trivial (FC.args (FrLes.cons (FrLe.refl _) (FrLes.cons (FrLe.fn FrLes.nil (FrLes.cons (FrLe.refl _) (FrLes.cons (FrLe.refl _) (FrLes.cons (FrLe.fpt (fun i hi => match i, hi with | 0, _ => FrLe.refl _ | _ + 1, h => absurd h (by simp))) (FrLes.nil))))) (FrLes.nil))) (c29_dfn30fp36fp3fp3 hr164)) (Or.inr (Or.inl rfl)) ?_
    refine ex_refl ?_
    exact Le.keep (live := [5]) (names := []) (nx := 48) rfl
  refine CWP.ret ?_
  have e := Option.some.inj h
  subst e
  exact rfl
theorem c28_dfp23fp36fp3 {n : Nat} {p0 : Int} {p1 : List Int} {p2 : List (List Bool)} {p3 : Int} {r : Bool} (h : s28_dfp23fp36fp3 n p0 p1 p2 p3 = some r) : FC Try.prog 28 [I p0, .fpt 1 ((fun (x : List Int) _ => sI x) p1), .fpt 1 ((fun (x : List (List Bool)) _ => AV.sl 1 (fun (x : List Bool) _ => AV.sl 1 cB false x) [] x) p2), .fpt 1 (cI p3)] (.tst r) [] false := FC.pureE (fn := Try.f28) (cc := code28) (res := .one 5) (by kernel_rfl) (by kernel_rfl) tr28 (by kernel_rfl) (Nat.le_of_ble_eq_true rfl) rfl (wf28_dfp23fp36fp3 h)
def code11_1 : CCode :=
 (.block 1
  (.seq
  (.region [⟨(some 62), (.mv (.tmp 60)), none⟩,
   ⟨(some 63), (.idx 4 (.tmp 58) (.tmp 60)), none⟩,
   ⟨(some 64), (.load true 4 (.tmp 63)), none⟩,
   ⟨(some 13), (.alloc [(.int .i64 0), (.int .i64 0), (.int .i64 0), (.int .i64 0)]), none⟩,
   ⟨(some 12), (.mv (.tmp 62)), none⟩,
   ⟨none, (.store 4 (.tmp 13) (.tmp 64)), none⟩] none)
  (.seq
   (.region [⟨(some 65), (.fad 2 (.tmp 13)), none⟩,
    ⟨(some 66), (.load false 1 (.tmp 65)), none⟩,
    ⟨(some 67), (.bin 0 .eql (.tmp 66) (.const (.int .i64 2))), none⟩,
    ⟨(some 68), (.mv (.tmp 67)), none⟩,
    ⟨(some 69), (.fad 3 (.tmp 13)), (some (68, true))⟩,
    ⟨(some 70), (.load false 1 (.tmp 69)), (some (68, true))⟩,
    ⟨(some 71), (.fad 0 (.tmp 4)), (some (68, true))⟩,
    ⟨(some 72), (.load false 1 (.tmp 71)), (some (68, true))⟩,
    ⟨(some 73), (.load false 1 (.tmp 7)), (some (68, true))⟩,
    ⟨(some 74), (.idx 4 (.tmp 72) (.tmp 73)), (some (68, true))⟩,
    ⟨(some 75), (.fad 3 (.tmp 74)), (some (68, true))⟩,
    ⟨(some 76), (.load false 1 (.tmp 75)), (some (68, true))⟩,
    ⟨(some 77), (.bin 0 .eql (.tmp 70) (.tmp 76)), (some (68, true))⟩,
    ⟨(some 78), (.pick (.tmp 68) (.tmp 77) (.const (.bool false))), none⟩,
    ⟨(some 79), (.mv (.tmp 78)), none⟩,
    ⟨(some 80), (.mv (.tmp 9)), (some (79, true))⟩,
    ⟨(some 81), (.nilck (.tmp 80)), (some (79, true))⟩,
    ⟨(some 82), (.fad 4 (.tmp 81)), (some (79, true))⟩,
    ⟨(some 83), (.load false 1 (.tmp 82)), (some (79, true))⟩,
    ⟨(some 84), (.mv (.tmp 12)), (some (79, true))⟩,
    ⟨(some 85), (.idx 1 (.tmp 83) (.tmp 84)), (some (79, true))⟩,
    ⟨(some 86), (.load false 1 (.tmp 85)), (some (79, true))⟩,
    ⟨(some 87), (.bin 0 .gtr (.tmp 86) (.const (.int .i64 0))), (some (79, true))⟩,
    ⟨(some 88), (.pick (.tmp 79) (.tmp 87) (.const (.bool false))), none⟩,
    ⟨(some 89), (.mv (.tmp 88)), none⟩,
    ⟨(some 90), (.mv (.tmp 9)), (some (89, true))⟩,
    ⟨(some 91), (.nilck (.tmp 90)), (some (89, true))⟩,
    ⟨(some 92), (.fad 4 (.tmp 91)), (some (89, true))⟩,
    ⟨(some 93), (.load false 1 (.tmp 92)), (some (89, true))⟩,
    ⟨(some 94), (.mv (.tmp 12)), (some (89, true))⟩,
    ⟨(some 95), (.idx 1 (.tmp 93) (.tmp 94)), (some (89, true))⟩,
    ⟨(some 96), (.load false 1 (.tmp 95)), (some (89, true))⟩,
    ⟨(some 97), (.mv (.tmp 9)), (some (89, true))⟩,
    ⟨(some 98), (.nilck (.tmp 97)), (some (89, true))⟩,
    ⟨(some 99), (.fad 4 (.tmp 98)), (some (89, true))⟩,
    ⟨(some 100), (.load false 1 (.tmp 99)), (some (89, true))⟩,
    ⟨(some 101), (.load false 1 (.tmp 7)), (some (89, true))⟩,
    ⟨(some 102), (.idx 1 (.tmp 100) (.tmp 101)), (some (89, true))⟩,
    ⟨(some 103), (.load false 1 (.tmp 102)), (some (89, true))⟩,
    ⟨(some 104), (.bin 0 .lss (.tmp 96) (.tmp 103)), (some (89, true))⟩,
    ⟨(some 105), (.pick (.tmp 89) (.tmp 104) (.const (.bool false))), none⟩] (some (.take 0 (.take 1 (.take 2 (.take 3 (.take 4 (.take 5 (.take 6 (.take 7 (.take 8 (.take 9 (.take 10 (.take 11 (.take 12 (.take 13 (.take 14 (.take 15 (.take 16 (.take 17 (.take 18 (.take 19 (.take 20 (.take 21 (.take 22 (.take 23 (.take 24 (.take 25 (.take 26 (.take 27 (.take 28 (.take 29 (.take 30 (.take 31 (.take 32 (.take 33 (.take 34 (.take 35 (.take 36 (.take 37 (.take 38 (.take 39 (.take 40 .done)))))))))))))))))))))))))))))))))))))))))))
   (.cond (.tmp 105)
   (.region [⟨(some 106), (.load false 1 (.tmp 11)), none⟩,
    ⟨(some 107), (.mv (.tmp 12)), none⟩,
    ⟨(some 108), (.lit 0 1 1 [(0, (.tmp 107))]), none⟩,
    ⟨(some 109), (.app 1 8 (.tmp 106) (.tmp 108)), none⟩,
    ⟨none, (.store 1 (.tmp 11) (.tmp 109)), none⟩] none)
   .skip))))
def code11_2 : CCode :=
 (.block 0
  (.loop
  (.seq
   (.region [⟨(some 61), (.bin 0 .lss (.tmp 60) (.tmp 59)), none⟩] none)
   (.seq
   (.cond (.tmp 61)
    .skip
    (.exit 0))
   (.seq
    code11_1
    (.region [⟨(some 110), (.bin 0 .add (.tmp 60) (.const (.int .i64 1))), none⟩,
     ⟨(some 60), (.mv (.tmp 110)), none⟩] none))))))
def code11_3 : CCode :=
 (.block 3
  (.seq
  (.region [⟨(some 118), (.idx 1 (.tmp 114) (.tmp 116)), none⟩,
   ⟨(some 119), (.load false 1 (.tmp 118)), none⟩,
   ⟨(some 17), (.mv (.tmp 119)), none⟩] none)
  (.seq
   (.region [⟨(some 120), (.mv (.tmp 14)), none⟩,
    ⟨(some 121), (.mv (.tmp 17)), none⟩,
    ⟨(some 122), (.call (.tmp 120) [(.tmp 121)]), none⟩,
    ⟨(some 123), (.un .not (.tmp 122)), none⟩] none)
   (.cond (.tmp 123)
   (.region [⟨(some 124), (.mv (.tmp 15)), none⟩,
    ⟨(some 125), (.mv (.tmp 17)), none⟩,
    ⟨(some 126), (.lit 0 1 1 [(0, (.tmp 125))]), none⟩,
    ⟨(some 127), (.app 1 8 (.tmp 124) (.tmp 126)), none⟩,
    ⟨(some 15), (.mv (.tmp 127)), none⟩] none)
   .skip))))
def code11_4 : CCode :=
 (.block 2
  (.loop
  (.seq
   (.region [⟨(some 117), (.bin 0 .lss (.tmp 116) (.tmp 115)), none⟩] none)
   (.seq
   (.cond (.tmp 117)
    .skip
    (.exit 2))
   (.seq
    code11_3
    (.region [⟨(some 128), (.bin 0 .add (.tmp 116) (.const (.int .i64 1))), none⟩,
     ⟨(some 116), (.mv (.tmp 128)), none⟩] none))))))
def code11 : CCode :=
 (.seq
  (.region [⟨(some 4), (.box 2 (.tmp 0)), none⟩,
   ⟨(some 7), (.box 1 (.tmp 3)), none⟩,
   ⟨(some 8), (.mv (.const (.slice none 0 0))), none⟩] none)
  (.seq
  (.region [⟨(some 18), (.load true 2 (.tmp 4)), none⟩,
   ⟨(some 19), (.mv (.tmp 1)), none⟩,
   ⟨(some 20), (.mv (.tmp 2)), none⟩,
   ⟨(some 21), (.call (.func 25) [(.tmp 18), (.tmp 19), (.tmp 20)]), none⟩,
   ⟨(some 9), (.mv (.tmp 21)), none⟩] none)
  (.seq
   (.seq
   (.region [⟨(some 22), (.mv (.tmp 9)), none⟩,
    ⟨(some 23), (.bin 2 .eql (.tmp 22) (.const (.pointer none))), none⟩,
    ⟨(some 24), (.mv (.tmp 23)), none⟩,
    ⟨(some 25), (.load false 1 (.tmp 7)), (some (24, false))⟩,
    ⟨(some 26), (.bin 0 .lss (.tmp 25) (.const (.int .i64 0))), (some (24, false))⟩,
    ⟨(some 27), (.pick (.tmp 24) (.const (.bool true)) (.tmp 26)), none⟩,
    ⟨(some 28), (.mv (.tmp 27)), none⟩,
    ⟨(some 29), (.load false 1 (.tmp 7)), (some (28, false))⟩,
    ⟨(some 30), (.fad 0 (.tmp 4)), (some (28, false))⟩,
    ⟨(some 31), (.load false 1 (.tmp 30)), (some (28, false))⟩,
    ⟨(some 32), (.len 1 (.tmp 31)), (some (28, false))⟩,
    ⟨(some 33), (.bin 0 .geq (.tmp 29) (.tmp 32)), (some (28, false))⟩,
    ⟨(some 34), (.pick (.tmp 28) (.const (.bool true)) (.tmp 33)), none⟩,
    ⟨(some 35), (.mv (.tmp 34)), none⟩,
    ⟨(some 36), (.mv (.tmp 9)), (some (35, false))⟩,
    ⟨(some 37), (.nilck (.tmp 36)), (some (35, false))⟩,
    ⟨(some 38), (.fad 4 (.tmp 37)), (some (35, false))⟩,
    ⟨(some 39), (.load false 1 (.tmp 38)), (some (35, false))⟩,
    ⟨(some 40), (.load false 1 (.tmp 7)), (some (35, false))⟩,
    ⟨(some 41), (.idx 1 (.tmp 39) (.tmp 40)), (some (35, false))⟩,
    ⟨(some 42), (.load false 1 (.tmp 41)), (some (35, false))⟩,
    ⟨(some 43), (.bin 0 .eql (.tmp 42) (.const (.int .i64 0))), (some (35, false))⟩,
    ⟨(some 44), (.pick (.tmp 35) (.const (.bool true)) (.tmp 43)), none⟩,
    ⟨(some 45), (.mv (.tmp 44)), none⟩,
    ⟨(some 46), (.fad 0 (.tmp 4)), (some (45, false))⟩,
    ⟨(some 47), (.load false 1 (.tmp 46)), (some (45, false))⟩,
    ⟨(some 48), (.load false 1 (.tmp 7)), (some (45, false))⟩,
    ⟨(some 49), (.idx 4 (.tmp 47) (.tmp 48)), (some (45, false))⟩,
    ⟨(some 50), (.fad 2 (.tmp 49)), (some (45, false))⟩,
    ⟨(some 51), (.load false 1 (.tmp 50)), (some (45, false))⟩,
    ⟨(some 52), (.bin 0 .neq (.tmp 51) (.const (.int .i64 1))), (some (45, false))⟩,
    ⟨(some 53), (.pick (.tmp 45) (.const (.bool true)) (.tmp 52)), none⟩] (some (.take 0 (.take 1 (.take 2 (.take 3 (.take 4 (.take 5 (.take 6 (.take 7 (.take 8 (.take 9 (.take 10 (.take 11 (.take 12 (.take 13 (.take 14 (.take 15 (.take 16 (.take 17 (.take 18 (.take 19 (.take 20 (.take 21 (.take 22 (.take 23 (.take 24 (.take 25 (.take 26 (.take 27 (.take 28 (.take 29 (.take 30 (.take 31 .done))))))))))))))))))))))))))))))))))
   (.cond (.tmp 53)
    (.seq
    (.region [⟨(some 8), (.mv (.const (.slice none 0 0))), none⟩] none)
    .ret)
    .skip))
   (.seq
   (.region [⟨(some 54), (.mv (.tmp 9)), none⟩,
    ⟨(some 55), (.call (.func 27) [(.tmp 54)]), none⟩,
    ⟨(some 56), (.call (.func 26) [(.tmp 55)]), none⟩,
    ⟨(some 10), (.alloc [(.slice none 0 0)]), none⟩,
    ⟨none, (.store 1 (.tmp 10) (.tmp 56)), none⟩] none)
   (.seq
    (.region [⟨(some 11), (.alloc [(.slice none 0 0)]), none⟩] none)
    (.seq
    (.seq
     (.region [⟨(some 57), (.fad 0 (.tmp 4)), none⟩,
      ⟨(some 58), (.load false 1 (.tmp 57)), none⟩,
      ⟨(some 59), (.len 1 (.tmp 58)), none⟩,
      ⟨(some 60), (.mv (.const (.int .i64 0))), none⟩] none)
     code11_2)
    (.seq
     (.region [⟨(some 111), (.mkfn (.func 28) [] [(.tmp 11), (.tmp 10), (.tmp 7)]), none⟩,
      ⟨(some 14), (.mv (.tmp 111)), none⟩] none)
     (.seq
     (.region [⟨(some 15), (.mv (.const (.slice none 0 0))), none⟩] none)
     (.seq
      (.seq
      (.region [⟨(some 112), (.lit 0 1 1 [(0, (.const (.int .i64 (-1))))]), none⟩,
       ⟨(some 113), (.load false 1 (.tmp 11)), none⟩,
       ⟨(some 114), (.app 1 8 (.tmp 112) (.tmp 113)), none⟩,
       ⟨(some 115), (.len 1 (.tmp 114)), none⟩,
       ⟨(some 116), (.mv (.const (.int .i64 0))), none⟩] none)
      code11_4)
      (.seq
      (.region [⟨(some 129), (.mv (.tmp 15)), none⟩,
       ⟨(some 8), (.mv (.tmp 129)), none⟩] none)
      .ret))))))))))
theorem tr11 : (Try.f11.body).bind (trCode Try.prog Try.f11.ntmps) = some code11 := by kernel_rfl
inductive O11_2 where
  | ok (b0 : api_Shape) (b1 : Int) (b2 : hb_log) (b5 : List (List Bool)) (b7 : List Int) (v58 : List api_Event) (v59 : Int) (v60 : Int)
def l11_2 (n : Nat) (b0 : api_Shape) (b1 : Int) (b2 : hb_log) (b5 : List (List Bool)) (b7 : List Int) (v58 : List api_Event) (v59 : Int) (v60 : Int) : Option O11_2 :=
  if 0 ≤ v60 ∧ v60 < (v58.length : Int) then
    if (((v58.getD v60.toNat default).Kind) == 2) = true → 0 ≤ b1 ∧ b1 < (b0.Events.length : Int) then
      if ((((v58.getD v60.toNat default).Kind) == 2) && (((v58.getD v60.toNat default).Obj) == ((b0.Events.getD b1.toNat default).Obj))) = true → 0 ≤ v60 ∧ v60 < (b2.at_.length : Int) then
        if (((((v58.getD v60.toNat default).Kind) == 2) && (((v58.getD v60.toNat default).Obj) == ((b0.Events.getD b1.toNat default).Obj))) && (decide ((b2.at_.getD v60.toNat 0) > 0))) = true → 0 ≤ v60 ∧ v60 < (b2.at_.length : Int) then
          if (((((v58.getD v60.toNat default).Kind) == 2) && (((v58.getD v60.toNat default).Obj) == ((b0.Events.getD b1.toNat default).Obj))) && (decide ((b2.at_.getD v60.toNat 0) > 0))) = true → 0 ≤ b1 ∧ b1 < (b2.at_.length : Int) then
            if (((((v58.getD v60.toNat default).Kind) == 2) && (((v58.getD v60.toNat default).Obj) == ((b0.Events.getD b1.toNat default).Obj))) && (decide ((b2.at_.getD v60.toNat 0) > 0))) && (decide ((b2.at_.getD v60.toNat 0) < (b2.at_.getD b1.toNat 0))) then
              if (b7.length + 1) * 8 ≤ 140737488355328 then
                some (.ok b0 b1 b2 b5 (b7 ++ ([v60] : List Int)) v58 v59 v60)
              else none
            else
              some (.ok b0 b1 b2 b5 b7 v58 v59 v60)
          else none
        else none
      else none
    else none
  else none
inductive O11_3 where
  | ok (b0 : Int) (b1 : List (List Bool)) (b3 : List Int)
def l11_3 (n : Nat) : Nat → api_Shape → Int → hb_log → (List (List Bool)) → (List Int) → (List api_Event) → Int → Int → Option O11_3
  | 0, _, _, _, _, _, _, _, _ => none
  | m + 1, b0, b1, b2, b5, b7, v58, v59, v60 =>
    if decide (v60 < v59) then
      (match l11_2 n b0 b1 b2 b5 b7 v58 v59 v60 with
      | none => none
      | some (.ok b0_158 b1_158 b2_158 b5_158 b7_158 v58_158 v59_158 v60_158) =>
        l11_3 n m b0_158 b1_158 b2_158 b5_158 b7_158 v58_158 v59_158 (w64 (v60_158 + 1)))
    else
      some (.ok b1 b5 b7)
inductive O11_5 where
  | ok (b0 : List Int) (b2 : List (List Bool)) (b4 : Int) (b5 : List Int) (b6 : List Int) (v115 : Int) (v116 : Int)
def l11_5 (n : Nat) (b0 : List Int) (b2 : List (List Bool)) (b4 : Int) (b5 : List Int) (b6 : List Int) (v115 : Int) (v116 : Int) : Option O11_5 :=
  if 0 ≤ v116 ∧ v116 < (b6.length : Int) then
    (s28_dfp23fp36fp3 n (b6.getD v116.toNat 0) b0 b2 b4).bind fun r174 =>
    if !r174 then
      if (b5.length + 1) * 8 ≤ 140737488355328 then
        some (.ok b0 b2 b4 (b5 ++ ([b6.getD v116.toNat 0] : List Int)) b6 v115 v116)
      else none
    else
      some (.ok b0 b2 b4 b5 b6 v115 v116)
  else none
inductive O11_6 where
  | ok (b0 : List Int)
def l11_6 (n : Nat) : Nat → (List Int) → (List (List Bool)) → Int → (List Int) → (List Int) → Int → Int → Option O11_6
  | 0, _, _, _, _, _, _, _ => none
  | m + 1, b0, b2, b4, b5, b6, v115, v116 =>
    if decide (v116 < v115) then
      (match l11_5 n b0 b2 b4 b5 b6 v115 v116 with
      | none => none
      | some (.ok b0_179 b2_179 b4_179 b5_179 b6_179 v115_179 v116_179) =>
        l11_6 n m b0_179 b2_179 b4_179 b5_179 b6_179 v115_179 (w64 (v116_179 + 1)))
    else
      some (.ok b5)
def s11 (n : Nat) (p0 : api_Shape) (p1 : List api_Decl) (p2 : List api_Entry) (p3 : Int) : Option (List Int) :=
  (s25 n p0 p1 p2).bind fun r112 =>
  (match r112 with
  | none =>
    some ([] : List Int)
  | some r112 =>
    if ((decide (p3 < 0)) || (decide (p3 ≥ (p0.Events.length : Int)))) = false → 0 ≤ p3 ∧ p3 < (r112.at_.length : Int) then
      if (((decide (p3 < 0)) || (decide (p3 ≥ (p0.Events.length : Int)))) || ((r112.at_.getD p3.toNat 0) == 0)) = false → 0 ≤ p3 ∧ p3 < (p0.Events.length : Int) then
        if (((decide (p3 < 0)) || (decide (p3 ≥ (p0.Events.length : Int)))) || ((r112.at_.getD p3.toNat 0) == 0)) || (((p0.Events.getD p3.toNat default).Kind) != 1) then
          some ([] : List Int)
        else
          (s27_fp59 n r112).bind fun r115 =>
          (s26 n r115).bind fun r116 =>
          (match l11_3 n n p0 p3 r112 r116 ([] : List Int) p0.Events (p0.Events.length : Int) 0 with
          | none => none
          | some (.ok b0_160 b1_160 b3_160) =>
            if (1 + b3_160.length) * 8 ≤ 140737488355328 then
              (match l11_6 n n b3_160 b1_160 b0_160 ([] : List Int) (([(-1)] : List Int) ++ b3_160) ((1 + b3_160.length) : Int) 0 with
              | none => none
              | some (.ok b0_181) =>
                some b0_181)
            else none)
      else none
    else none)
def E11 (r : List Int) (s : AS) : Prop := resOf s (.one 8) = some (.own 0 1 0 r.length) ∧ EndSt [(0, 0)] s.st [(0, .li 1 cI 0 r)] ∧ PinEnd (fun _ => none) s.st []
theorem t11_2 {n : Nat} {b0 : api_Shape} {b1 : Int} {b2 : hb_log} {b5 : List (List Bool)} {b7 : List Int} {v58 : List api_Event} {v59 : Int} {v60 : Int} {out : O11_2} (h : l11_2 n b0 b1 b2 b5 b7 v58 v59 v60 = some out) {Q : Ex → AS → Prop} (hok : ∀ b0 b1 b2 b5 b7 v58 v59 v60, out = .ok b0 b1 b2 b5 b7 v58 v59 v60 → Q .normal ⟨[(4, .ptr 0 0), (7, .ptr 1 0), (9, .ptr 2 0), (10, .ptr 5 0), (11, .ptr 7 0), (58, api_Event.sl v58), (59, I v59), (60, I v60)], [(0, .box (api_Shape.cs b0)), (1, .box [I b1]), (2, .box (hb_log.co b2 3 4)), (3, .li 1 cI 0 b2.at_), (4, .mapI b2.in_), (5, .box [.own 6 1 0 b5.length]), (6, .ml cB false b5), (7, .box [.own 8 1 0 b7.length]), (8, .li 1 cI 0 b7)], 9⟩) : CWP Try.prog Try.f11.ntmps code11_1 Q ⟨[(4, .ptr 0 0), (7, .ptr 1 0), (9, .ptr 2 0), (10, .ptr 5 0), (11, .ptr 7 0), (58, api_Event.sl v58), (59, I v59), (60, I v60)], [(0, .box (api_Shape.cs b0)), (1, .box [I b1]), (2, .box (hb_log.co b2 3 4)), (3, .li 1 cI 0 b2.at_), (4, .mapI b2.in_), (5, .box [.own 6 1 0 b5.length]), (6, .ml cB false b5), (7, .box [.own 8 1 0 b7.length]), (8, .li 1 cI 0 b7)], 9⟩ := by
  unfold l11_2 at h
  refine CWP.block ?_
  refine CWP.seq ?_
  obtain ⟨hs146, h⟩ := ite_some h
  refine CWP.regionT ⟨[(4, .ptr 0 0), (7, .ptr 1 0), (9, .ptr 2 0), (10, .ptr 5 0), (11, .ptr 7 0), (12, I v60), (13, .ptr 33 0), (58, api_Event.sl v58), (59, I v59), (60, I v60)], [(0, .box (api_Shape.cs b0)), (1, .box [I b1]), (2, .box (hb_log.co b2 3 4)), (3, .li 1 cI 0 b2.at_), (4, .mapI b2.in_), (5, .box [.own 6 1 0 b5.length]), (6, .ml cB false b5), (7, .box [.own 8 1 0 b7.length]), (8, .li 1 cI 0 b7), (33, .box [I ((v58.getD v60.toNat default).Proc), I ((v58.getD v60.toNat default).Inst), I ((v58.getD v60.toNat default).Kind), I ((v58.getD v60.toNat default).Obj)])], 57⟩ ?_ ?_
  · refine And.intro hs146 ?_
    refine SemOp.ofT ?_
    refine ex_refl ?_
    exact Le.keep (live := [4, 7, 9, 10, 11, 12, 13, 58, 59, 60]) (names := [0, 1, 2, 3, 4, 5, 6, 7, 8, 33]) (nx := 57) rfl
  refine CWP.seq ?_
  obtain ⟨hs147, h⟩ := ite_some h
  obtain ⟨hs148, h⟩ := ite_some h
  obtain ⟨hs149, h⟩ := ite_some h
  obtain ⟨hs150, h⟩ := ite_some h
  refine CWP.drawT [] [] ⟨[(4, .ptr 0 0), (7, .ptr 1 0), (9, .ptr 2 0), (10, .ptr 5 0), (11, .ptr 7 0), (12, I v60), (58, api_Event.sl v58), (59, I v59), (60, I v60), (105, .tst ((((((v58.getD v60.toNat default).Kind) == 2) && (((v58.getD v60.toNat default).Obj) == ((b0.Events.getD b1.toNat default).Obj))) && (decide ((b2.at_.getD v60.toNat 0) > 0))) && (decide ((b2.at_.getD v60.toNat 0) < (b2.at_.getD b1.toNat 0)))))], [(0, .box (api_Shape.cs b0)), (1, .box [I b1]), (2, .box (hb_log.co b2 3 4)), (3, .li 1 cI 0 b2.at_), (4, .mapI b2.in_), (5, .box [.own 6 1 0 b5.length]), (6, .ml cB false b5), (7, .box [.own 8 1 0 b7.length]), (8, .li 1 cI 0 b7)], 385⟩ ?_ ?_
  · refine And.intro rfl ?_
    iterate 3 refine And.intro rfl ?_
    refine And.intro (fun hg152 => ?_) (fun hg152 => ?_)
    · have hg152 : (((v58.getD v60.toNat default).Kind) == 2) = true := hg152
      iterate 6 refine And.intro rfl ?_
      refine And.intro (hs147 (by simp only [hg152, sB, reduceIte])) ?_
      iterate 5 refine And.intro rfl ?_
      refine And.intro (fun hg153 => ?_) (fun hg153 => ?_)
      · have hg153 : (((v58.getD v60.toNat default).Obj) == ((b0.Events.getD b1.toNat default).Obj)) = true := hg153
        iterate 6 refine And.intro rfl ?_
        refine And.intro (hs148 (by simp only [hg152, hg153, sB, reduceIte])) ?_
        refine And.intro rfl ?_
        refine And.intro (idx_lt (hs148 (by simp only [hg152, hg153, sB, reduceIte]))) ?_
        iterate 3 refine And.intro rfl ?_
        refine And.intro (fun hg154 => ?_) (fun hg154 => ?_)
        · have hg154 : (decide ((b2.at_.getD v60.toNat 0) > 0)) = true := hg154
          iterate 6 refine And.intro rfl ?_
          refine And.intro (hs149 (by simp only [hg152, hg153, hg154, sB, reduceIte])) ?_
          refine And.intro rfl ?_
          refine And.intro (idx_lt (hs149 (by simp only [hg152, hg153, hg154, sB, reduceIte]))) ?_
          iterate 6 refine And.intro rfl ?_
          refine And.intro (hs150 (by simp only [hg152, hg153, hg154, sB, reduceIte])) ?_
          refine And.intro rfl ?_
          refine And.intro (idx_lt (hs150 (by simp only [hg152, hg153, hg154, sB, reduceIte]))) ?_
          iterate 2 refine And.intro rfl ?_
          exact Le.trans (Le.rep (t := 105) rfl (RepLe.fr rfl (FrLe.tst2 (by simp only [hg152, hg153, hg154, sB, reduceIte])))) (Le.keep (live := [4, 7, 9, 10, 11, 12, 58, 59, 60, 105]) (names := [0, 1, 2, 3, 4, 5, 6, 7, 8]) (nx := 385) rfl)
        · have hg154 : (decide ((b2.at_.getD v60.toNat 0) > 0)) = false := hg154
          refine And.intro rfl ?_
          exact Le.trans (Le.rep (t := 105) rfl (RepLe.fr rfl (FrLe.tst (by simp only [hg152, hg153, hg154, sB, reduceIte])))) (Le.keep (live := [4, 7, 9, 10, 11, 12, 58, 59, 60, 105]) (names := [0, 1, 2, 3, 4, 5, 6, 7, 8]) (nx := 385) rfl)
      · have hg153 : (((v58.getD v60.toNat default).Obj) == ((b0.Events.getD b1.toNat default).Obj)) = false := hg153
        iterate 3 refine And.intro rfl ?_
        exact Le.trans (Le.rep (t := 105) rfl (RepLe.fr rfl (FrLe.tst (by simp only [hg152, hg153, sB, reduceIte])))) (Le.keep (live := [4, 7, 9, 10, 11, 12, 58, 59, 60, 105]) (names := [0, 1, 2, 3, 4, 5, 6, 7, 8]) (nx := 385) rfl)
    · have hg152 : (((v58.getD v60.toNat default).Kind) == 2) = false := hg152
      iterate 5 refine And.intro rfl ?_
      exact Le.trans (Le.rep (t := 105) rfl (RepLe.fr rfl (FrLe.tst (by simp only [hg152, sB, reduceIte])))) (Le.keep (live := [4, 7, 9, 10, 11, 12, 58, 59, 60, 105]) (names := [0, 1, 2, 3, 4, 5, 6, 7, 8]) (nx := 385) rfl)
  refine CWP.cond (And.intro (fun hc => ?_) (fun hc => ?_))
  · have h := ite_t h hc
    obtain ⟨hs151, h⟩ := ite_some h
    refine CWP.regionT ⟨[(4, .ptr 0 0), (7, .ptr 1 0), (9, .ptr 2 0), (10, .ptr 5 0), (11, .ptr 7 0), (58, api_Event.sl v58), (59, I v59), (60, I v60)], [(0, .box (api_Shape.cs b0)), (1, .box [I b1]), (2, .box (hb_log.co b2 3 4)), (3, .li 1 cI 0 b2.at_), (4, .mapI b2.in_), (5, .box [.own 6 1 0 b5.length]), (6, .ml cB false b5), (7, .box [.own 8 1 0 ((b7 ++ ([v60] : List Int)).length)]), (8, .li 1 cI 0 (b7 ++ ([v60] : List Int)))], 9⟩ ?_ ?_
    · refine SemOp.ofT ?_
      refine ex_arr ([v60] : List Int) (x := 401) (sz := 1) (n := 1) (cell := cI) (d := 0) rfl (by intro j c hj hc; match j, hj with | 0, _ => (match c, hc with | 0, _ => rfl | _ + 1, h => exact absurd h (by omega)) | _ + 1, h => exact absurd h (by omega)) ?_
      refine SemOp.ofT ?_
      refine And.intro ⟨Nat.le_refl _, hs151, Nat.le_refl _⟩ ?_
      refine ex_arr (b7 ++ ([v60] : List Int)) (x := 8) (cell := cI) (d := 0) rfl (li_ap rfl rfl) ?_
      refine SemOp.ofT ?_
      refine ex_refl ?_
      exact Le.trans (Le.trans (Le.list (x := 8) rfl (cell := cI) (d := 0) (l := b7 ++ ([v60] : List Int)) (len_app (l := b7) (k := ([v60] : List Int)) (n := b7.length) (m := 1) rfl rfl) (fun _ _ _ _ => rfl)) (Le.trans (Le.blk (x := 7) rfl (BlkLe.box (RepLes.cons (RepLe.ownLen (len_app (l := b7) (k := ([v60] : List Int)) (n := b7.length) (m := 1) rfl rfl).symm) (RepLes.nil)))) (Le.keep (live := [4, 7, 9, 10, 11, 58, 59, 60]) (names := [0, 1, 2, 3, 4, 5, 6, 7, 8]) (nx := 425) rfl))) (Le.keep (live := [4, 7, 9, 10, 11, 58, 59, 60]) (names := [0, 1, 2, 3, 4, 5, 6, 7, 8]) (nx := 9) rfl)
    exact hok _ _ _ _ _ _ _ _ (Option.some.inj h).symm
  · have h := ite_f h hc
    refine CWP.skipL (Le.keep (live := [4, 7, 9, 10, 11, 58, 59, 60]) (names := [0, 1, 2, 3, 4, 5, 6, 7, 8]) (nx := 9) rfl) (s' := ⟨[(4, .ptr 0 0), (7, .ptr 1 0), (9, .ptr 2 0), (10, .ptr 5 0), (11, .ptr 7 0), (58, api_Event.sl v58), (59, I v59), (60, I v60)], [(0, .box (api_Shape.cs b0)), (1, .box [I b1]), (2, .box (hb_log.co b2 3 4)), (3, .li 1 cI 0 b2.at_), (4, .mapI b2.in_), (5, .box [.own 6 1 0 b5.length]), (6, .ml cB false b5), (7, .box [.own 8 1 0 b7.length]), (8, .li 1 cI 0 b7)], 9⟩) ?_
    exact hok _ _ _ _ _ _ _ _ (Option.some.inj h).symm
theorem t11_3 {n fuel : Nat} {b0 : api_Shape} {b1 : Int} {b2 : hb_log} {b5 : List (List Bool)} {b7 : List Int} {v58 : List api_Event} {v59 : Int} {v60 : Int} {out : O11_3} (h : l11_3 n fuel b0 b1 b2 b5 b7 v58 v59 v60 = some out) {Q : Ex → AS → Prop} (hok : ∀ b0 b1 b3, out = .ok b0 b1 b3 → Q .normal ⟨[(7, .ptr 0 0), (10, .ptr 1 0), (11, .ptr 3 0)], [(0, .box [I b0]), (1, .box [.own 2 1 0 b1.length]), (2, .ml cB false b1), (3, .box [.own 4 1 0 b3.length]), (4, .li 1 cI 0 b3)], 5⟩) : CWP Try.prog Try.f11.ntmps code11_2 Q ⟨[(4, .ptr 0 0), (7, .ptr 1 0), (9, .ptr 2 0), (10, .ptr 5 0), (11, .ptr 7 0), (58, api_Event.sl v58), (59, I v59), (60, I v60)], [(0, .box (api_Shape.cs b0)), (1, .box [I b1]), (2, .box (hb_log.co b2 3 4)), (3, .li 1 cI 0 b2.at_), (4, .mapI b2.in_), (5, .box [.own 6 1 0 b5.length]), (6, .ml cB false b5), (7, .box [.own 8 1 0 b7.length]), (8, .li 1 cI 0 b7)], 9⟩ := by
  refine CWP.block ?_
  refine CWP.loop (fun k s => ∃ b0 : api_Shape, ∃ b1 : Int, ∃ b2 : hb_log, ∃ b5 : List (List Bool), ∃ b7 : List Int, ∃ v58 : List api_Event, ∃ v59 : Int, ∃ v60 : Int, s = ⟨[(4, .ptr 0 0), (7, .ptr 1 0), (9, .ptr 2 0), (10, .ptr 5 0), (11, .ptr 7 0), (58, api_Event.sl v58), (59, I v59), (60, I v60)], [(0, .box (api_Shape.cs b0)), (1, .box [I b1]), (2, .box (hb_log.co b2 3 4)), (3, .li 1 cI 0 b2.at_), (4, .mapI b2.in_), (5, .box [.own 6 1 0 b5.length]), (6, .ml cB false b5), (7, .box [.own 8 1 0 b7.length]), (8, .li 1 cI 0 b7)], 9⟩ ∧ l11_3 n k b0 b1 b2 b5 b7 v58 v59 v60 = some out) fuel ⟨b0, b1, b2, b5, b7, v58, v59, v60, rfl, h⟩ ?_
  clear h
  rintro k s ⟨b0, b1, b2, b5, b7, v58, v59, v60, rfl, h⟩
  cases k with
  | zero => cases h
  | succ m =>
    rw [l11_3] at h
    refine CWP.seq ?_
    refine CWP.regionT ⟨[(4, .ptr 0 0), (7, .ptr 1 0), (9, .ptr 2 0), (10, .ptr 5 0), (11, .ptr 7 0), (58, api_Event.sl v58), (59, I v59), (60, I v60), (61, .tst (decide (v60 < v59)))], [(0, .box (api_Shape.cs b0)), (1, .box [I b1]), (2, .box (hb_log.co b2 3 4)), (3, .li 1 cI 0 b2.at_), (4, .mapI b2.in_), (5, .box [.own 6 1 0 b5.length]), (6, .ml cB false b5), (7, .box [.own 8 1 0 b7.length]), (8, .li 1 cI 0 b7)], 17⟩ ?_ ?_
    · exact Le.keep (live := [4, 7, 9, 10, 11, 58, 59, 60, 61]) (names := [0, 1, 2, 3, 4, 5, 6, 7, 8]) (nx := 17) rfl
    refine CWP.seq ?_
    refine CWP.cond (And.intro (fun hc => ?_) (fun hc => ?_))
    · have h := ite_t h hc
      refine CWP.skip ?_
      refine CWP.seq ?_
      generalize hn157 : l11_2 n b0 b1 b2 b5 b7 v58 v59 v60 = o157 at h
      rcases o157 with _ | o157
      · cases h
      refine CWP.weaken (s' := ⟨[(4, .ptr 0 0), (7, .ptr 1 0), (9, .ptr 2 0), (10, .ptr 5 0), (11, .ptr 7 0), (58, api_Event.sl v58), (59, I v59), (60, I v60)], [(0, .box (api_Shape.cs b0)), (1, .box [I b1]), (2, .box (hb_log.co b2 3 4)), (3, .li 1 cI 0 b2.at_), (4, .mapI b2.in_), (5, .box [.own 6 1 0 b5.length]), (6, .ml cB false b5), (7, .box [.own 8 1 0 b7.length]), (8, .li 1 cI 0 b7)], 9⟩) (Le.keep (live := [4, 7, 9, 10, 11, 58, 59, 60]) (names := [0, 1, 2, 3, 4, 5, 6, 7, 8]) (nx := 9) rfl) ?_
      refine t11_2 hn157 ?_
      · intro b0_158 b1_158 b2_158 b5_158 b7_158 v58_158 v59_158 v60_158 e
        subst e
        dsimp only at h
        refine CWP.regionT ⟨[(4, .ptr 0 0), (7, .ptr 1 0), (9, .ptr 2 0), (10, .ptr 5 0), (11, .ptr 7 0), (58, api_Event.sl v58_158), (59, I v59_158), (60, I (w64 (v60_158 + 1)))], [(0, .box (api_Shape.cs b0_158)), (1, .box [I b1_158]), (2, .box (hb_log.co b2_158 3 4)), (3, .li 1 cI 0 b2_158.at_), (4, .mapI b2_158.in_), (5, .box [.own 6 1 0 b5_158.length]), (6, .ml cB false b5_158), (7, .box [.own 8 1 0 b7_158.length]), (8, .li 1 cI 0 b7_158)], 9⟩ ?_ ?_
        · exact Le.trans (Le.keep (live := [4, 7, 9, 10, 11, 58, 59, 60]) (names := [0, 1, 2, 3, 4, 5, 6, 7, 8]) (nx := 25) rfl) (Le.keep (live := [4, 7, 9, 10, 11, 58, 59, 60]) (names := [0, 1, 2, 3, 4, 5, 6, 7, 8]) (nx := 9) rfl)
        exact ⟨m, Nat.lt_succ_self m, _, _, _, _, _, _, _, _, rfl, h⟩
    · have h := ite_f h hc
      refine CWP.exitL (Le.ren [(0, 1), (1, 5), (2, 6), (3, 7), (4, 8)] rfl ⟨rfl, rfl, rfl, trivial⟩ ⟨⟨_, rfl, rfl⟩, ⟨_, rfl, rfl⟩, ⟨_, rfl, rfl⟩, ⟨_, rfl, rfl⟩, ⟨_, rfl, rfl⟩, trivial⟩) (s' := ⟨[(7, .ptr 0 0), (10, .ptr 1 0), (11, .ptr 3 0)], [(0, .box [I b1]), (1, .box [.own 2 1 0 b5.length]), (2, .ml cB false b5), (3, .box [.own 4 1 0 b7.length]), (4, .li 1 cI 0 b7)], 5⟩) ?_
      exact hok _ _ _ (Option.some.inj h).symm
theorem t11_5 {n : Nat} {b0 : List Int} {b2 : List (List Bool)} {b4 : Int} {b5 : List Int} {b6 : List Int} {v115 : Int} {v116 : Int} {out : O11_5} (h : l11_5 n b0 b2 b4 b5 b6 v115 v116 = some out) {Q : Ex → AS → Prop} (hok : ∀ b0 b2 b4 b5 b6 v115 v116, out = .ok b0 b2 b4 b5 b6 v115 v116 → Q .normal ⟨[(14, .fn (.func 28) [] [.ptr 0 0, .ptr 2 0, .ptr 4 0]), (15, .own 5 1 0 b5.length), (114, .own 6 1 0 b6.length), (115, I v115), (116, I v116)], [(0, .box [.own 1 1 0 b0.length]), (1, .li 1 cI 0 b0), (2, .box [.own 3 1 0 b2.length]), (3, .ml cB false b2), (4, .box [I b4]), (5, .li 1 cI 0 b5), (6, .li 1 cI 0 b6)], 7⟩) : CWP Try.prog Try.f11.ntmps code11_3 Q ⟨[(14, .fn (.func 28) [] [.ptr 0 0, .ptr 2 0, .ptr 4 0]), (15, .own 5 1 0 b5.length), (114, .own 6 1 0 b6.length), (115, I v115), (116, I v116)], [(0, .box [.own 1 1 0 b0.length]), (1, .li 1 cI 0 b0), (2, .box [.own 3 1 0 b2.length]), (3, .ml cB false b2), (4, .box [I b4]), (5, .li 1 cI 0 b5), (6, .li 1 cI 0 b6)], 7⟩ := by
  unfold l11_5 at h
  refine CWP.block ?_
  refine CWP.seq ?_
  obtain ⟨hs173, h⟩ := ite_some h
  refine CWP.regionT ⟨[(14, .fn (.func 28) [] [.ptr 0 0, .ptr 2 0, .ptr 4 0]), (15, .own 5 1 0 b5.length), (17, I (b6.getD v116.toNat 0)), (114, .own 6 1 0 b6.length), (115, I v115), (116, I v116)], [(0, .box [.own 1 1 0 b0.length]), (1, .li 1 cI 0 b0), (2, .box [.own 3 1 0 b2.length]), (3, .ml cB false b2), (4, .box [I b4]), (5, .li 1 cI 0 b5), (6, .li 1 cI 0 b6)], 31⟩ ?_ ?_
  · refine And.intro hs173 ?_
    refine And.intro (idx_lt hs173) ?_
    exact Le.keep (live := [14, 15, 17, 114, 115, 116]) (names := [0, 1, 2, 3, 4, 5, 6]) (nx := 31) rfl
  refine CWP.seq ?_
  obtain ⟨r174, hr174, h⟩ := Option.bind_eq_some_iff.1 h
  refine CWP.regionT ⟨[(14, .fn (.func 28) [] [.ptr 0 0, .ptr 2 0, .ptr 4 0]), (15, .own 5 1 0 b5.length), (17, I (b6.getD v116.toNat 0)), (114, .own 6 1 0 b6.length), (115, I v115), (116, I v116), (123, .tst !r174)], [(0, .box [.own 1 1 0 b0.length]), (1, .li 1 cI 0 b0), (2, .box [.own 3 1 0 b2.length]), (3, .ml cB false b2), (4, .box [I b4]), (5, .li 1 cI 0 b5), (6, .li 1 cI 0 b6)], 63⟩ ?_ ?_
  · refine FC.semT rfl rfl rfl ⟨Nat.le_refl _, Nat.le_refl _⟩ (FC.args (FrLes.cons (FrLe.refl _) (FrLes.cons (FrLe.fpt (fun i hi => match i, hi with | 0, _ => FrLe.refl _ | _ + 1, h => absurd h (by simp))) (FrLes.cons (FrLe.fpt (fun i hi => match i, hi with | 0, _ => FrLe.refl _ | _ + 1, h => absurd h (by simp))) (FrLes.cons (FrLe.fpt (fun i hi => match i, hi with | 0, _ => FrLe.refl _ | _ + 1, h => absurd h (by simp))) (FrLes.nil))))) (c28_dfp23fp36fp3 hr174)) (Or.inr (Or.inl rfl)) ?_
    refine ex_refl ?_
    exact Le.keep (live := [14, 15, 17, 114, 115, 116, 123]) (names := [0, 1, 2, 3, 4, 5, 6]) (nx := 63) rfl
  refine CWP.cond (And.intro (fun hc => ?_) (fun hc => ?_))
  · have h := ite_t h hc
    obtain ⟨hs175, h⟩ := ite_some h
    refine CWP.regionT ⟨[(14, .fn (.func 28) [] [.ptr 0 0, .ptr 2 0, .ptr 4 0]), (15, .own 5 1 0 ((b5 ++ ([b6.getD v116.toNat 0] : List Int)).length)), (114, .own 6 1 0 b6.length), (115, I v115), (116, I v116)], [(0, .box [.own 1 1 0 b0.length]), (1, .li 1 cI 0 b0), (2, .box [.own 3 1 0 b2.length]), (3, .ml cB false b2), (4, .box [I b4]), (5, .li 1 cI 0 (b5 ++ ([b6.getD v116.toNat 0] : List Int))), (6, .li 1 cI 0 b6)], 7⟩ ?_ ?_
    · refine SemOp.ofT ?_
      refine ex_arr ([b6.getD v116.toNat 0] : List Int) (x := 79) (sz := 1) (n := 1) (cell := cI) (d := 0) rfl (by intro j c hj hc; match j, hj with | 0, _ => (match c, hc with | 0, _ => rfl | _ + 1, h => exact absurd h (by omega)) | _ + 1, h => exact absurd h (by omega)) ?_
      refine SemOp.ofT ?_
      refine And.intro ⟨Nat.le_refl _, hs175, Nat.le_refl _⟩ ?_
      refine ex_arr (b5 ++ ([b6.getD v116.toNat 0] : List Int)) (x := 5) (cell := cI) (d := 0) rfl (li_ap rfl rfl) ?_
      exact Le.trans (Le.trans (Le.list (x := 5) rfl (cell := cI) (d := 0) (l := b5 ++ ([b6.getD v116.toNat 0] : List Int)) (len_app (l := b5) (k := ([b6.getD v116.toNat 0] : List Int)) (n := b5.length) (m := 1) rfl rfl) (fun _ _ _ _ => rfl)) (Le.trans (Le.rep (t := 15) rfl (RepLe.ownLen (len_app (l := b5) (k := ([b6.getD v116.toNat 0] : List Int)) (n := b5.length) (m := 1) rfl rfl).symm)) (Le.keep (live := [14, 15, 114, 115, 116]) (names := [0, 1, 2, 3, 4, 5, 6]) (nx := 103) rfl))) (Le.keep (live := [14, 15, 114, 115, 116]) (names := [0, 1, 2, 3, 4, 5, 6]) (nx := 7) rfl)
    exact hok _ _ _ _ _ _ _ (Option.some.inj h).symm
  · have h := ite_f h hc
    refine CWP.skipL (Le.keep (live := [14, 15, 114, 115, 116]) (names := [0, 1, 2, 3, 4, 5, 6]) (nx := 7) rfl) (s' := ⟨[(14, .fn (.func 28) [] [.ptr 0 0, .ptr 2 0, .ptr 4 0]), (15, .own 5 1 0 b5.length), (114, .own 6 1 0 b6.length), (115, I v115), (116, I v116)], [(0, .box [.own 1 1 0 b0.length]), (1, .li 1 cI 0 b0), (2, .box [.own 3 1 0 b2.length]), (3, .ml cB false b2), (4, .box [I b4]), (5, .li 1 cI 0 b5), (6, .li 1 cI 0 b6)], 7⟩) ?_
    exact hok _ _ _ _ _ _ _ (Option.some.inj h).symm
theorem t11_6 {n fuel : Nat} {b0 : List Int} {b2 : List (List Bool)} {b4 : Int} {b5 : List Int} {b6 : List Int} {v115 : Int} {v116 : Int} {out : O11_6} (h : l11_6 n fuel b0 b2 b4 b5 b6 v115 v116 = some out) {Q : Ex → AS → Prop} (hok : ∀ b0, out = .ok b0 → Q .normal ⟨[(15, .own 0 1 0 b0.length)], [(0, .li 1 cI 0 b0)], 1⟩) : CWP Try.prog Try.f11.ntmps code11_4 Q ⟨[(14, .fn (.func 28) [] [.ptr 0 0, .ptr 2 0, .ptr 4 0]), (15, .own 5 1 0 b5.length), (114, .own 6 1 0 b6.length), (115, I v115), (116, I v116)], [(0, .box [.own 1 1 0 b0.length]), (1, .li 1 cI 0 b0), (2, .box [.own 3 1 0 b2.length]), (3, .ml cB false b2), (4, .box [I b4]), (5, .li 1 cI 0 b5), (6, .li 1 cI 0 b6)], 7⟩ := by
  refine CWP.block ?_
  refine CWP.loop (fun k s => ∃ b0 : List Int, ∃ b2 : List (List Bool), ∃ b4 : Int, ∃ b5 : List Int, ∃ b6 : List Int, ∃ v115 : Int, ∃ v116 : Int, s = ⟨[(14, .fn (.func 28) [] [.ptr 0 0, .ptr 2 0, .ptr 4 0]), (15, .own 5 1 0 b5.length), (114, .own 6 1 0 b6.length), (115, I v115), (116, I v116)], [(0, .box [.own 1 1 0 b0.length]), (1, .li 1 cI 0 b0), (2, .box [.own 3 1 0 b2.length]), (3, .ml cB false b2), (4, .box [I b4]), (5, .li 1 cI 0 b5), (6, .li 1 cI 0 b6)], 7⟩ ∧ l11_6 n k b0 b2 b4 b5 b6 v115 v116 = some out) fuel ⟨b0, b2, b4, b5, b6, v115, v116, rfl, h⟩ ?_
  clear h
  rintro k s ⟨b0, b2, b4, b5, b6, v115, v116, rfl, h⟩
  cases k with
  | zero => cases h
  | succ m =>
    rw [l11_6] at h
    refine CWP.seq ?_
    refine CWP.regionT ⟨[(14, .fn (.func 28) [] [.ptr 0 0, .ptr 2 0, .ptr 4 0]), (15, .own 5 1 0 b5.length), (114, .own 6 1 0 b6.length), (115, I v115), (116, I v116), (117, .tst (decide (v116 < v115)))], [(0, .box [.own 1 1 0 b0.length]), (1, .li 1 cI 0 b0), (2, .box [.own 3 1 0 b2.length]), (3, .ml cB false b2), (4, .box [I b4]), (5, .li 1 cI 0 b5), (6, .li 1 cI 0 b6)], 15⟩ ?_ ?_
    · exact Le.keep (live := [14, 15, 114, 115, 116, 117]) (names := [0, 1, 2, 3, 4, 5, 6]) (nx := 15) rfl
    refine CWP.seq ?_
    refine CWP.cond (And.intro (fun hc => ?_) (fun hc => ?_))
    · have h := ite_t h hc
      refine CWP.skip ?_
      refine CWP.seq ?_
      generalize hn178 : l11_5 n b0 b2 b4 b5 b6 v115 v116 = o178 at h
      rcases o178 with _ | o178
      · cases h
      refine CWP.weaken (s' := ⟨[(14, .fn (.func 28) [] [.ptr 0 0, .ptr 2 0, .ptr 4 0]), (15, .own 5 1 0 b5.length), (114, .own 6 1 0 b6.length), (115, I v115), (116, I v116)], [(0, .box [.own 1 1 0 b0.length]), (1, .li 1 cI 0 b0), (2, .box [.own 3 1 0 b2.length]), (3, .ml cB false b2), (4, .box [I b4]), (5, .li 1 cI 0 b5), (6, .li 1 cI 0 b6)], 7⟩) (Le.keep (live := [14, 15, 114, 115, 116]) (names := [0, 1, 2, 3, 4, 5, 6]) (nx := 7) rfl) ?_
      refine t11_5 hn178 ?_
      · intro b0_179 b2_179 b4_179 b5_179 b6_179 v115_179 v116_179 e
        subst e
        dsimp only at h
        refine CWP.regionT ⟨[(14, .fn (.func 28) [] [.ptr 0 0, .ptr 2 0, .ptr 4 0]), (15, .own 5 1 0 b5_179.length), (114, .own 6 1 0 b6_179.length), (115, I v115_179), (116, I (w64 (v116_179 + 1)))], [(0, .box [.own 1 1 0 b0_179.length]), (1, .li 1 cI 0 b0_179), (2, .box [.own 3 1 0 b2_179.length]), (3, .ml cB false b2_179), (4, .box [I b4_179]), (5, .li 1 cI 0 b5_179), (6, .li 1 cI 0 b6_179)], 7⟩ ?_ ?_
        · exact Le.trans (Le.keep (live := [14, 15, 114, 115, 116]) (names := [0, 1, 2, 3, 4, 5, 6]) (nx := 23) rfl) (Le.keep (live := [14, 15, 114, 115, 116]) (names := [0, 1, 2, 3, 4, 5, 6]) (nx := 7) rfl)
        exact ⟨m, Nat.lt_succ_self m, _, _, _, _, _, _, _, rfl, h⟩
    · have h := ite_f h hc
      refine CWP.exitL (Le.ren [(0, 5)] rfl ⟨rfl, trivial⟩ ⟨⟨_, rfl, rfl⟩, trivial⟩) (s' := ⟨[(15, .own 0 1 0 b5.length)], [(0, .li 1 cI 0 b5)], 1⟩) ?_
      exact hok _ (Option.some.inj h).symm
theorem wf11 {n : Nat} {p0 : api_Shape} {p1 : List api_Decl} {p2 : List api_Entry} {p3 : Int} {r : List Int} (h : s11 n p0 p1 p2 p3 = some r) : CWP Try.prog Try.f11.ntmps code11 (AtE (E11 r)) ⟨[(0, .agg (api_Shape.cs p0)), (1, api_Decl.sl p1), (2, api_Entry.sl p2), (3, I p3)], [], 0⟩ := by
  unfold s11 at h
  refine CWP.seq ?_
  refine CWP.regionT ⟨[(1, api_Decl.sl p1), (2, api_Entry.sl p2), (4, .ptr 0 0), (7, .ptr 8 0)], [(0, .box (api_Shape.cs p0)), (8, .box [I p3])], 24⟩ ?_ ?_
  · exact Le.keep (live := [1, 2, 4, 7]) (names := [0, 8]) (nx := 24) rfl
  refine CWP.seq ?_
  obtain ⟨r112, hr112, h⟩ := Option.bind_eq_some_iff.1 h
  rcases r112 with _ | r112
  · dsimp only at h
    refine CWP.regionT ⟨[(4, .ptr 0 0), (7, .ptr 8 0), (9, .raw (.pointer none))], [(0, .box (api_Shape.cs p0)), (8, .box [I p3])], 64⟩ ?_ ?_
    · refine FC.semT rfl rfl rfl trivial (c25n hr112) (Or.inl rfl) ?_
      refine ex_refl ?_
      exact Le.keep (live := [4, 7, 9]) (names := [0, 8]) (nx := 64) rfl
    refine CWP.seq ?_
    refine CWP.seq ?_
    refine CWP.drawT [] [] ⟨[(4, .ptr 0 0), (7, .ptr 8 0), (9, .raw (.pointer none)), (53, .raw (.bool true))], [(0, .box (api_Shape.cs p0)), (8, .box [I p3])], 320⟩ ?_ ?_
    · refine And.intro rfl ?_
      iterate 9 refine And.intro rfl ?_
      exact Le.keep (live := [4, 7, 9, 53]) (names := [0, 8]) (nx := 320) rfl
    refine CWP.cond ?_
    refine CWP.seq ?_
    refine CWP.regionT ⟨[(8, .raw (.slice none 0 0))], [], 328⟩ ?_ ?_
    · exact Le.keep (live := [8]) (names := []) (nx := 328) rfl
    refine CWP.weaken (s' := ⟨[(8, .own 0 1 0 (([] : List Int).length))], [(0, .li 1 cI 0 ([] : List Int))], 1⟩) (Le.trans (Le.nilOwn (t := 8) (sz := 1) (f := fun j => cI (([] : List Int).getD j 0)) rfl (by decide)) (Le.ren [(0, 328)] rfl ⟨rfl, trivial⟩ ⟨⟨_, rfl, rfl⟩, trivial⟩)) ?_
    refine CWP.ret ?_
    have e := Option.some.inj h
    subst e
    exact ⟨rfl, ⟨⟨_, rfl, rfl⟩, trivial⟩, trivial⟩
  · dsimp only at h
    refine CWP.regionT ⟨[(4, .ptr 0 0), (7, .ptr 8 0), (9, .ptr 48 0)], [(0, .box (api_Shape.cs p0)), (8, .box [I p3]), (48, .box (hb_log.co r112 49 50)), (49, .li 1 cI 0 r112.at_), (50, .mapI r112.in_)], 64⟩ ?_ ?_
    · refine FC.semT rfl rfl rfl trivial (c25 hr112) (Or.inl rfl) ?_
      refine ex_refl ?_
      exact Le.keep (live := [4, 7, 9]) (names := [0, 8, 48, 49, 50]) (nx := 64) rfl
    refine CWP.seq ?_
    refine CWP.seq ?_
    obtain ⟨hs113, h⟩ := ite_some h
    obtain ⟨hs114, h⟩ := ite_some h
    refine CWP.drawT [] [] ⟨[(4, .ptr 0 0), (7, .ptr 8 0), (9, .ptr 48 0), (53, .tst ((((decide (p3 < 0)) || (decide (p3 ≥ (p0.Events.length : Int)))) || ((r112.at_.getD p3.toNat 0) == 0)) || (((p0.Events.getD p3.toNat default).Kind) != 1)))], [(0, .box (api_Shape.cs p0)), (8, .box [I p3]), (48, .box (hb_log.co r112 49 50)), (49, .li 1 cI 0 r112.at_), (50, .mapI r112.in_)], 320⟩ ?_ ?_
    · refine And.intro rfl ?_
      iterate 6 refine And.intro rfl ?_
      refine And.intro (fun hg182 => ?_) (fun hg182 => ?_)
      · have hg182 : (decide (p3 < 0)) = false := hg182
        iterate 7 refine And.intro rfl ?_
        refine And.intro (fun hg183 => ?_) (fun hg183 => ?_)
        · have hg183 : (decide (p3 ≥ (p0.Events.length : Int))) = false := hg183
          iterate 6 refine And.intro rfl ?_
          refine And.intro (hs113 (by simp only [hg182, hg183, sB, reduceIte])) ?_
          refine And.intro rfl ?_
          refine And.intro (idx_lt (hs113 (by simp only [hg182, hg183, sB, reduceIte]))) ?_
          iterate 3 refine And.intro rfl ?_
          refine And.intro (fun hg184 => ?_) (fun hg184 => ?_)
          · have hg184 : ((r112.at_.getD p3.toNat 0) == 0) = false := hg184
            iterate 4 refine And.intro rfl ?_
            refine And.intro (hs114 (by simp only [hg182, hg183, hg184, sB, reduceIte])) ?_
            iterate 4 refine And.intro rfl ?_
            exact Le.trans (Le.rep (t := 53) rfl (RepLe.fr rfl (FrLe.tst2 (by simp only [hg182, hg183, hg184, sB, reduceIte])))) (Le.keep (live := [4, 7, 9, 53]) (names := [0, 8, 48, 49, 50]) (nx := 320) rfl)
          · have hg184 : ((r112.at_.getD p3.toNat 0) == 0) = true := hg184
            refine And.intro rfl ?_
            exact Le.trans (Le.rep (t := 53) rfl (RepLe.fr rfl (FrLe.tst (by simp only [hg182, hg183, hg184, sB, reduceIte])))) (Le.keep (live := [4, 7, 9, 53]) (names := [0, 8, 48, 49, 50]) (nx := 320) rfl)
        · have hg183 : (decide (p3 ≥ (p0.Events.length : Int))) = true := hg183
          iterate 3 refine And.intro rfl ?_
          exact Le.trans (Le.rep (t := 53) rfl (RepLe.fr rfl (FrLe.tst (by simp only [hg182, hg183, sB, reduceIte])))) (Le.keep (live := [4, 7, 9, 53]) (names := [0, 8, 48, 49, 50]) (nx := 320) rfl)
      · have hg182 : (decide (p3 < 0)) = true := hg182
        iterate 5 refine And.intro rfl ?_
        exact Le.trans (Le.rep (t := 53) rfl (RepLe.fr rfl (FrLe.tst (by simp only [hg182, sB, reduceIte])))) (Le.keep (live := [4, 7, 9, 53]) (names := [0, 8, 48, 49, 50]) (nx := 320) rfl)
    refine CWP.cond (And.intro (fun hc => ?_) (fun hc => ?_))
    · have h := ite_t h hc
      refine CWP.seq ?_
      refine CWP.regionT ⟨[(8, .raw (.slice none 0 0))], [], 328⟩ ?_ ?_
      · exact Le.keep (live := [8]) (names := []) (nx := 328) rfl
      refine CWP.weaken (s' := ⟨[(8, .own 0 1 0 (([] : List Int).length))], [(0, .li 1 cI 0 ([] : List Int))], 1⟩) (Le.trans (Le.nilOwn (t := 8) (sz := 1) (f := fun j => cI (([] : List Int).getD j 0)) rfl (by decide)) (Le.ren [(0, 328)] rfl ⟨rfl, trivial⟩ ⟨⟨_, rfl, rfl⟩, trivial⟩)) ?_
      refine CWP.ret ?_
      have e := Option.some.inj h
      subst e
      exact ⟨rfl, ⟨⟨_, rfl, rfl⟩, trivial⟩, trivial⟩
    · have h := ite_f h hc
      refine CWP.skip ?_
      refine CWP.seq ?_
      obtain ⟨r115, hr115, h⟩ := Option.bind_eq_some_iff.1 h
      obtain ⟨r116, hr116, h⟩ := Option.bind_eq_some_iff.1 h
      refine CWP.regionT ⟨[(4, .ptr 0 0), (7, .ptr 8 0), (9, .ptr 48 0), (10, .ptr 344 0)], [(0, .box (api_Shape.cs p0)), (8, .box [I p3]), (48, .box (hb_log.co r112 49 50)), (49, .li 1 cI 0 r112.at_), (50, .mapI r112.in_), (336, .ml cB false r116), (344, .box [.own 336 1 0 r116.length])], 360⟩ ?_ ?_
      · refine FC.semT rfl rfl rfl (Nat.le_refl _) (FC.args (FrLes.cons (FrLe.fpt (fun i hi => match i, hi with | 0, _ => FrLe.refl _ | 1, _ => FrLe.refl _ | 2, _ => FrLe.refl _ | 3, _ => FrLe.refl _ | 4, _ => FrLe.refl _ | 5, _ => FrLe.refl _ | _ + 6, h => absurd h (by simp))) (FrLes.nil)) (c27_fp59 hr115)) (Or.inr (Or.inr rfl)) ?_
        refine ex_refl ?_
        refine FC.semT rfl rfl rfl (Nat.le_refl _) (c26 hr116) (Or.inr (Or.inr rfl)) ?_
        refine ex_refl ?_
        refine SemOp.ofT ?_
        refine ex_refl ?_
        exact Le.keep (live := [4, 7, 9, 10]) (names := [0, 8, 48, 49, 50, 336, 344]) (nx := 360) rfl
      refine CWP.seq ?_
      refine CWP.regionT ⟨[(4, .ptr 0 0), (7, .ptr 8 0), (9, .ptr 48 0), (10, .ptr 344 0), (11, .ptr 360 0)], [(0, .box (api_Shape.cs p0)), (8, .box [I p3]), (48, .box (hb_log.co r112 49 50)), (49, .li 1 cI 0 r112.at_), (50, .mapI r112.in_), (336, .ml cB false r116), (344, .box [.own 336 1 0 r116.length]), (360, .box [.raw (.slice none 0 0)])], 368⟩ ?_ ?_
      · exact Le.keep (live := [4, 7, 9, 10, 11]) (names := [0, 8, 48, 49, 50, 336, 344, 360]) (nx := 368) rfl
      refine CWP.seq ?_
      refine CWP.seq ?_
      refine CWP.regionT ⟨[(4, .ptr 0 0), (7, .ptr 8 0), (9, .ptr 48 0), (10, .ptr 344 0), (11, .ptr 360 0), (58, api_Event.sl p0.Events), (59, I (p0.Events.length : Int)), (60, I 0)], [(0, .box (api_Shape.cs p0)), (8, .box [I p3]), (48, .box (hb_log.co r112 49 50)), (49, .li 1 cI 0 r112.at_), (50, .mapI r112.in_), (336, .ml cB false r116), (344, .box [.own 336 1 0 r116.length]), (360, .box [.raw (.slice none 0 0)])], 400⟩ ?_ ?_
      · exact Le.keep (live := [4, 7, 9, 10, 11, 58, 59, 60]) (names := [0, 8, 48, 49, 50, 336, 344, 360]) (nx := 400) rfl
      generalize hn159 : l11_3 n n p0 p3 r112 r116 ([] : List Int) p0.Events (p0.Events.length : Int) 0 = o159 at h
      rcases o159 with _ | o159
      · cases h
      refine CWP.weaken (s' := ⟨[(4, .ptr 0 0), (7, .ptr 1 0), (9, .ptr 2 0), (10, .ptr 5 0), (11, .ptr 7 0), (58, api_Event.sl p0.Events), (59, I (p0.Events.length : Int)), (60, I 0)], [(0, .box (api_Shape.cs p0)), (1, .box [I p3]), (2, .box (hb_log.co r112 3 4)), (3, .li 1 cI 0 r112.at_), (4, .mapI r112.in_), (5, .box [.own 6 1 0 r116.length]), (6, .ml cB false r116), (7, .box [.own 8 1 0 (([] : List Int).length)]), (8, .li 1 cI 0 ([] : List Int))], 9⟩) (Le.trans (Le.nilBox (x := 360) (i := 0) (sz := 1) (f := fun j => cI (([] : List Int).getD j 0)) rfl rfl (by decide) rfl) (Le.ren [(0, 0), (1, 8), (2, 48), (3, 49), (4, 50), (5, 344), (6, 336), (7, 360), (8, 400)] rfl ⟨rfl, rfl, rfl, rfl, rfl, rfl, rfl, rfl, trivial⟩ ⟨⟨_, rfl, rfl⟩, ⟨_, rfl, rfl⟩, ⟨_, rfl, rfl⟩, ⟨_, rfl, rfl⟩, ⟨_, rfl, rfl⟩, ⟨_, rfl, rfl⟩, ⟨_, rfl, rfl⟩, ⟨_, rfl, rfl⟩, ⟨_, rfl, rfl⟩, trivial⟩)) ?_
      refine t11_3 hn159 ?_
      · intro b0_160 b1_160 b3_160 e
        subst e
        dsimp only at h
        refine CWP.seq ?_
        refine CWP.regionT ⟨[(11, .ptr 3 0), (14, .fn (.func 28) [] [.ptr 3 0, .ptr 1 0, .ptr 0 0])], [(0, .box [I b0_160]), (1, .box [.own 2 1 0 b1_160.length]), (2, .ml cB false b1_160), (3, .box [.own 4 1 0 b3_160.length]), (4, .li 1 cI 0 b3_160)], 21⟩ ?_ ?_
        · exact Le.keep (live := [11, 14]) (names := [0, 1, 2, 3, 4]) (nx := 21) rfl
        refine CWP.seq ?_
        refine CWP.regionT ⟨[(11, .ptr 3 0), (14, .fn (.func 28) [] [.ptr 3 0, .ptr 1 0, .ptr 0 0]), (15, .raw (.slice none 0 0))], [(0, .box [I b0_160]), (1, .box [.own 2 1 0 b1_160.length]), (2, .ml cB false b1_160), (3, .box [.own 4 1 0 b3_160.length]), (4, .li 1 cI 0 b3_160)], 29⟩ ?_ ?_
        · exact Le.keep (live := [11, 14, 15]) (names := [0, 1, 2, 3, 4]) (nx := 29) rfl
        refine CWP.seq ?_
        refine CWP.seq ?_
        obtain ⟨hs161, h⟩ := ite_some h
        refine CWP.regionT ⟨[(14, .fn (.func 28) [] [.ptr 3 0, .ptr 1 0, .ptr 0 0]), (15, .raw (.slice none 0 0)), (114, .own 29 1 0 ((([(-1)] : List Int) ++ b3_160).length)), (115, I ((1 + b3_160.length) : Int)), (116, I 0)], [(0, .box [I b0_160]), (1, .box [.own 2 1 0 b1_160.length]), (2, .ml cB false b1_160), (3, .box [.own 4 1 0 b3_160.length]), (4, .li 1 cI 0 b3_160), (29, .li 1 cI 0 (([(-1)] : List Int) ++ b3_160))], 69⟩ ?_ ?_
        · refine SemOp.ofT ?_
          refine ex_arr ([(-1)] : List Int) (x := 29) (sz := 1) (n := 1) (cell := cI) (d := 0) rfl (by intro j c hj hc; match j, hj with | 0, _ => (match c, hc with | 0, _ => rfl | _ + 1, h => exact absurd h (by omega)) | _ + 1, h => exact absurd h (by omega)) ?_
          refine SemOp.ofT ?_
          refine And.intro ⟨Nat.le_refl _, hs161, Nat.le_refl _⟩ ?_
          refine ex_arr (([(-1)] : List Int) ++ b3_160) (x := 29) (cell := cI) (d := 0) rfl (li_ap rfl rfl) ?_
          exact Le.trans (Le.list (x := 29) rfl (cell := cI) (d := 0) (l := ([(-1)] : List Int) ++ b3_160) (len_app (l := ([(-1)] : List Int)) (k := b3_160) (n := 1) (m := b3_160.length) rfl rfl) (fun _ _ _ _ => rfl)) (Le.trans (Le.rep (t := 114) rfl (RepLe.ownLen (len_app (l := ([(-1)] : List Int)) (k := b3_160) (n := 1) (m := b3_160.length) rfl rfl).symm)) (Le.keep (live := [14, 15, 114, 115, 116]) (names := [0, 1, 2, 3, 4, 29]) (nx := 69) rfl))
        generalize hn180 : l11_6 n n b3_160 b1_160 b0_160 ([] : List Int) (([(-1)] : List Int) ++ b3_160) ((1 + b3_160.length) : Int) 0 = o180 at h
        rcases o180 with _ | o180
        · cases h
        refine CWP.weaken (s' := ⟨[(14, .fn (.func 28) [] [.ptr 0 0, .ptr 2 0, .ptr 4 0]), (15, .own 5 1 0 (([] : List Int).length)), (114, .own 6 1 0 ((([(-1)] : List Int) ++ b3_160).length)), (115, I ((1 + b3_160.length) : Int)), (116, I 0)], [(0, .box [.own 1 1 0 b3_160.length]), (1, .li 1 cI 0 b3_160), (2, .box [.own 3 1 0 b1_160.length]), (3, .ml cB false b1_160), (4, .box [I b0_160]), (5, .li 1 cI 0 ([] : List Int)), (6, .li 1 cI 0 (([(-1)] : List Int) ++ b3_160))], 7⟩) (Le.trans (Le.nilOwn (t := 15) (sz := 1) (f := fun j => cI (([] : List Int).getD j 0)) rfl (by decide)) (Le.ren [(0, 3), (1, 4), (2, 1), (3, 2), (4, 0), (5, 69), (6, 29)] rfl ⟨rfl, rfl, rfl, rfl, rfl, trivial⟩ ⟨⟨_, rfl, rfl⟩, ⟨_, rfl, rfl⟩, ⟨_, rfl, rfl⟩, ⟨_, rfl, rfl⟩, ⟨_, rfl, rfl⟩, ⟨_, rfl, rfl⟩, ⟨_, rfl, rfl⟩, trivial⟩)) ?_
        refine t11_6 hn180 ?_
        · intro b0_181 e
          subst e
          dsimp only at h
          refine CWP.seq ?_
          refine CWP.regionT ⟨[(8, .own 0 1 0 b0_181.length)], [(0, .li 1 cI 0 b0_181)], 17⟩ ?_ ?_
          · exact Le.keep (live := [8]) (names := [0]) (nx := 17) rfl
          refine CWP.weaken (s' := ⟨[(8, .own 0 1 0 b0_181.length)], [(0, .li 1 cI 0 b0_181)], 1⟩) (Le.keep (live := [8]) (names := [0]) (nx := 1) rfl) ?_
          refine CWP.ret ?_
          have e := Option.some.inj h
          subst e
          exact ⟨rfl, ⟨⟨_, rfl, rfl⟩, trivial⟩, trivial⟩
theorem c11 {n : Nat} {p0 : api_Shape} {p1 : List api_Decl} {p2 : List api_Entry} {p3 : Int} {r : List Int} (h : s11 n p0 p1 p2 p3 = some r) : FC Try.prog 11 [.agg (api_Shape.cs p0), api_Decl.sl p1, api_Entry.sl p2, I p3] (.own 0 1 0 r.length) [(0, .li 1 cI 0 r)] true := FC.new rfl rfl (RC.ofE (st := []) (r := .own 0 1 0 r.length) (st' := [(0, .li 1 cI 0 r)]) (pins := []) 0 [(0, 0)] (fn := Try.f11) (cc := code11) (res := .one 8) (by kernel_rfl) (by kernel_rfl) tr11 (by kernel_rfl) (Nat.le_of_ble_eq_true rfl) rfl rfl (fun β => wf11 h)) rfl ⟨(fun _ _ _ _ => rfl), trivial⟩
def code15_1 : CCode :=
 (.block 0
  (.loop
  (.seq
   (.seq
   (.region [⟨(some 11), (.mv (.tmp 5)), none⟩,
    ⟨(some 12), (.mv (.tmp 0)), none⟩,
    ⟨(some 13), (.len 1 (.tmp 12)), none⟩,
    ⟨(some 14), (.bin 0 .lss (.tmp 11) (.tmp 13)), none⟩] none)
   (.cond (.tmp 14)
    .skip
    (.exit 0)))
   (.seq
   (.block 1
    (.seq
    (.region [⟨(some 17), (.mv (.tmp 0)), none⟩,
     ⟨(some 18), (.mv (.tmp 5)), none⟩,
     ⟨(some 19), (.idx 1 (.tmp 17) (.tmp 18)), none⟩,
     ⟨(some 20), (.load false 1 (.tmp 19)), none⟩,
     ⟨(some 21), (.mv (.tmp 1)), none⟩,
     ⟨(some 22), (.mv (.tmp 5)), none⟩,
     ⟨(some 23), (.idx 1 (.tmp 21) (.tmp 22)), none⟩,
     ⟨(some 24), (.load false 1 (.tmp 23)), none⟩,
     ⟨(some 25), (.bin 0 .neq (.tmp 20) (.tmp 24)), none⟩] (some (.take 0 (.take 1 (.take 2 (.take 3 (.take 4 (.take 5 (.take 6 (.take 7 (.take 8 .done)))))))))))
    (.cond (.tmp 25)
     (.seq
     (.region [⟨(some 4), (.mv (.const (.bool false))), none⟩] none)
     .ret)
     .skip)))
   (.region [⟨(some 15), (.mv (.tmp 5)), none⟩,
    ⟨(some 16), (.bin 0 .add (.tmp 15) (.const (.int .i64 1))), none⟩,
    ⟨(some 5), (.mv (.tmp 16)), none⟩] none)))))
def code15 : CCode :=
 (.seq
  (.region [⟨(some 4), (.mv (.const (.bool false))), none⟩] none)
  (.seq
  (.seq
   (.region [⟨(some 6), (.mv (.tmp 0)), none⟩,
    ⟨(some 7), (.len 1 (.tmp 6)), none⟩,
    ⟨(some 8), (.mv (.tmp 1)), none⟩,
    ⟨(some 9), (.len 1 (.tmp 8)), none⟩,
    ⟨(some 10), (.bin 0 .neq (.tmp 7) (.tmp 9)), none⟩] none)
   (.cond (.tmp 10)
   (.seq
    (.region [⟨(some 4), (.mv (.const (.bool false))), none⟩] none)
    .ret)
   .skip))
  (.seq
   (.seq
   (.region [⟨(some 5), (.mv (.const (.int .i64 0))), none⟩] none)
   code15_1)
   (.seq
   (.region [⟨(some 4), (.mv (.const (.bool true))), none⟩] none)
   .ret))))
theorem tr15 : (Try.f15.body).bind (trCode Try.prog Try.f15.ntmps) = some code15 := by kernel_rfl
inductive O15_1 where
  | ok
  | ret (r : Bool)
def l15_1 (n : Nat) : Nat → (List Int) → (List Int) → Int → Option O15_1
  | 0, _, _, _ => none
  | m + 1, v0, v1, v5 =>
    if decide (v5 < (v0.length : Int)) then
      if 0 ≤ v5 ∧ v5 < (v0.length : Int) then
        if 0 ≤ v5 ∧ v5 < (v1.length : Int) then
          if (v0.getD v5.toNat 0) != (v1.getD v5.toNat 0) then
            some (.ret false)
          else
            l15_1 n m v0 v1 (w64 (v5 + 1))
        else none
      else none
    else
      some (.ok)
def s15 (n : Nat) (p0 : List Int) (p1 : List Int) : Option Bool :=
  if (p0.length : Int) != (p1.length : Int) then
    some false
  else
    (match l15_1 n n p0 p1 0 with
    | none => none
    | some (.ok) =>
      some true
    | some (.ret r) =>
      some r)
def E15 (r : Bool) (s : AS) : Prop := resOf s (.one 4) = some (.tst r)
theorem t15_1 {n fuel : Nat} {v0 : List Int} {v1 : List Int} {v5 : Int} {out : O15_1} (h : l15_1 n fuel v0 v1 v5 = some out) {Q : Ex → AS → Prop} (hok : out = .ok → Q .normal ⟨[], [], 0⟩) (hret : ∀ r, out = .ret r → ∀ s, E15 r s → Q .ret s) : CWP Try.prog Try.f15.ntmps code15_1 Q ⟨[(0, sI v0), (1, sI v1), (5, I v5)], [], 0⟩ := by
  refine CWP.block ?_
  refine CWP.loop (fun k s => ∃ v0 : List Int, ∃ v1 : List Int, ∃ v5 : Int, s = ⟨[(0, sI v0), (1, sI v1), (5, I v5)], [], 0⟩ ∧ l15_1 n k v0 v1 v5 = some out) fuel ⟨v0, v1, v5, rfl, h⟩ ?_
  clear h
  rintro k s ⟨v0, v1, v5, rfl, h⟩
  cases k with
  | zero => cases h
  | succ m =>
    rw [l15_1] at h
    refine CWP.seq ?_
    refine CWP.seq ?_
    refine CWP.regionT ⟨[(0, sI v0), (1, sI v1), (5, I v5), (14, .tst (decide (v5 < (v0.length : Int))))], [], 32⟩ ?_ ?_
    · exact Le.keep (live := [0, 1, 5, 14]) (names := []) (nx := 32) rfl
    refine CWP.cond (And.intro (fun hc => ?_) (fun hc => ?_))
    · have h := ite_t h hc
      refine CWP.skip ?_
      refine CWP.seq ?_
      refine CWP.block ?_
      refine CWP.seq ?_
      obtain ⟨hs188, h⟩ := ite_some h
      obtain ⟨hs189, h⟩ := ite_some h
      refine CWP.drawT [] [] ⟨[(0, sI v0), (1, sI v1), (5, I v5), (25, .tst ((v0.getD v5.toNat 0) != (v1.getD v5.toNat 0)))], [], 104⟩ ?_ ?_
      · refine And.intro rfl ?_
        iterate 2 refine And.intro rfl ?_
        refine And.intro hs188 ?_
        iterate 4 refine And.intro rfl ?_
        refine And.intro hs189 ?_
        iterate 2 refine And.intro rfl ?_
        exact Le.keep (live := [0, 1, 5, 25]) (names := []) (nx := 104) rfl
      refine CWP.cond (And.intro (fun hc => ?_) (fun hc => ?_))
      · have h := ite_t h hc
        refine CWP.seq ?_
        refine CWP.regionT ⟨[(4, .raw (.bool false))], [], 112⟩ ?_ ?_
        · exact Le.keep (live := [4]) (names := []) (nx := 112) rfl
        refine CWP.weaken (Le.rep (t := 4) rfl (RepLe.fr rfl (FrLe.tst rfl))) ?_
        refine CWP.ret ?_
        exact hret _ (Option.some.inj h).symm _ rfl
      · have h := ite_f h hc
        refine CWP.skip ?_
        refine CWP.regionT ⟨[(0, sI v0), (1, sI v1), (5, I (w64 (v5 + 1)))], [], 0⟩ ?_ ?_
        · exact Le.trans (Le.keep (live := [0, 1, 5]) (names := []) (nx := 128) rfl) (Le.keep (live := [0, 1, 5]) (names := []) (nx := 0) rfl)
        exact ⟨m, Nat.lt_succ_self m, _, _, _, rfl, h⟩
    · have h := ite_f h hc
      refine CWP.exitL (Le.keep (live := []) (names := []) (nx := 0) rfl) (s' := ⟨[], [], 0⟩) ?_
      exact hok (Option.some.inj h).symm
theorem wf15 {n : Nat} {p0 : List Int} {p1 : List Int} {r : Bool} (h : s15 n p0 p1 = some r) : CWP Try.prog Try.f15.ntmps code15 (AtE (E15 r)) ⟨[(0, sI p0), (1, sI p1)], [], 0⟩ := by
  unfold s15 at h
  refine CWP.seq ?_
  refine CWP.regionT ⟨[(0, sI p0), (1, sI p1)], [], 8⟩ ?_ ?_
  · exact Le.keep (live := [0, 1]) (names := []) (nx := 8) rfl
  refine CWP.seq ?_
  refine CWP.seq ?_
  refine CWP.regionT ⟨[(0, sI p0), (1, sI p1), (10, .tst ((p0.length : Int) != (p1.length : Int)))], [], 48⟩ ?_ ?_
  · exact Le.keep (live := [0, 1, 10]) (names := []) (nx := 48) rfl
  refine CWP.cond (And.intro (fun hc => ?_) (fun hc => ?_))
  · have h := ite_t h hc
    refine CWP.seq ?_
    refine CWP.regionT ⟨[(4, .raw (.bool false))], [], 56⟩ ?_ ?_
    · exact Le.keep (live := [4]) (names := []) (nx := 56) rfl
    refine CWP.weaken (Le.rep (t := 4) rfl (RepLe.fr rfl (FrLe.tst rfl))) ?_
    refine CWP.ret ?_
    have e := Option.some.inj h
    subst e
    exact rfl
  · have h := ite_f h hc
    refine CWP.skip ?_
    refine CWP.seq ?_
    refine CWP.seq ?_
    refine CWP.regionT ⟨[(0, sI p0), (1, sI p1), (5, I 0)], [], 56⟩ ?_ ?_
    · exact Le.keep (live := [0, 1, 5]) (names := []) (nx := 56) rfl
    generalize hn190 : l15_1 n n p0 p1 0 = o190 at h
    rcases o190 with _ | o190
    · cases h
    refine CWP.weaken (s' := ⟨[(0, sI p0), (1, sI p1), (5, I 0)], [], 0⟩) (Le.keep (live := [0, 1, 5]) (names := []) (nx := 0) rfl) ?_
    refine t15_1 hn190 ?_ ?_
    · intro e
      subst e
      dsimp only at h
      refine CWP.seq ?_
      refine CWP.regionT ⟨[(4, .raw (.bool true))], [], 8⟩ ?_ ?_
      · exact Le.keep (live := [4]) (names := []) (nx := 8) rfl
      refine CWP.weaken (Le.rep (t := 4) rfl (RepLe.fr rfl (FrLe.tst rfl))) ?_
      refine CWP.ret ?_
      have e := Option.some.inj h
      subst e
      exact rfl
    · intro r e s hs
      subst e
      dsimp only at h
      have e := Option.some.inj h
      subst e
      exact hs
theorem c15 {n : Nat} {p0 : List Int} {p1 : List Int} {r : Bool} (h : s15 n p0 p1 = some r) : FC Try.prog 15 [sI p0, sI p1] (.tst r) [] false := FC.pureE (fn := Try.f15) (cc := code15) (res := .one 4) (by kernel_rfl) (by kernel_rfl) tr15 (by kernel_rfl) (Nat.le_of_ble_eq_true rfl) rfl (wf15 h)
def code16 : CCode :=
 (.seq
  (.region [⟨(some 3), (.box 2 (.tmp 0)), none⟩,
   ⟨(some 6), (.mv (.const (.slice none 0 0))), none⟩] none)
  (.seq
  (.region [⟨(some 8), (.load true 2 (.tmp 3)), none⟩,
   ⟨(some 9), (.mv (.tmp 1)), none⟩,
   ⟨(some 10), (.mv (.tmp 2)), none⟩,
   ⟨(some 11), (.call (.func 25) [(.tmp 8), (.tmp 9), (.tmp 10)]), none⟩,
   ⟨(some 7), (.mv (.tmp 11)), none⟩] none)
  (.seq
   (.seq
   (.region [⟨(some 12), (.mv (.tmp 7)), none⟩,
    ⟨(some 13), (.bin 2 .eql (.tmp 12) (.const (.pointer none))), none⟩] none)
   (.cond (.tmp 13)
    (.seq
    (.region [⟨(some 6), (.mv (.const (.slice none 0 0))), none⟩] none)
    .ret)
    .skip))
   (.seq
   (.region [⟨(some 14), (.mv (.tmp 7)), none⟩,
    ⟨(some 15), (.call (.func 27) [(.tmp 14)]), none⟩,
    ⟨(some 16), (.call (.func 26) [(.tmp 15)]), none⟩,
    ⟨(some 6), (.mv (.tmp 16)), none⟩] none)
   .ret))))
theorem tr16 : (Try.f16.body).bind (trCode Try.prog Try.f16.ntmps) = some code16 := by kernel_rfl
def s16 (n : Nat) (p0 : api_Shape) (p1 : List api_Decl) (p2 : List api_Entry) : Option (List (List Bool)) :=
  (s25 n p0 p1 p2).bind fun r193 =>
  (match r193 with
  | none =>
    some ([] : List (List Bool))
  | some r193 =>
    (s27_fp59 n r193).bind fun r194 =>
    (s26 n r194).bind fun r195 =>
    some r195)
def E16 (r : List (List Bool)) (s : AS) : Prop := resOf s (.one 6) = some (.own 0 1 0 r.length) ∧ EndSt [(0, 0)] s.st [(0, .ml cB false r)] ∧ PinEnd (fun _ => none) s.st []
theorem wf16 {n : Nat} {p0 : api_Shape} {p1 : List api_Decl} {p2 : List api_Entry} {r : List (List Bool)} (h : s16 n p0 p1 p2 = some r) : CWP Try.prog Try.f16.ntmps code16 (AtE (E16 r)) ⟨[(0, .agg (api_Shape.cs p0)), (1, api_Decl.sl p1), (2, api_Entry.sl p2)], [], 0⟩ := by
  unfold s16 at h
  refine CWP.seq ?_
  refine CWP.regionT ⟨[(1, api_Decl.sl p1), (2, api_Entry.sl p2), (3, .ptr 0 0)], [(0, .box (api_Shape.cs p0))], 16⟩ ?_ ?_
  · exact Le.keep (live := [1, 2, 3]) (names := [0]) (nx := 16) rfl
  refine CWP.seq ?_
  obtain ⟨r193, hr193, h⟩ := Option.bind_eq_some_iff.1 h
  rcases r193 with _ | r193
  · dsimp only at h
    refine CWP.regionT ⟨[(7, .raw (.pointer none))], [], 56⟩ ?_ ?_
    · refine FC.semT rfl rfl rfl trivial (c25n hr193) (Or.inl rfl) ?_
      refine ex_refl ?_
      exact Le.keep (live := [7]) (names := []) (nx := 56) rfl
    refine CWP.seq ?_
    refine CWP.seq ?_
    refine CWP.regionT ⟨[(7, .raw (.pointer none)), (13, .raw (.bool true))], [], 72⟩ ?_ ?_
    · exact Le.keep (live := [7, 13]) (names := []) (nx := 72) rfl
    refine CWP.cond ?_
    refine CWP.seq ?_
    refine CWP.regionT ⟨[(6, .raw (.slice none 0 0))], [], 80⟩ ?_ ?_
    · exact Le.keep (live := [6]) (names := []) (nx := 80) rfl
    refine CWP.weaken (s' := ⟨[(6, .own 0 1 0 (([] : List (List Bool)).length))], [(0, .ml cB false ([] : List (List Bool)))], 1⟩) (Le.trans (Le.nilMat (t := 6) rfl (fun _ _ => .any) (fun _ => 0) trivial) (Le.trans (Le.mat (x := 80) (n' := ([] : List (List Bool)).length) (len' := fun j => (([] : List (List Bool)).getD j []).length) (f' := fun j c => cB ((([] : List (List Bool)).getD j []).getD c false) 0) rfl rfl (fun j hj => absurd hj (Nat.not_lt_zero j)) (fun j _ hj _ => absurd hj (Nat.not_lt_zero j))) (Le.ren [(0, 80)] rfl ⟨rfl, trivial⟩ ⟨⟨_, rfl, rfl⟩, trivial⟩))) ?_
    refine CWP.ret ?_
    have e := Option.some.inj h
    subst e
    exact ⟨rfl, ⟨⟨_, rfl, rfl⟩, trivial⟩, trivial⟩
  · dsimp only at h
    refine CWP.regionT ⟨[(7, .ptr 40 0)], [(40, .box (hb_log.co r193 41 42)), (41, .li 1 cI 0 r193.at_), (42, .mapI r193.in_)], 56⟩ ?_ ?_
    · refine FC.semT rfl rfl rfl trivial (c25 hr193) (Or.inl rfl) ?_
      refine ex_refl ?_
      exact Le.keep (live := [7]) (names := [40, 41, 42]) (nx := 56) rfl
    refine CWP.seq ?_
    refine CWP.seq ?_
    refine CWP.regionT ⟨[(7, .ptr 40 0), (13, .raw (.bool false))], [(40, .box (hb_log.co r193 41 42)), (41, .li 1 cI 0 r193.at_), (42, .mapI r193.in_)], 72⟩ ?_ ?_
    · exact Le.keep (live := [7, 13]) (names := [40, 41, 42]) (nx := 72) rfl
    refine CWP.cond ?_
    refine CWP.skip ?_
    refine CWP.seq ?_
    obtain ⟨r194, hr194, h⟩ := Option.bind_eq_some_iff.1 h
    obtain ⟨r195, hr195, h⟩ := Option.bind_eq_some_iff.1 h
    refine CWP.regionT ⟨[(6, .own 88 1 0 r195.length)], [(88, .ml cB false r195)], 104⟩ ?_ ?_
    · refine FC.semT rfl rfl rfl (Nat.le_refl _) (FC.args (FrLes.cons (FrLe.fpt (fun i hi => match i, hi with | 0, _ => FrLe.refl _ | 1, _ => FrLe.refl _ | 2, _ => FrLe.refl _ | 3, _ => FrLe.refl _ | 4, _ => FrLe.refl _ | 5, _ => FrLe.refl _ | _ + 6, h => absurd h (by simp))) (FrLes.nil)) (c27_fp59 hr194)) (Or.inr (Or.inr rfl)) ?_
      refine ex_refl ?_
      refine FC.semT rfl rfl rfl (Nat.le_refl _) (c26 hr195) (Or.inr (Or.inr rfl)) ?_
      refine ex_refl ?_
      exact Le.keep (live := [6]) (names := [88]) (nx := 104) rfl
    refine CWP.weaken (s' := ⟨[(6, .own 0 1 0 r195.length)], [(0, .ml cB false r195)], 1⟩) (Le.ren [(0, 88)] rfl ⟨rfl, trivial⟩ ⟨⟨_, rfl, rfl⟩, trivial⟩) ?_
    refine CWP.ret ?_
    have e := Option.some.inj h
    subst e
    exact ⟨rfl, ⟨⟨_, rfl, rfl⟩, trivial⟩, trivial⟩
theorem c16 {n : Nat} {p0 : api_Shape} {p1 : List api_Decl} {p2 : List api_Entry} {r : List (List Bool)} (h : s16 n p0 p1 p2 = some r) : FC Try.prog 16 [.agg (api_Shape.cs p0), api_Decl.sl p1, api_Entry.sl p2] (.own 0 1 0 r.length) [(0, .ml cB false r)] true := FC.new rfl rfl (RC.ofE (st := []) (r := .own 0 1 0 r.length) (st' := [(0, .ml cB false r)]) (pins := []) 0 [(0, 0)] (fn := Try.f16) (cc := code16) (res := .one 6) (by kernel_rfl) (by kernel_rfl) tr16 (by kernel_rfl) (Nat.le_of_ble_eq_true rfl) rfl rfl (fun β => wf16 h)) rfl ⟨(fun _ _ _ _ => rfl), trivial⟩
def code10_1 : CCode :=
 (.block 0
  (.loop
  (.seq
   (.seq
   (.region [⟨(some 18), (.mv (.tmp 4)), none⟩,
    ⟨(some 19), (.bin 0 .lss (.tmp 18) (.const (.int .i64 6))), none⟩] none)
   (.cond (.tmp 19)
    .skip
    (.exit 0)))
   (.seq
   (.block 1
    (.region [⟨(some 22), (.mv (.tmp 3)), none⟩,
     ⟨(some 23), (.mv (.tmp 4)), none⟩,
     ⟨(some 24), (.build [(.int .i64 0), (.int .i64 0), (.int .i64 0)] [(0, 1, (.tmp 23)), (1, 1, (.const (.int .i64 (-1)))), (2, 1, (.const (.int .i64 (-1))))]), none⟩,
     ⟨(some 25), (.lit 0 3 1 [(0, (.tmp 24))]), none⟩,
     ⟨(some 26), (.app 3 24 (.tmp 22) (.tmp 25)), none⟩,
     ⟨(some 3), (.mv (.tmp 26)), none⟩] none))
   (.region [⟨(some 20), (.mv (.tmp 4)), none⟩,
    ⟨(some 21), (.bin 0 .add (.tmp 20) (.const (.int .i64 1))), none⟩,
    ⟨(some 4), (.mv (.tmp 21)), none⟩] none)))))
def code10 : CCode :=
 (.seq
  (.region [⟨(some 0), (.mv (.const (.bool false))), none⟩] none)
  (.seq
  (.region [⟨(some 5), (.lit 0 1 2 [(0, (.const (.int .i64 (-1)))), (1, (.const (.int .i64 0)))]), none⟩,
   ⟨(some 6), (.build [(.int .i64 0), (.int .i64 0), (.int .i64 0), (.int .i64 0)] [(2, 1, (.const (.int .i64 11))), (3, 1, (.const (.int .i64 1)))]), none⟩,
   ⟨(some 7), (.build [(.int .i64 0), (.int .i64 0), (.int .i64 0), (.int .i64 0)] [(1, 1, (.const (.int .i64 1))), (2, 1, (.const (.int .i64 7))), (3, 1, (.const (.int .i64 1)))]), none⟩,
   ⟨(some 8), (.build [(.int .i64 0), (.int .i64 0), (.int .i64 0), (.int .i64 0)] [(1, 1, (.const (.int .i64 2))), (2, 1, (.const (.int .i64 2)))]), none⟩,
   ⟨(some 9), (.build [(.int .i64 0), (.int .i64 0), (.int .i64 0), (.int .i64 0)] [(1, 1, (.const (.int .i64 3))), (2, 1, (.const (.int .i64 8))), (3, 1, (.const (.int .i64 1)))]), none⟩,
   ⟨(some 10), (.build [(.int .i64 0), (.int .i64 0), (.int .i64 0), (.int .i64 0)] [(0, 1, (.const (.int .i64 1))), (2, 1, (.const (.int .i64 7))), (3, 1, (.const (.int .i64 1)))]), none⟩,
   ⟨(some 11), (.build [(.int .i64 0), (.int .i64 0), (.int .i64 0), (.int .i64 0)] [(0, 1, (.const (.int .i64 1))), (1, 1, (.const (.int .i64 1))), (2, 1, (.const (.int .i64 1)))]), none⟩,
   ⟨(some 12), (.lit 0 4 6 [(0, (.tmp 6)), (1, (.tmp 7)), (2, (.tmp 8)), (3, (.tmp 9)), (4, (.tmp 10)), (5, (.tmp 11))]), none⟩,
   ⟨(some 13), (.build [(.slice none 0 0), (.slice none 0 0)] [(1, 1, (.tmp 5)), (0, 1, (.tmp 12))]), none⟩,
   ⟨(some 1), (.alloc [(.slice none 0 0), (.slice none 0 0)]), none⟩,
   ⟨none, (.store 2 (.tmp 1) (.tmp 13)), none⟩] none)
  (.seq
   (.region [⟨(some 14), (.build [(.int .i64 0), (.string ⟨#[]⟩), (.int .i64 0), (.int .i64 0)] [(0, 1, (.const (.int .i64 1))), (1, 1, (.const (.string ⟨#[120]⟩)))]), none⟩,
    ⟨(some 15), (.build [(.int .i64 0), (.string ⟨#[]⟩), (.int .i64 0), (.int .i64 0)] [(0, 1, (.const (.int .i64 3))), (1, 1, (.const (.string ⟨#[109]⟩)))]), none⟩,
    ⟨(some 16), (.lit 0 4 2 [(0, (.tmp 14)), (1, (.tmp 15))]), none⟩,
    ⟨(some 2), (.mv (.tmp 16)), none⟩] none)
   (.seq
   (.region [⟨(some 17), (.lit 0 3 0 []), none⟩,
    ⟨(some 3), (.mv (.tmp 17)), none⟩] none)
   (.seq
    (.seq
    (.region [⟨(some 4), (.mv (.const (.int .i64 0))), none⟩] none)
    code10_1)
    (.seq
    (.region [⟨(some 27), (.load true 2 (.tmp 1)), none⟩,
     ⟨(some 28), (.mv (.tmp 2)), none⟩,
     ⟨(some 29), (.mv (.tmp 3)), none⟩,
     ⟨(some 30), (.call (.func 18) [(.tmp 27), (.tmp 28), (.tmp 29)]), none⟩,
     ⟨(some 31), (.len 1 (.tmp 30)), none⟩,
     ⟨(some 32), (.bin 0 .eql (.tmp 31) (.const (.int .i64 0))), none⟩,
     ⟨(some 33), (.mv (.tmp 32)), none⟩,
     ⟨(some 34), (.load true 2 (.tmp 1)), (some (33, true))⟩,
     ⟨(some 35), (.mv (.tmp 2)), (some (33, true))⟩,
     ⟨(some 36), (.mv (.tmp 3)), (some (33, true))⟩,
     ⟨(some 37), (.call (.func 11) [(.tmp 34), (.tmp 35), (.tmp 36), (.const (.int .i64 5))]), (some (33, true))⟩,
     ⟨(some 38), (.lit 0 1 1 [(0, (.const (.int .i64 2)))]), (some (33, true))⟩,
     ⟨(some 39), (.call (.func 15) [(.tmp 37), (.tmp 38)]), (some (33, true))⟩,
     ⟨(some 40), (.pick (.tmp 33) (.tmp 39) (.const (.bool false))), none⟩,
     ⟨(some 41), (.mv (.tmp 40)), none⟩,
     ⟨(some 42), (.load true 2 (.tmp 1)), (some (41, true))⟩,
     ⟨(some 43), (.mv (.tmp 2)), (some (41, true))⟩,
     ⟨(some 44), (.mv (.tmp 3)), (some (41, true))⟩,
     ⟨(some 45), (.call (.func 16) [(.tmp 42), (.tmp 43), (.tmp 44)]), (some (41, true))⟩,
     ⟨(some 46), (.len 1 (.tmp 45)), (some (41, true))⟩,
     ⟨(some 47), (.bin 0 .eql (.tmp 46) (.const (.int .i64 6))), (some (41, true))⟩,
     ⟨(some 48), (.pick (.tmp 41) (.tmp 47) (.const (.bool false))), none⟩,
     ⟨(some 0), (.mv (.tmp 48)), none⟩] none)
    .ret))))))
theorem tr10 : (Try.f10.body).bind (trCode Try.prog Try.f10.ntmps) = some code10 := by kernel_rfl
inductive O10_1 where
  | ok (b0 : api_Shape) (b3 : List api_Decl) (b4 : List api_Entry)
def l10_1 (n : Nat) : Nat → api_Shape → (List api_Decl) → (List api_Entry) → Int → Option O10_1
  | 0, _, _, _, _ => none
  | m + 1, b0, b3, b4, v4 =>
    if decide (v4 < 6) then
      if (b4.length + 1) * 24 ≤ 140737488355328 then
        l10_1 n m b0 b3 (b4 ++ ([(⟨v4, (-1), (-1)⟩ : api_Entry)] : List api_Entry)) (w64 (v4 + 1))
      else none
    else
      some (.ok b0 b3 b4)
def s10 (n : Nat) : Option Bool :=
  (match l10_1 n n (⟨([(⟨0, 0, 11, 1⟩ : api_Event), (⟨0, 1, 7, 1⟩ : api_Event), (⟨0, 2, 2, 0⟩ : api_Event), (⟨0, 3, 8, 1⟩ : api_Event), (⟨1, 0, 7, 1⟩ : api_Event), (⟨1, 1, 1, 0⟩ : api_Event)] : List api_Event), ([(-1), 0] : List Int)⟩ : api_Shape) ([(⟨1, (⟨#[120]⟩ : ByteArray), 0, 0⟩ : api_Decl), (⟨3, (⟨#[109]⟩ : ByteArray), 0, 0⟩ : api_Decl)] : List api_Decl) ([] : List api_Entry) 0 with
  | none => none
  | some (.ok b0_13 b3_13 b4_13) =>
    (s18 n b0_13 b3_13 b4_13).bind fun r14 =>
    (if ((r14.length : Int) == 0) then s11 n b0_13 b3_13 b4_13 5 else some default).bind fun r15 =>
    (if ((r14.length : Int) == 0) then s15 n r15 ([2] : List Int) else some false).bind fun r16 =>
    (if (((r14.length : Int) == 0) && r16) then s16 n b0_13 b3_13 b4_13 else some default).bind fun r17 =>
    some ((((r14.length : Int) == 0) && r16) && ((r17.length : Int) == 6)))
def E10 (r : Bool) (s : AS) : Prop := resOf s (.one 0) = some (.tst r)
theorem t10_1 {n fuel : Nat} {b0 : api_Shape} {b3 : List api_Decl} {b4 : List api_Entry} {v4 : Int} {out : O10_1} (h : l10_1 n fuel b0 b3 b4 v4 = some out) {Q : Ex → AS → Prop} (hok : ∀ b0 b3 b4, out = .ok b0 b3 b4 → Q .normal ⟨[(1, .ptr 0 0), (2, .own 3 4 0 b3.length), (3, .own 4 3 0 b4.length)], [(0, .box [.own 1 4 0 b0.Events.length, .own 2 1 0 b0.Starts.length]), (1, .li 4 api_Event.cell default b0.Events), (2, .li 1 cI 0 b0.Starts), (3, .li 4 api_Decl.cell default b3), (4, .li 3 api_Entry.cell default b4)], 5⟩) : CWP Try.prog Try.f10.ntmps code10_1 Q ⟨[(1, .ptr 0 0), (2, .own 3 4 0 b3.length), (3, .own 4 3 0 b4.length), (4, I v4)], [(0, .box [.own 1 4 0 b0.Events.length, .own 2 1 0 b0.Starts.length]), (1, .li 4 api_Event.cell default b0.Events), (2, .li 1 cI 0 b0.Starts), (3, .li 4 api_Decl.cell default b3), (4, .li 3 api_Entry.cell default b4)], 5⟩ := by
  refine CWP.block ?_
  refine CWP.loop (fun k s => ∃ b0 : api_Shape, ∃ b3 : List api_Decl, ∃ b4 : List api_Entry, ∃ v4 : Int, s = ⟨[(1, .ptr 0 0), (2, .own 3 4 0 b3.length), (3, .own 4 3 0 b4.length), (4, I v4)], [(0, .box [.own 1 4 0 b0.Events.length, .own 2 1 0 b0.Starts.length]), (1, .li 4 api_Event.cell default b0.Events), (2, .li 1 cI 0 b0.Starts), (3, .li 4 api_Decl.cell default b3), (4, .li 3 api_Entry.cell default b4)], 5⟩ ∧ l10_1 n k b0 b3 b4 v4 = some out) fuel ⟨b0, b3, b4, v4, rfl, h⟩ ?_
  clear h
  rintro k s ⟨b0, b3, b4, v4, rfl, h⟩
  cases k with
  | zero => cases h
  | succ m =>
    rw [l10_1] at h
    refine CWP.seq ?_
    refine CWP.seq ?_
    refine CWP.regionT ⟨[(1, .ptr 0 0), (2, .own 3 4 0 b3.length), (3, .own 4 3 0 b4.length), (4, I v4), (19, .tst (decide (v4 < 6)))], [(0, .box [.own 1 4 0 b0.Events.length, .own 2 1 0 b0.Starts.length]), (1, .li 4 api_Event.cell default b0.Events), (2, .li 1 cI 0 b0.Starts), (3, .li 4 api_Decl.cell default b3), (4, .li 3 api_Entry.cell default b4)], 21⟩ ?_ ?_
    · exact Le.keep (live := [1, 2, 3, 4, 19]) (names := [0, 1, 2, 3, 4]) (nx := 21) rfl
    refine CWP.cond (And.intro (fun hc => ?_) (fun hc => ?_))
    · have h := ite_t h hc
      refine CWP.skip ?_
      refine CWP.seq ?_
      refine CWP.block ?_
      obtain ⟨hs11, h⟩ := ite_some h
      refine CWP.regionT ⟨[(1, .ptr 0 0), (2, .own 3 4 0 b3.length), (3, .own 4 3 0 ((b4 ++ ([(⟨v4, (-1), (-1)⟩ : api_Entry)] : List api_Entry)).length)), (4, I v4)], [(0, .box [.own 1 4 0 b0.Events.length, .own 2 1 0 b0.Starts.length]), (1, .li 4 api_Event.cell default b0.Events), (2, .li 1 cI 0 b0.Starts), (3, .li 4 api_Decl.cell default b3), (4, .li 3 api_Entry.cell default (b4 ++ ([(⟨v4, (-1), (-1)⟩ : api_Entry)] : List api_Entry)))], 69⟩ ?_ ?_
      · refine SemOp.ofT ?_
        refine ex_arr ([(⟨v4, (-1), (-1)⟩ : api_Entry)] : List api_Entry) (x := 45) (sz := 3) (n := 1) (cell := api_Entry.cell) (d := default) rfl (by intro j c hj hc; match j, hj with | 0, _ => (match c, hc with | 0, _ => rfl | 1, _ => rfl | 2, _ => rfl | _ + 3, h => exact absurd h (by omega)) | _ + 1, h => exact absurd h (by omega)) ?_
        refine SemOp.ofT ?_
        refine And.intro ⟨Nat.le_refl _, hs11, Nat.le_refl _⟩ ?_
        refine ex_arr (b4 ++ ([(⟨v4, (-1), (-1)⟩ : api_Entry)] : List api_Entry)) (x := 4) (cell := api_Entry.cell) (d := default) rfl (li_ap rfl rfl) ?_
        exact Le.trans (Le.list (x := 4) rfl (cell := api_Entry.cell) (d := default) (l := b4 ++ ([(⟨v4, (-1), (-1)⟩ : api_Entry)] : List api_Entry)) (len_app (l := b4) (k := ([(⟨v4, (-1), (-1)⟩ : api_Entry)] : List api_Entry)) (n := b4.length) (m := 1) rfl rfl) (fun _ _ _ _ => rfl)) (Le.trans (Le.rep (t := 3) rfl (RepLe.ownLen (len_app (l := b4) (k := ([(⟨v4, (-1), (-1)⟩ : api_Entry)] : List api_Entry)) (n := b4.length) (m := 1) rfl rfl).symm)) (Le.keep (live := [1, 2, 3, 4]) (names := [0, 1, 2, 3, 4]) (nx := 69) rfl))
      refine CWP.regionT ⟨[(1, .ptr 0 0), (2, .own 3 4 0 b3.length), (3, .own 4 3 0 ((b4 ++ ([(⟨v4, (-1), (-1)⟩ : api_Entry)] : List api_Entry)).length)), (4, I (w64 (v4 + 1)))], [(0, .box [.own 1 4 0 b0.Events.length, .own 2 1 0 b0.Starts.length]), (1, .li 4 api_Event.cell default b0.Events), (2, .li 1 cI 0 b0.Starts), (3, .li 4 api_Decl.cell default b3), (4, .li 3 api_Entry.cell default (b4 ++ ([(⟨v4, (-1), (-1)⟩ : api_Entry)] : List api_Entry)))], 5⟩ ?_ ?_
      · exact Le.trans (Le.keep (live := [1, 2, 3, 4]) (names := [0, 1, 2, 3, 4]) (nx := 93) rfl) (Le.keep (live := [1, 2, 3, 4]) (names := [0, 1, 2, 3, 4]) (nx := 5) rfl)
      exact ⟨m, Nat.lt_succ_self m, _, _, _, _, rfl, h⟩
    · have h := ite_f h hc
      refine CWP.exitL (Le.keep (live := [1, 2, 3]) (names := [0, 1, 2, 3, 4]) (nx := 5) rfl) (s' := ⟨[(1, .ptr 0 0), (2, .own 3 4 0 b3.length), (3, .own 4 3 0 b4.length)], [(0, .box [.own 1 4 0 b0.Events.length, .own 2 1 0 b0.Starts.length]), (1, .li 4 api_Event.cell default b0.Events), (2, .li 1 cI 0 b0.Starts), (3, .li 4 api_Decl.cell default b3), (4, .li 3 api_Entry.cell default b4)], 5⟩) ?_
      exact hok _ _ _ (Option.some.inj h).symm
theorem wf10 {n : Nat} {r : Bool} (h : s10 n = some r) : CWP Try.prog Try.f10.ntmps code10 (AtE (E10 r)) ⟨[], [], 0⟩ := by
  unfold s10 at h
  refine CWP.seq ?_
  refine CWP.regionT ⟨[], [], 8⟩ ?_ ?_
  · exact Le.keep (live := []) (names := []) (nx := 8) rfl
  refine CWP.seq ?_
  refine CWP.regionT ⟨[(1, .ptr 80 0)], [(8, .li 1 cI 0 ([(-1), 0] : List Int)), (64, .li 4 api_Event.cell default ([(⟨0, 0, 11, 1⟩ : api_Event), (⟨0, 1, 7, 1⟩ : api_Event), (⟨0, 2, 2, 0⟩ : api_Event), (⟨0, 3, 8, 1⟩ : api_Event), (⟨1, 0, 7, 1⟩ : api_Event), (⟨1, 1, 1, 0⟩ : api_Event)] : List api_Event)), (80, .box [.own 64 4 0 (([(⟨0, 0, 11, 1⟩ : api_Event), (⟨0, 1, 7, 1⟩ : api_Event), (⟨0, 2, 2, 0⟩ : api_Event), (⟨0, 3, 8, 1⟩ : api_Event), (⟨1, 0, 7, 1⟩ : api_Event), (⟨1, 1, 1, 0⟩ : api_Event)] : List api_Event).length), .own 8 1 0 (([(-1), 0] : List Int).length)])], 96⟩ ?_ ?_
  · refine SemOp.ofT ?_
    refine ex_arr ([(-1), 0] : List Int) (x := 8) (sz := 1) (n := 2) (cell := cI) (d := 0) rfl (by intro j c hj hc; match j, hj with | 0, _ => (match c, hc with | 0, _ => rfl | _ + 1, h => exact absurd h (by omega)) | 1, _ => (match c, hc with | 0, _ => rfl | _ + 1, h => exact absurd h (by omega)) | _ + 2, h => exact absurd h (by omega)) ?_
    refine SemOp.ofT ?_
    refine ex_arr ([(⟨0, 0, 11, 1⟩ : api_Event), (⟨0, 1, 7, 1⟩ : api_Event), (⟨0, 2, 2, 0⟩ : api_Event), (⟨0, 3, 8, 1⟩ : api_Event), (⟨1, 0, 7, 1⟩ : api_Event), (⟨1, 1, 1, 0⟩ : api_Event)] : List api_Event) (x := 64) (sz := 4) (n := 6) (cell := api_Event.cell) (d := default) rfl (by intro j c hj hc; match j, hj with | 0, _ => (match c, hc with | 0, _ => rfl | 1, _ => rfl | 2, _ => rfl | 3, _ => rfl | _ + 4, h => exact absurd h (by omega)) | 1, _ => (match c, hc with | 0, _ => rfl | 1, _ => rfl | 2, _ => rfl | 3, _ => rfl | _ + 4, h => exact absurd h (by omega)) | 2, _ => (match c, hc with | 0, _ => rfl | 1, _ => rfl | 2, _ => rfl | 3, _ => rfl | _ + 4, h => exact absurd h (by omega)) | 3, _ => (match c, hc with | 0, _ => rfl | 1, _ => rfl | 2, _ => rfl | 3, _ => rfl | _ + 4, h => exact absurd h (by omega)) | 4, _ => (match c, hc with | 0, _ => rfl | 1, _ => rfl | 2, _ => rfl | 3, _ => rfl | _ + 4, h => exact absurd h (by omega)) | 5, _ => (match c, hc with | 0, _ => rfl | 1, _ => rfl | 2, _ => rfl | 3, _ => rfl | _ + 4, h => exact absurd h (by omega)) | _ + 6, h => exact absurd h (by omega)) ?_
    refine SemOp.ofT ?_
    refine ex_refl ?_
    exact Le.trans (Le.list (x := 8) rfl (cell := cI) (d := 0) (l := ([(-1), 0] : List Int)) rfl (fun _ _ _ _ => rfl)) (Le.trans (Le.list (x := 64) rfl (cell := api_Event.cell) (d := default) (l := ([(⟨0, 0, 11, 1⟩ : api_Event), (⟨0, 1, 7, 1⟩ : api_Event), (⟨0, 2, 2, 0⟩ : api_Event), (⟨0, 3, 8, 1⟩ : api_Event), (⟨1, 0, 7, 1⟩ : api_Event), (⟨1, 1, 1, 0⟩ : api_Event)] : List api_Event)) rfl (fun _ _ _ _ => rfl)) (Le.trans (Le.blk (x := 80) rfl (BlkLe.box (RepLes.cons (RepLe.ownLen (rfl).symm) (RepLes.cons (RepLe.ownLen (rfl).symm) (RepLes.nil))))) (Le.keep (live := [1]) (names := [8, 64, 80]) (nx := 96) rfl)))
  refine CWP.seq ?_
  refine CWP.regionT ⟨[(1, .ptr 80 0), (2, .own 112 4 0 (([(⟨1, (⟨#[120]⟩ : ByteArray), 0, 0⟩ : api_Decl), (⟨3, (⟨#[109]⟩ : ByteArray), 0, 0⟩ : api_Decl)] : List api_Decl).length))], [(8, .li 1 cI 0 ([(-1), 0] : List Int)), (64, .li 4 api_Event.cell default ([(⟨0, 0, 11, 1⟩ : api_Event), (⟨0, 1, 7, 1⟩ : api_Event), (⟨0, 2, 2, 0⟩ : api_Event), (⟨0, 3, 8, 1⟩ : api_Event), (⟨1, 0, 7, 1⟩ : api_Event), (⟨1, 1, 1, 0⟩ : api_Event)] : List api_Event)), (80, .box [.own 64 4 0 (([(⟨0, 0, 11, 1⟩ : api_Event), (⟨0, 1, 7, 1⟩ : api_Event), (⟨0, 2, 2, 0⟩ : api_Event), (⟨0, 3, 8, 1⟩ : api_Event), (⟨1, 0, 7, 1⟩ : api_Event), (⟨1, 1, 1, 0⟩ : api_Event)] : List api_Event).length), .own 8 1 0 (([(-1), 0] : List Int).length)]), (112, .li 4 api_Decl.cell default ([(⟨1, (⟨#[120]⟩ : ByteArray), 0, 0⟩ : api_Decl), (⟨3, (⟨#[109]⟩ : ByteArray), 0, 0⟩ : api_Decl)] : List api_Decl))], 128⟩ ?_ ?_
  · refine SemOp.ofT ?_
    refine ex_arr ([(⟨1, (⟨#[120]⟩ : ByteArray), 0, 0⟩ : api_Decl), (⟨3, (⟨#[109]⟩ : ByteArray), 0, 0⟩ : api_Decl)] : List api_Decl) (x := 112) (sz := 4) (n := 2) (cell := api_Decl.cell) (d := default) rfl (by intro j c hj hc; match j, hj with | 0, _ => (match c, hc with | 0, _ => rfl | 1, _ => rfl | 2, _ => rfl | 3, _ => rfl | _ + 4, h => exact absurd h (by omega)) | 1, _ => (match c, hc with | 0, _ => rfl | 1, _ => rfl | 2, _ => rfl | 3, _ => rfl | _ + 4, h => exact absurd h (by omega)) | _ + 2, h => exact absurd h (by omega)) ?_
    exact Le.trans (Le.list (x := 112) rfl (cell := api_Decl.cell) (d := default) (l := ([(⟨1, (⟨#[120]⟩ : ByteArray), 0, 0⟩ : api_Decl), (⟨3, (⟨#[109]⟩ : ByteArray), 0, 0⟩ : api_Decl)] : List api_Decl)) rfl (fun _ _ _ _ => rfl)) (Le.trans (Le.rep (t := 2) rfl (RepLe.ownLen (rfl).symm)) (Le.keep (live := [1, 2]) (names := [8, 64, 80, 112]) (nx := 128) rfl))
  refine CWP.seq ?_
  refine CWP.regionT ⟨[(1, .ptr 80 0), (2, .own 112 4 0 (([(⟨1, (⟨#[120]⟩ : ByteArray), 0, 0⟩ : api_Decl), (⟨3, (⟨#[109]⟩ : ByteArray), 0, 0⟩ : api_Decl)] : List api_Decl).length)), (3, .own 128 3 0 (([] : List api_Entry).length))], [(8, .li 1 cI 0 ([(-1), 0] : List Int)), (64, .li 4 api_Event.cell default ([(⟨0, 0, 11, 1⟩ : api_Event), (⟨0, 1, 7, 1⟩ : api_Event), (⟨0, 2, 2, 0⟩ : api_Event), (⟨0, 3, 8, 1⟩ : api_Event), (⟨1, 0, 7, 1⟩ : api_Event), (⟨1, 1, 1, 0⟩ : api_Event)] : List api_Event)), (80, .box [.own 64 4 0 (([(⟨0, 0, 11, 1⟩ : api_Event), (⟨0, 1, 7, 1⟩ : api_Event), (⟨0, 2, 2, 0⟩ : api_Event), (⟨0, 3, 8, 1⟩ : api_Event), (⟨1, 0, 7, 1⟩ : api_Event), (⟨1, 1, 1, 0⟩ : api_Event)] : List api_Event).length), .own 8 1 0 (([(-1), 0] : List Int).length)]), (112, .li 4 api_Decl.cell default ([(⟨1, (⟨#[120]⟩ : ByteArray), 0, 0⟩ : api_Decl), (⟨3, (⟨#[109]⟩ : ByteArray), 0, 0⟩ : api_Decl)] : List api_Decl)), (128, .li 3 api_Entry.cell default ([] : List api_Entry))], 144⟩ ?_ ?_
  · refine SemOp.ofT ?_
    refine ex_arr ([] : List api_Entry) (x := 128) (sz := 3) (n := 0) (cell := api_Entry.cell) (d := default) rfl (fun j _ hj _ => absurd hj (Nat.not_lt_zero j)) ?_
    exact Le.trans (Le.list (x := 128) rfl (cell := api_Entry.cell) (d := default) (l := ([] : List api_Entry)) rfl (fun _ _ _ _ => rfl)) (Le.trans (Le.rep (t := 3) rfl (RepLe.ownLen (rfl).symm)) (Le.keep (live := [1, 2, 3]) (names := [8, 64, 80, 112, 128]) (nx := 144) rfl))
  refine CWP.seq ?_
  refine CWP.seq ?_
  refine CWP.regionT ⟨[(1, .ptr 80 0), (2, .own 112 4 0 (([(⟨1, (⟨#[120]⟩ : ByteArray), 0, 0⟩ : api_Decl), (⟨3, (⟨#[109]⟩ : ByteArray), 0, 0⟩ : api_Decl)] : List api_Decl).length)), (3, .own 128 3 0 (([] : List api_Entry).length)), (4, I 0)], [(8, .li 1 cI 0 ([(-1), 0] : List Int)), (64, .li 4 api_Event.cell default ([(⟨0, 0, 11, 1⟩ : api_Event), (⟨0, 1, 7, 1⟩ : api_Event), (⟨0, 2, 2, 0⟩ : api_Event), (⟨0, 3, 8, 1⟩ : api_Event), (⟨1, 0, 7, 1⟩ : api_Event), (⟨1, 1, 1, 0⟩ : api_Event)] : List api_Event)), (80, .box [.own 64 4 0 (([(⟨0, 0, 11, 1⟩ : api_Event), (⟨0, 1, 7, 1⟩ : api_Event), (⟨0, 2, 2, 0⟩ : api_Event), (⟨0, 3, 8, 1⟩ : api_Event), (⟨1, 0, 7, 1⟩ : api_Event), (⟨1, 1, 1, 0⟩ : api_Event)] : List api_Event).length), .own 8 1 0 (([(-1), 0] : List Int).length)]), (112, .li 4 api_Decl.cell default ([(⟨1, (⟨#[120]⟩ : ByteArray), 0, 0⟩ : api_Decl), (⟨3, (⟨#[109]⟩ : ByteArray), 0, 0⟩ : api_Decl)] : List api_Decl)), (128, .li 3 api_Entry.cell default ([] : List api_Entry))], 152⟩ ?_ ?_
  · exact Le.keep (live := [1, 2, 3, 4]) (names := [8, 64, 80, 112, 128]) (nx := 152) rfl
  generalize hn12 : l10_1 n n (⟨([(⟨0, 0, 11, 1⟩ : api_Event), (⟨0, 1, 7, 1⟩ : api_Event), (⟨0, 2, 2, 0⟩ : api_Event), (⟨0, 3, 8, 1⟩ : api_Event), (⟨1, 0, 7, 1⟩ : api_Event), (⟨1, 1, 1, 0⟩ : api_Event)] : List api_Event), ([(-1), 0] : List Int)⟩ : api_Shape) ([(⟨1, (⟨#[120]⟩ : ByteArray), 0, 0⟩ : api_Decl), (⟨3, (⟨#[109]⟩ : ByteArray), 0, 0⟩ : api_Decl)] : List api_Decl) ([] : List api_Entry) 0 = o12 at h
  rcases o12 with _ | o12
  · cases h
  refine CWP.weaken (s' := ⟨[(1, .ptr 0 0), (2, .own 3 4 0 (([(⟨1, (⟨#[120]⟩ : ByteArray), 0, 0⟩ : api_Decl), (⟨3, (⟨#[109]⟩ : ByteArray), 0, 0⟩ : api_Decl)] : List api_Decl).length)), (3, .own 4 3 0 (([] : List api_Entry).length)), (4, I 0)], [(0, .box [.own 1 4 0 (([(⟨0, 0, 11, 1⟩ : api_Event), (⟨0, 1, 7, 1⟩ : api_Event), (⟨0, 2, 2, 0⟩ : api_Event), (⟨0, 3, 8, 1⟩ : api_Event), (⟨1, 0, 7, 1⟩ : api_Event), (⟨1, 1, 1, 0⟩ : api_Event)] : List api_Event).length), .own 2 1 0 (([(-1), 0] : List Int).length)]), (1, .li 4 api_Event.cell default ([(⟨0, 0, 11, 1⟩ : api_Event), (⟨0, 1, 7, 1⟩ : api_Event), (⟨0, 2, 2, 0⟩ : api_Event), (⟨0, 3, 8, 1⟩ : api_Event), (⟨1, 0, 7, 1⟩ : api_Event), (⟨1, 1, 1, 0⟩ : api_Event)] : List api_Event)), (2, .li 1 cI 0 ([(-1), 0] : List Int)), (3, .li 4 api_Decl.cell default ([(⟨1, (⟨#[120]⟩ : ByteArray), 0, 0⟩ : api_Decl), (⟨3, (⟨#[109]⟩ : ByteArray), 0, 0⟩ : api_Decl)] : List api_Decl)), (4, .li 3 api_Entry.cell default ([] : List api_Entry))], 5⟩) (Le.ren [(0, 80), (1, 64), (2, 8), (3, 112), (4, 128)] rfl ⟨rfl, rfl, rfl, rfl, trivial⟩ ⟨⟨_, rfl, rfl⟩, ⟨_, rfl, rfl⟩, ⟨_, rfl, rfl⟩, ⟨_, rfl, rfl⟩, ⟨_, rfl, rfl⟩, trivial⟩) ?_
  refine t10_1 hn12 ?_
  · intro b0_13 b3_13 b4_13 e
    subst e
    dsimp only at h
    refine CWP.seq ?_
    obtain ⟨r14, hr14, h⟩ := Option.bind_eq_some_iff.1 h
    obtain ⟨r15, hr15, h⟩ := Option.bind_eq_some_iff.1 h
    obtain ⟨r16, hr16, h⟩ := Option.bind_eq_some_iff.1 h
    obtain ⟨r17, hr17, h⟩ := Option.bind_eq_some_iff.1 h
    refine CWP.regionT ⟨[(0, .tst ((((r14.length : Int) == 0) && r16) && ((r17.length : Int) == 6)))], [], 189⟩ ?_ ?_
    · refine FC.semT rfl rfl rfl ⟨Nat.le_refl _, Nat.le_refl _, Nat.le_refl _, Nat.le_refl _⟩ (c18 hr14) (Or.inr (Or.inr rfl)) ?_
      refine ex_refl ?_
      refine And.intro (fun hg18 => ?_) (fun hg18 => ?_)
      · have hg18 : ((r14.length : Int) == 0) = true := hg18
        refine FC.semT rfl rfl rfl ⟨Nat.le_refl _, Nat.le_refl _, Nat.le_refl _, Nat.le_refl _⟩ (c11 (ite_t hr15 (by simp only [hg18, sB, reduceIte]))) (Or.inr (Or.inr rfl)) ?_
        refine ex_refl ?_
        refine SemOp.ofT ?_
        refine ex_arr ([2] : List Int) (x := 93) (sz := 1) (n := 1) (cell := cI) (d := 0) rfl (by intro j c hj hc; match j, hj with | 0, _ => (match c, hc with | 0, _ => rfl | _ + 1, h => exact absurd h (by omega)) | _ + 1, h => exact absurd h (by omega)) ?_
        refine FC.semT rfl rfl rfl ⟨Nat.le_refl _, Nat.le_refl _⟩ (FC.args (FrLes.cons (FrLe.refl _) (FrLes.cons (FrLe.fro rfl (fun _ _ _ _ => FrLe.refl _)) (FrLes.nil))) (c15 (ite_t hr16 (by simp only [hg18, sB, reduceIte])))) (Or.inr (Or.inl rfl)) ?_
        refine ex_refl ?_
        refine And.intro (fun hg19 => ?_) (fun hg19 => ?_)
        · have hg19 : (r16) = true := hg19
          refine FC.semT rfl rfl rfl ⟨Nat.le_refl _, Nat.le_refl _, Nat.le_refl _, Nat.le_refl _⟩ (c16 (ite_t hr17 (by simp only [hg18, hg19, sB, reduceIte]))) (Or.inr (Or.inr rfl)) ?_
          refine ex_refl ?_
          exact Le.trans (Le.rep (t := 0) rfl (RepLe.fr rfl (FrLe.tst2 (by simp only [hg18, hg19, sB, reduceIte])))) (Le.keep (live := [0]) (names := []) (nx := 189) rfl)
        · have hg19 : (r16) = false := hg19
          exact Le.trans (Le.rep (t := 0) rfl (RepLe.fr rfl (FrLe.tst (by simp only [hg18, hg19, sB, reduceIte])))) (Le.keep (live := [0]) (names := []) (nx := 189) rfl)
      · have hg18 : ((r14.length : Int) == 0) = false := hg18
        exact Le.trans (Le.rep (t := 0) rfl (RepLe.fr rfl (FrLe.tst (by simp only [hg18, sB, reduceIte])))) (Le.keep (live := [0]) (names := []) (nx := 189) rfl)
    refine CWP.ret ?_
    have e := Option.some.inj h
    subst e
    exact rfl
theorem c10 {n : Nat} {r : Bool} (h : s10 n = some r) : FC Try.prog 10 [] (.tst r) [] false := FC.pureE (fn := Try.f10) (cc := code10) (res := .one 0) (by kernel_rfl) (by kernel_rfl) tr10 (by kernel_rfl) (Nat.le_of_ble_eq_true rfl) rfl (wf10 h)
theorem awake100 : s10 100 = some true := by kernel_rfl
def code8 : CCode :=
 (.seq
  (.region [⟨(some 3), (.box 2 (.tmp 0)), none⟩,
   ⟨(some 6), (.mv (.const (.bool false))), none⟩] none)
  (.seq
  (.region [⟨(some 7), (.fad 0 (.tmp 3)), none⟩,
   ⟨(some 8), (.load false 1 (.tmp 7)), none⟩,
   ⟨(some 9), (.len 1 (.tmp 8)), none⟩,
   ⟨(some 10), (.bin 0 .leq (.tmp 9) (.const (.int .i64 50))), none⟩,
   ⟨(some 11), (.mv (.tmp 10)), none⟩,
   ⟨(some 12), (.fad 1 (.tmp 3)), (some (11, true))⟩,
   ⟨(some 13), (.load false 1 (.tmp 12)), (some (11, true))⟩,
   ⟨(some 14), (.len 1 (.tmp 13)), (some (11, true))⟩,
   ⟨(some 15), (.bin 0 .leq (.tmp 14) (.const (.int .i64 50))), (some (11, true))⟩,
   ⟨(some 16), (.pick (.tmp 11) (.tmp 15) (.const (.bool false))), none⟩,
   ⟨(some 17), (.mv (.tmp 16)), none⟩,
   ⟨(some 18), (.mv (.tmp 1)), (some (17, true))⟩,
   ⟨(some 19), (.len 1 (.tmp 18)), (some (17, true))⟩,
   ⟨(some 20), (.bin 0 .leq (.tmp 19) (.const (.int .i64 50))), (some (17, true))⟩,
   ⟨(some 21), (.pick (.tmp 17) (.tmp 20) (.const (.bool false))), none⟩,
   ⟨(some 22), (.mv (.tmp 21)), none⟩,
   ⟨(some 23), (.mv (.tmp 2)), (some (22, true))⟩,
   ⟨(some 24), (.len 1 (.tmp 23)), (some (22, true))⟩,
   ⟨(some 25), (.bin 0 .leq (.tmp 24) (.const (.int .i64 60))), (some (22, true))⟩,
   ⟨(some 26), (.pick (.tmp 22) (.tmp 25) (.const (.bool false))), none⟩,
   ⟨(some 6), (.mv (.tmp 26)), none⟩] none)
  .ret))
theorem tr8 : (Try.f8.body).bind (trCode Try.prog Try.f8.ntmps) = some code8 := by kernel_rfl
def s8 (n : Nat) (p0 : api_Shape) (p1 : List api_Decl) (p2 : List api_Entry) : Option Bool :=
  some ((((decide ((p0.Events.length : Int) ≤ 50)) && (decide ((p0.Starts.length : Int) ≤ 50))) && (decide ((p1.length : Int) ≤ 50))) && (decide ((p2.length : Int) ≤ 60)))
def E8 (r : Bool) (s : AS) : Prop := resOf s (.one 6) = some (.tst r)
theorem wf8 {n : Nat} {p0 : api_Shape} {p1 : List api_Decl} {p2 : List api_Entry} {r : Bool} (h : s8 n p0 p1 p2 = some r) : CWP Try.prog Try.f8.ntmps code8 (AtE (E8 r)) ⟨[(0, .agg (api_Shape.cs p0)), (1, api_Decl.sl p1), (2, api_Entry.sl p2)], [], 0⟩ := by
  unfold s8 at h
  refine CWP.seq ?_
  refine CWP.regionT ⟨[(1, api_Decl.sl p1), (2, api_Entry.sl p2), (3, .ptr 0 0)], [(0, .box (api_Shape.cs p0))], 16⟩ ?_ ?_
  · exact Le.keep (live := [1, 2, 3]) (names := [0]) (nx := 16) rfl
  refine CWP.seq ?_
  refine CWP.regionT ⟨[(6, .tst ((((decide ((p0.Events.length : Int) ≤ 50)) && (decide ((p0.Starts.length : Int) ≤ 50))) && (decide ((p1.length : Int) ≤ 50))) && (decide ((p2.length : Int) ≤ 60))))], [], 184⟩ ?_ ?_
  · refine And.intro (fun hg2 => ?_) (fun hg2 => ?_)
    · have hg2 : (decide ((p0.Events.length : Int) ≤ 50)) = true := hg2
      refine And.intro (fun hg3 => ?_) (fun hg3 => ?_)
      · have hg3 : (decide ((p0.Starts.length : Int) ≤ 50)) = true := hg3
        refine And.intro (fun hg4 => ?_) (fun hg4 => ?_)
        · have hg4 : (decide ((p1.length : Int) ≤ 50)) = true := hg4
          exact Le.trans (Le.rep (t := 6) rfl (RepLe.fr rfl (FrLe.tst2 (by simp only [hg2, hg3, hg4, sB, reduceIte])))) (Le.keep (live := [6]) (names := []) (nx := 184) rfl)
        · have hg4 : (decide ((p1.length : Int) ≤ 50)) = false := hg4
          exact Le.trans (Le.rep (t := 6) rfl (RepLe.fr rfl (FrLe.tst (by simp only [hg2, hg3, hg4, sB, reduceIte])))) (Le.keep (live := [6]) (names := []) (nx := 184) rfl)
      · have hg3 : (decide ((p0.Starts.length : Int) ≤ 50)) = false := hg3
        exact Le.trans (Le.rep (t := 6) rfl (RepLe.fr rfl (FrLe.tst (by simp only [hg2, hg3, sB, reduceIte])))) (Le.keep (live := [6]) (names := []) (nx := 184) rfl)
    · have hg2 : (decide ((p0.Events.length : Int) ≤ 50)) = false := hg2
      exact Le.trans (Le.rep (t := 6) rfl (RepLe.fr rfl (FrLe.tst (by simp only [hg2, sB, reduceIte])))) (Le.keep (live := [6]) (names := []) (nx := 184) rfl)
  refine CWP.ret ?_
  have e := Option.some.inj h
  subst e
  exact rfl
theorem c8 {n : Nat} {p0 : api_Shape} {p1 : List api_Decl} {p2 : List api_Entry} {r : Bool} (h : s8 n p0 p1 p2 = some r) : FC Try.prog 8 [.agg (api_Shape.cs p0), api_Decl.sl p1, api_Entry.sl p2] (.tst r) [] false := FC.pureE (fn := Try.f8) (cc := code8) (res := .one 6) (by kernel_rfl) (by kernel_rfl) tr8 (by kernel_rfl) (Nat.le_of_ble_eq_true rfl) rfl (wf8 h)
def code19 : CCode :=
 (.seq
  (.region [⟨(some 3), (.box 2 (.tmp 0)), none⟩,
   ⟨(some 6), (.mv (.const (.slice none 0 0))), none⟩] none)
  (.seq
  (.region [⟨(some 8), (.load true 2 (.tmp 3)), none⟩,
   ⟨(some 9), (.mv (.tmp 1)), none⟩,
   ⟨(some 10), (.mv (.tmp 2)), none⟩,
   ⟨(some 11), (.call (.func 25) [(.tmp 8), (.tmp 9), (.tmp 10)]), none⟩,
   ⟨(some 7), (.mv (.tmp 11)), none⟩] none)
  (.seq
   (.seq
   (.region [⟨(some 12), (.mv (.tmp 7)), none⟩,
    ⟨(some 13), (.bin 2 .eql (.tmp 12) (.const (.pointer none))), none⟩] none)
   (.cond (.tmp 13)
    (.seq
    (.region [⟨(some 6), (.mv (.const (.slice none 0 0))), none⟩] none)
    .ret)
    .skip))
   (.seq
   (.region [⟨(some 14), (.mv (.tmp 7)), none⟩,
    ⟨(some 15), (.call (.func 27) [(.tmp 14)]), none⟩,
    ⟨(some 6), (.mv (.tmp 15)), none⟩] none)
   .ret))))
theorem tr19 : (Try.f19.body).bind (trCode Try.prog Try.f19.ntmps) = some code19 := by kernel_rfl
def s19 (n : Nat) (p0 : api_Shape) (p1 : List api_Decl) (p2 : List api_Entry) : Option (List (List Bool)) :=
  (s25 n p0 p1 p2).bind fun r120 =>
  (match r120 with
  | none =>
    some ([] : List (List Bool))
  | some r120 =>
    (s27_fp59 n r120).bind fun r121 =>
    some r121)
def E19 (r : List (List Bool)) (s : AS) : Prop := resOf s (.one 6) = some (.own 0 1 0 r.length) ∧ EndSt [(0, 0)] s.st [(0, .ml cB false r)] ∧ PinEnd (fun _ => none) s.st []
theorem wf19 {n : Nat} {p0 : api_Shape} {p1 : List api_Decl} {p2 : List api_Entry} {r : List (List Bool)} (h : s19 n p0 p1 p2 = some r) : CWP Try.prog Try.f19.ntmps code19 (AtE (E19 r)) ⟨[(0, .agg (api_Shape.cs p0)), (1, api_Decl.sl p1), (2, api_Entry.sl p2)], [], 0⟩ := by
  unfold s19 at h
  refine CWP.seq ?_
  refine CWP.regionT ⟨[(1, api_Decl.sl p1), (2, api_Entry.sl p2), (3, .ptr 0 0)], [(0, .box (api_Shape.cs p0))], 16⟩ ?_ ?_
  · exact Le.keep (live := [1, 2, 3]) (names := [0]) (nx := 16) rfl
  refine CWP.seq ?_
  obtain ⟨r120, hr120, h⟩ := Option.bind_eq_some_iff.1 h
  rcases r120 with _ | r120
  · dsimp only at h
    refine CWP.regionT ⟨[(7, .raw (.pointer none))], [], 56⟩ ?_ ?_
    · refine FC.semT rfl rfl rfl trivial (c25n hr120) (Or.inl rfl) ?_
      refine ex_refl ?_
      exact Le.keep (live := [7]) (names := []) (nx := 56) rfl
    refine CWP.seq ?_
    refine CWP.seq ?_
    refine CWP.regionT ⟨[(7, .raw (.pointer none)), (13, .raw (.bool true))], [], 72⟩ ?_ ?_
    · exact Le.keep (live := [7, 13]) (names := []) (nx := 72) rfl
    refine CWP.cond ?_
    refine CWP.seq ?_
    refine CWP.regionT ⟨[(6, .raw (.slice none 0 0))], [], 80⟩ ?_ ?_
    · exact Le.keep (live := [6]) (names := []) (nx := 80) rfl
    refine CWP.weaken (s' := ⟨[(6, .own 0 1 0 (([] : List (List Bool)).length))], [(0, .ml cB false ([] : List (List Bool)))], 1⟩) (Le.trans (Le.nilMat (t := 6) rfl (fun _ _ => .any) (fun _ => 0) trivial) (Le.trans (Le.mat (x := 80) (n' := ([] : List (List Bool)).length) (len' := fun j => (([] : List (List Bool)).getD j []).length) (f' := fun j c => cB ((([] : List (List Bool)).getD j []).getD c false) 0) rfl rfl (fun j hj => absurd hj (Nat.not_lt_zero j)) (fun j _ hj _ => absurd hj (Nat.not_lt_zero j))) (Le.ren [(0, 80)] rfl ⟨rfl, trivial⟩ ⟨⟨_, rfl, rfl⟩, trivial⟩))) ?_
    refine CWP.ret ?_
    have e := Option.some.inj h
    subst e
    exact ⟨rfl, ⟨⟨_, rfl, rfl⟩, trivial⟩, trivial⟩
  · dsimp only at h
    refine CWP.regionT ⟨[(7, .ptr 40 0)], [(40, .box (hb_log.co r120 41 42)), (41, .li 1 cI 0 r120.at_), (42, .mapI r120.in_)], 56⟩ ?_ ?_
    · refine FC.semT rfl rfl rfl trivial (c25 hr120) (Or.inl rfl) ?_
      refine ex_refl ?_
      exact Le.keep (live := [7]) (names := [40, 41, 42]) (nx := 56) rfl
    refine CWP.seq ?_
    refine CWP.seq ?_
    refine CWP.regionT ⟨[(7, .ptr 40 0), (13, .raw (.bool false))], [(40, .box (hb_log.co r120 41 42)), (41, .li 1 cI 0 r120.at_), (42, .mapI r120.in_)], 72⟩ ?_ ?_
    · exact Le.keep (live := [7, 13]) (names := [40, 41, 42]) (nx := 72) rfl
    refine CWP.cond ?_
    refine CWP.skip ?_
    refine CWP.seq ?_
    obtain ⟨r121, hr121, h⟩ := Option.bind_eq_some_iff.1 h
    refine CWP.regionT ⟨[(6, .own 80 1 0 r121.length)], [(80, .ml cB false r121)], 96⟩ ?_ ?_
    · refine FC.semT rfl rfl rfl (Nat.le_refl _) (FC.args (FrLes.cons (FrLe.fpt (fun i hi => match i, hi with | 0, _ => FrLe.refl _ | 1, _ => FrLe.refl _ | 2, _ => FrLe.refl _ | 3, _ => FrLe.refl _ | 4, _ => FrLe.refl _ | 5, _ => FrLe.refl _ | _ + 6, h => absurd h (by simp))) (FrLes.nil)) (c27_fp59 hr121)) (Or.inr (Or.inr rfl)) ?_
      refine ex_refl ?_
      exact Le.keep (live := [6]) (names := [80]) (nx := 96) rfl
    refine CWP.weaken (s' := ⟨[(6, .own 0 1 0 r121.length)], [(0, .ml cB false r121)], 1⟩) (Le.ren [(0, 80)] rfl ⟨rfl, trivial⟩ ⟨⟨_, rfl, rfl⟩, trivial⟩) ?_
    refine CWP.ret ?_
    have e := Option.some.inj h
    subst e
    exact ⟨rfl, ⟨⟨_, rfl, rfl⟩, trivial⟩, trivial⟩
theorem c19 {n : Nat} {p0 : api_Shape} {p1 : List api_Decl} {p2 : List api_Entry} {r : List (List Bool)} (h : s19 n p0 p1 p2 = some r) : FC Try.prog 19 [.agg (api_Shape.cs p0), api_Decl.sl p1, api_Entry.sl p2] (.own 0 1 0 r.length) [(0, .ml cB false r)] true := FC.new rfl rfl (RC.ofE (st := []) (r := .own 0 1 0 r.length) (st' := [(0, .ml cB false r)]) (pins := []) 0 [(0, 0)] (fn := Try.f19) (cc := code19) (res := .one 6) (by kernel_rfl) (by kernel_rfl) tr19 (by kernel_rfl) (Nat.le_of_ble_eq_true rfl) rfl rfl (fun β => wf19 h)) rfl ⟨(fun _ _ _ _ => rfl), trivial⟩
def code22 : CCode :=
 (.seq
  (.region [⟨(some 3), (.box 2 (.tmp 0)), none⟩,
   ⟨(some 6), (.mv (.const (.int .i64 0))), none⟩] none)
  (.seq
  (.seq
   (.region [⟨(some 7), (.load true 2 (.tmp 3)), none⟩,
    ⟨(some 8), (.mv (.tmp 1)), none⟩,
    ⟨(some 9), (.mv (.tmp 2)), none⟩,
    ⟨(some 10), (.call (.func 25) [(.tmp 7), (.tmp 8), (.tmp 9)]), none⟩,
    ⟨(some 11), (.bin 2 .eql (.tmp 10) (.const (.pointer none))), none⟩] none)
   (.cond (.tmp 11)
   (.seq
    (.region [⟨(some 6), (.mv (.const (.int .i64 1))), none⟩] none)
    .ret)
   .skip))
  (.seq
   (.region [⟨(some 6), (.mv (.const (.int .i64 0))), none⟩] none)
   .ret)))
theorem tr22 : (Try.f22.body).bind (trCode Try.prog Try.f22.ntmps) = some code22 := by kernel_rfl
def s22 (n : Nat) (p0 : api_Shape) (p1 : List api_Decl) (p2 : List api_Entry) : Option Int :=
  (s25 n p0 p1 p2).bind fun r179 =>
  (match r179 with
  | none =>
    some 1
  | some r179 =>
    some 0)
def E22 (r : Int) (s : AS) : Prop := resOf s (.one 6) = some (I r)
theorem wf22 {n : Nat} {p0 : api_Shape} {p1 : List api_Decl} {p2 : List api_Entry} {r : Int} (h : s22 n p0 p1 p2 = some r) : CWP Try.prog Try.f22.ntmps code22 (AtE (E22 r)) ⟨[(0, .agg (api_Shape.cs p0)), (1, api_Decl.sl p1), (2, api_Entry.sl p2)], [], 0⟩ := by
  unfold s22 at h
  refine CWP.seq ?_
  refine CWP.regionT ⟨[(1, api_Decl.sl p1), (2, api_Entry.sl p2), (3, .ptr 0 0)], [(0, .box (api_Shape.cs p0))], 16⟩ ?_ ?_
  · exact Le.keep (live := [1, 2, 3]) (names := [0]) (nx := 16) rfl
  refine CWP.seq ?_
  refine CWP.seq ?_
  obtain ⟨r179, hr179, h⟩ := Option.bind_eq_some_iff.1 h
  rcases r179 with _ | r179
  · dsimp only at h
    refine CWP.regionT ⟨[(11, .raw (.bool true))], [], 56⟩ ?_ ?_
    · refine FC.semT rfl rfl rfl trivial (c25n hr179) (Or.inl rfl) ?_
      refine ex_refl ?_
      exact Le.keep (live := [11]) (names := []) (nx := 56) rfl
    refine CWP.cond ?_
    refine CWP.seq ?_
    refine CWP.regionT ⟨[(6, I 1)], [], 64⟩ ?_ ?_
    · exact Le.keep (live := [6]) (names := []) (nx := 64) rfl
    refine CWP.ret ?_
    have e := Option.some.inj h
    subst e
    exact rfl
  · dsimp only at h
    refine CWP.regionT ⟨[(11, .raw (.bool false))], [], 56⟩ ?_ ?_
    · refine FC.semT rfl rfl rfl trivial (c25 hr179) (Or.inl rfl) ?_
      refine ex_refl ?_
      exact Le.keep (live := [11]) (names := []) (nx := 56) rfl
    refine CWP.cond ?_
    refine CWP.skip ?_
    refine CWP.seq ?_
    refine CWP.regionT ⟨[(6, I 0)], [], 64⟩ ?_ ?_
    · exact Le.keep (live := [6]) (names := []) (nx := 64) rfl
    refine CWP.ret ?_
    have e := Option.some.inj h
    subst e
    exact rfl
theorem c22 {n : Nat} {p0 : api_Shape} {p1 : List api_Decl} {p2 : List api_Entry} {r : Int} (h : s22 n p0 p1 p2 = some r) : FC Try.prog 22 [.agg (api_Shape.cs p0), api_Decl.sl p1, api_Entry.sl p2] (I r) [] false := FC.pureE (fn := Try.f22) (cc := code22) (res := .one 6) (by kernel_rfl) (by kernel_rfl) tr22 (by kernel_rfl) (Nat.le_of_ble_eq_true rfl) rfl (wf22 h)
def code7 : CCode :=
 (.seq
  (.region [⟨(some 2), (.box 2 (.tmp 0)), none⟩,
   ⟨(some 3), (.box 2 (.tmp 1)), none⟩,
   ⟨(some 4), (.mv (.const (.bool false))), none⟩] none)
  (.seq
  (.seq
   (.region [⟨(some 6), (.load true 2 (.tmp 2)), none⟩,
    ⟨(some 7), (.fad 0 (.tmp 3)), none⟩,
    ⟨(some 8), (.load false 1 (.tmp 7)), none⟩,
    ⟨(some 9), (.fad 1 (.tmp 3)), none⟩,
    ⟨(some 10), (.load false 1 (.tmp 9)), none⟩,
    ⟨(some 11), (.call (.func 8) [(.tmp 6), (.tmp 8), (.tmp 10)]), none⟩,
    ⟨(some 12), (.un .not (.tmp 11)), none⟩] none)
   (.cond (.tmp 12)
   (.seq
    (.region [⟨(some 13), (.call (.func 10) []), none⟩,
     ⟨(some 4), (.mv (.tmp 13)), none⟩] none)
    .ret)
   .skip))
  (.seq
   (.region [⟨(some 14), (.load true 2 (.tmp 2)), none⟩,
    ⟨(some 15), (.fad 0 (.tmp 3)), none⟩,
    ⟨(some 16), (.load false 1 (.tmp 15)), none⟩,
    ⟨(some 17), (.fad 1 (.tmp 3)), none⟩,
    ⟨(some 18), (.load false 1 (.tmp 17)), none⟩,
    ⟨(some 19), (.call (.func 9) [(.tmp 14), (.tmp 16), (.tmp 18)]), none⟩,
    ⟨(some 5), (.mv (.tmp 19)), none⟩] none)
   (.seq
   (.seq
    (.region [⟨(some 20), (.mv (.tmp 5)), none⟩,
     ⟨(some 21), (.un .not (.tmp 20)), none⟩,
     ⟨(some 22), (.mv (.tmp 21)), none⟩,
     ⟨(some 23), (.load true 2 (.tmp 2)), (some (22, true))⟩,
     ⟨(some 24), (.fad 0 (.tmp 3)), (some (22, true))⟩,
     ⟨(some 25), (.load false 1 (.tmp 24)), (some (22, true))⟩,
     ⟨(some 26), (.fad 1 (.tmp 3)), (some (22, true))⟩,
     ⟨(some 27), (.load false 1 (.tmp 26)), (some (22, true))⟩,
     ⟨(some 28), (.call (.func 19) [(.tmp 23), (.tmp 25), (.tmp 27)]), (some (22, true))⟩,
     ⟨(some 29), (.len 1 (.tmp 28)), (some (22, true))⟩,
     ⟨(some 30), (.bin 0 .neq (.tmp 29) (.const (.int .i64 0))), (some (22, true))⟩,
     ⟨(some 31), (.mv (.tmp 30)), (some (22, true))⟩,
     ⟨(some 32), (.load true 2 (.tmp 2)), (some (31, false))⟩,
     ⟨(some 33), (.fad 0 (.tmp 3)), (some (31, false))⟩,
     ⟨(some 34), (.load false 1 (.tmp 33)), (some (31, false))⟩,
     ⟨(some 35), (.fad 1 (.tmp 3)), (some (31, false))⟩,
     ⟨(some 36), (.load false 1 (.tmp 35)), (some (31, false))⟩,
     ⟨(some 37), (.call (.func 16) [(.tmp 32), (.tmp 34), (.tmp 36)]), (some (31, false))⟩,
     ⟨(some 38), (.len 1 (.tmp 37)), (some (31, false))⟩,
     ⟨(some 39), (.bin 0 .neq (.tmp 38) (.const (.int .i64 0))), (some (31, false))⟩,
     ⟨(some 40), (.pick (.tmp 31) (.const (.bool true)) (.tmp 39)), (some (22, true))⟩,
     ⟨(some 41), (.mv (.tmp 40)), (some (22, true))⟩,
     ⟨(some 42), (.load true 2 (.tmp 2)), (some (41, false))⟩,
     ⟨(some 43), (.fad 0 (.tmp 3)), (some (41, false))⟩,
     ⟨(some 44), (.load false 1 (.tmp 43)), (some (41, false))⟩,
     ⟨(some 45), (.fad 1 (.tmp 3)), (some (41, false))⟩,
     ⟨(some 46), (.load false 1 (.tmp 45)), (some (41, false))⟩,
     ⟨(some 47), (.call (.func 18) [(.tmp 42), (.tmp 44), (.tmp 46)]), (some (41, false))⟩,
     ⟨(some 48), (.len 1 (.tmp 47)), (some (41, false))⟩,
     ⟨(some 49), (.bin 0 .neq (.tmp 48) (.const (.int .i64 0))), (some (41, false))⟩,
     ⟨(some 50), (.pick (.tmp 41) (.const (.bool true)) (.tmp 49)), (some (22, true))⟩,
     ⟨(some 51), (.mv (.tmp 50)), (some (22, true))⟩,
     ⟨(some 52), (.load true 2 (.tmp 2)), (some (51, false))⟩,
     ⟨(some 53), (.fad 0 (.tmp 3)), (some (51, false))⟩,
     ⟨(some 54), (.load false 1 (.tmp 53)), (some (51, false))⟩,
     ⟨(some 55), (.fad 1 (.tmp 3)), (some (51, false))⟩,
     ⟨(some 56), (.load false 1 (.tmp 55)), (some (51, false))⟩,
     ⟨(some 57), (.call (.func 11) [(.tmp 52), (.tmp 54), (.tmp 56), (.const (.int .i64 0))]), (some (51, false))⟩,
     ⟨(some 58), (.len 1 (.tmp 57)), (some (51, false))⟩,
     ⟨(some 59), (.bin 0 .neq (.tmp 58) (.const (.int .i64 0))), (some (51, false))⟩,
     ⟨(some 60), (.pick (.tmp 51) (.const (.bool true)) (.tmp 59)), (some (22, true))⟩,
     ⟨(some 61), (.pick (.tmp 22) (.tmp 60) (.const (.bool false))), none⟩] none)
    (.cond (.tmp 61)
    (.seq
     (.region [⟨(some 4), (.mv (.const (.bool false))), none⟩] none)
     .ret)
    .skip))
   (.seq
    (.region [⟨(some 62), (.load true 2 (.tmp 2)), none⟩,
     ⟨(some 63), (.fad 0 (.tmp 3)), none⟩,
     ⟨(some 64), (.load false 1 (.tmp 63)), none⟩,
     ⟨(some 65), (.fad 1 (.tmp 3)), none⟩,
     ⟨(some 66), (.load false 1 (.tmp 65)), none⟩,
     ⟨(some 67), (.call (.func 22) [(.tmp 62), (.tmp 64), (.tmp 66)]), none⟩,
     ⟨(some 68), (.bin 0 .eql (.tmp 67) (.const (.int .i64 0))), none⟩,
     ⟨(some 69), (.mv (.tmp 5)), none⟩,
     ⟨(some 70), (.bin 1 .eql (.tmp 68) (.tmp 69)), none⟩,
     ⟨(some 71), (.mv (.tmp 70)), none⟩,
     ⟨(some 72), (.call (.func 10) []), (some (71, true))⟩,
     ⟨(some 73), (.pick (.tmp 71) (.tmp 72) (.const (.bool false))), none⟩,
     ⟨(some 4), (.mv (.tmp 73)), none⟩] none)
    .ret)))))
theorem tr7 : (Try.f7.body).bind (trCode Try.prog Try.f7.ntmps) = some code7 := by kernel_rfl
def s7 (n : Nat) (p0 : api_Shape) (p1 : fathomlaw29_Log) : Option Bool :=
  (s8 n p0 p1.D p1.L).bind fun r171 =>
  if !r171 then
    (s10 n).bind fun r172 =>
    some r172
  else
    (s9 n p0 p1.D p1.L).bind fun r173 =>
    (if !r173 then s19 n p0 p1.D p1.L else some default).bind fun r174 =>
    (if !r173 && !((r174.length : Int) != 0) then s16 n p0 p1.D p1.L else some default).bind fun r175 =>
    (if !r173 && !(((r174.length : Int) != 0) || ((r175.length : Int) != 0)) then s18 n p0 p1.D p1.L else some default).bind fun r176 =>
    (if !r173 && !((((r174.length : Int) != 0) || ((r175.length : Int) != 0)) || ((r176.length : Int) != 0)) then s11 n p0 p1.D p1.L 0 else some default).bind fun r177 =>
    if !r173 && (((((r174.length : Int) != 0) || ((r175.length : Int) != 0)) || ((r176.length : Int) != 0)) || ((r177.length : Int) != 0)) then
      some false
    else
      (s22 n p0 p1.D p1.L).bind fun r178 =>
      (if ((r178 == 0) == r173) then s10 n else some false).bind fun r179 =>
      some (((r178 == 0) == r173) && r179)
def E7 (r : Bool) (s : AS) : Prop := resOf s (.one 4) = some (.tst r)
theorem wf7 {n : Nat} {p0 : api_Shape} {p1 : fathomlaw29_Log} {r : Bool} (h : s7 n p0 p1 = some r) : CWP Try.prog Try.f7.ntmps code7 (AtE (E7 r)) ⟨[(0, .agg (api_Shape.cs p0)), (1, .agg (fathomlaw29_Log.cs p1))], [], 0⟩ := by
  unfold s7 at h
  refine CWP.seq ?_
  refine CWP.regionT ⟨[(2, .ptr 0 0), (3, .ptr 8 0)], [(0, .box (api_Shape.cs p0)), (8, .box (fathomlaw29_Log.cs p1))], 24⟩ ?_ ?_
  · exact Le.keep (live := [2, 3]) (names := [0, 8]) (nx := 24) rfl
  refine CWP.seq ?_
  refine CWP.seq ?_
  obtain ⟨r171, hr171, h⟩ := Option.bind_eq_some_iff.1 h
  refine CWP.regionT ⟨[(2, .ptr 0 0), (3, .ptr 8 0), (12, .tst !r171)], [(0, .box (api_Shape.cs p0)), (8, .box (fathomlaw29_Log.cs p1))], 80⟩ ?_ ?_
  · refine FC.semT rfl rfl rfl trivial (c8 hr171) (Or.inl rfl) ?_
    refine ex_refl ?_
    exact Le.keep (live := [2, 3, 12]) (names := [0, 8]) (nx := 80) rfl
  refine CWP.cond (And.intro (fun hc => ?_) (fun hc => ?_))
  · have h := ite_t h hc
    refine CWP.seq ?_
    obtain ⟨r172, hr172, h⟩ := Option.bind_eq_some_iff.1 h
    refine CWP.regionT ⟨[(4, .tst r172)], [], 96⟩ ?_ ?_
    · refine FC.semT rfl rfl rfl trivial (c10 hr172) (Or.inl rfl) ?_
      refine ex_refl ?_
      exact Le.keep (live := [4]) (names := []) (nx := 96) rfl
    refine CWP.ret ?_
    have e := Option.some.inj h
    subst e
    exact rfl
  · have h := ite_f h hc
    refine CWP.skip ?_
    refine CWP.seq ?_
    obtain ⟨r173, hr173, h⟩ := Option.bind_eq_some_iff.1 h
    refine CWP.regionT ⟨[(2, .ptr 0 0), (3, .ptr 8 0), (5, .tst r173)], [(0, .box (api_Shape.cs p0)), (8, .box (fathomlaw29_Log.cs p1))], 136⟩ ?_ ?_
    · refine FC.semT rfl rfl rfl trivial (c9 hr173) (Or.inl rfl) ?_
      refine ex_refl ?_
      exact Le.keep (live := [2, 3, 5]) (names := [0, 8]) (nx := 136) rfl
    refine CWP.seq ?_
    refine CWP.seq ?_
    obtain ⟨r174, hr174, h⟩ := Option.bind_eq_some_iff.1 h
    obtain ⟨r175, hr175, h⟩ := Option.bind_eq_some_iff.1 h
    obtain ⟨r176, hr176, h⟩ := Option.bind_eq_some_iff.1 h
    obtain ⟨r177, hr177, h⟩ := Option.bind_eq_some_iff.1 h
    refine CWP.regionT ⟨[(2, .ptr 0 0), (3, .ptr 8 0), (5, .tst r173), (61, .tst (!r173 && (((((r174.length : Int) != 0) || ((r175.length : Int) != 0)) || ((r176.length : Int) != 0)) || ((r177.length : Int) != 0))))], [(0, .box (api_Shape.cs p0)), (8, .box (fathomlaw29_Log.cs p1))], 472⟩ ?_ ?_
    · refine And.intro (fun hg181 => ?_) (fun hg181 => ?_)
      · have hg181 : (!r173) = true := hg181
        refine FC.semT rfl rfl rfl trivial (c19 (ite_t hr174 (by simp only [hg181, sB, reduceIte]))) (Or.inl rfl) ?_
        refine ex_refl ?_
        refine And.intro (fun hg182 => ?_) (fun hg182 => ?_)
        · have hg182 : ((r174.length : Int) != 0) = false := hg182
          refine FC.semT rfl rfl rfl trivial (c16 (ite_t hr175 (by simp only [hg181, hg182, sB, reduceIte]))) (Or.inl rfl) ?_
          refine ex_refl ?_
          refine And.intro (fun hg183 => ?_) (fun hg183 => ?_)
          · have hg183 : ((r175.length : Int) != 0) = false := hg183
            refine FC.semT rfl rfl rfl trivial (c18 (ite_t hr176 (by simp only [hg181, hg182, hg183, sB, reduceIte]))) (Or.inl rfl) ?_
            refine ex_refl ?_
            refine And.intro (fun hg184 => ?_) (fun hg184 => ?_)
            · have hg184 : ((r176.length : Int) != 0) = false := hg184
              refine FC.semT rfl rfl rfl trivial (c11 (ite_t hr177 (by simp only [hg181, hg182, hg183, hg184, sB, reduceIte]))) (Or.inl rfl) ?_
              refine ex_refl ?_
              exact Le.trans (Le.rep (t := 61) rfl (RepLe.fr rfl (FrLe.tst2 (by simp only [hg181, hg182, hg183, hg184, sB, reduceIte])))) (Le.keep (live := [2, 3, 5, 61]) (names := [0, 8]) (nx := 472) rfl)
            · have hg184 : ((r176.length : Int) != 0) = true := hg184
              exact Le.trans (Le.rep (t := 61) rfl (RepLe.fr rfl (FrLe.tst (by simp only [hg181, hg182, hg183, hg184, sB, reduceIte])))) (Le.keep (live := [2, 3, 5, 61]) (names := [0, 8]) (nx := 472) rfl)
          · have hg183 : ((r175.length : Int) != 0) = true := hg183
            exact Le.trans (Le.rep (t := 61) rfl (RepLe.fr rfl (FrLe.tst (by simp only [hg181, hg182, hg183, sB, reduceIte])))) (Le.keep (live := [2, 3, 5, 61]) (names := [0, 8]) (nx := 472) rfl)
        · have hg182 : ((r174.length : Int) != 0) = true := hg182
          exact Le.trans (Le.rep (t := 61) rfl (RepLe.fr rfl (FrLe.tst (by simp only [hg181, hg182, sB, reduceIte])))) (Le.keep (live := [2, 3, 5, 61]) (names := [0, 8]) (nx := 472) rfl)
      · have hg181 : (!r173) = false := hg181
        exact Le.trans (Le.rep (t := 61) rfl (RepLe.fr rfl (FrLe.tst (by simp only [hg181, sB, reduceIte])))) (Le.keep (live := [2, 3, 5, 61]) (names := [0, 8]) (nx := 472) rfl)
    refine CWP.cond (And.intro (fun hc => ?_) (fun hc => ?_))
    · have h := ite_t h hc
      refine CWP.seq ?_
      refine CWP.regionT ⟨[(4, .raw (.bool false))], [], 480⟩ ?_ ?_
      · exact Le.keep (live := [4]) (names := []) (nx := 480) rfl
      refine CWP.weaken (Le.rep (t := 4) rfl (RepLe.fr rfl (FrLe.tst rfl))) ?_
      refine CWP.ret ?_
      have e := Option.some.inj h
      subst e
      exact rfl
    · have h := ite_f h hc
      refine CWP.skip ?_
      refine CWP.seq ?_
      obtain ⟨r178, hr178, h⟩ := Option.bind_eq_some_iff.1 h
      obtain ⟨r179, hr179, h⟩ := Option.bind_eq_some_iff.1 h
      refine CWP.regionT ⟨[(4, .tst (((r178 == 0) == r173) && r179))], [], 576⟩ ?_ ?_
      · refine FC.semT rfl rfl rfl trivial (c22 hr178) (Or.inl rfl) ?_
        refine ex_refl ?_
        refine And.intro (fun hg180 => ?_) (fun hg180 => ?_)
        · have hg180 : ((r178 == 0) == r173) = true := hg180
          refine FC.semT rfl rfl rfl trivial (c10 (ite_t hr179 (by simp only [hg180, sB, reduceIte]))) (Or.inl rfl) ?_
          refine ex_refl ?_
          exact Le.trans (Le.rep (t := 4) rfl (RepLe.fr rfl (FrLe.tst2 (by simp only [hg180, sB, reduceIte])))) (Le.keep (live := [4]) (names := []) (nx := 576) rfl)
        · have hg180 : ((r178 == 0) == r173) = false := hg180
          exact Le.trans (Le.rep (t := 4) rfl (RepLe.fr rfl (FrLe.tst (by simp only [hg180, sB, reduceIte])))) (Le.keep (live := [4]) (names := []) (nx := 576) rfl)
      refine CWP.ret ?_
      have e := Option.some.inj h
      subst e
      exact rfl
theorem c7 {n : Nat} {p0 : api_Shape} {p1 : fathomlaw29_Log} {r : Bool} (h : s7 n p0 p1 = some r) : FC Try.prog 7 [.agg (api_Shape.cs p0), .agg (fathomlaw29_Log.cs p1)] (.tst r) [] false := FC.pureE (fn := Try.f7) (cc := code7) (res := .one 4) (by kernel_rfl) (by kernel_rfl) tr7 (by kernel_rfl) (Nat.le_of_ble_eq_true rfl) rfl (wf7 h)
/-- there may be such a log -/
def Legal (s : api_Shape) (d : List api_Decl) (l : List api_Entry) : Prop := Good s ∧ (∀ i, i < s.Events.length → okD s d i) ∧ l.length ≤ 40 ∧ ∀ k, k < l.length → okE s d l k
theorem ev25 {s : api_Shape} {d : List api_Decl} {l : List api_Entry} {n : Nat} (hn : 64 ≤ n) :
    Ev (s25 n s d l) fun r => (r = none ∧ ¬ Legal s d l) ∨ ∃ g, r = some g ∧ Legal s d l ∧ GI s d l l.length g := by
  unfold s25
  refine Ev.bind (ev37 hn) fun r1 h1 => ?_
  refine Ev.bind (Ev.may (P := fun r => Good s → (r = true ↔ ∀ i, i < s.Events.length → okD s d i)) fun hb => ?_) fun r2 h2 => ?_
  · simp only [Bool.not_eq_true', Bool.or_eq_false_iff, bne_eq_false_iff_eq] at hb
    have hg := h1.1.1 hb.1
    exact (ev38 hg hn).mono fun r h _ => h
  refine Ev.ite (fun hc => Ev.some (.inl ⟨rfl, fun hL => ?_⟩)) (fun hc => ?_)
  · obtain ⟨hg, hd, hl, _⟩ := hL
    have h3 := h1.1.2 hg
    subst h3
    simp only [Bool.or_eq_true, bne_iff_ne, decide_eq_true_eq, Bool.not_eq_true'] at hc
    have h4 := (h2 (by simp; omega) hg).2 hd
    rw [h4] at hc
    simp at hc
    omega
  simp only [Bool.or_eq_false_iff, bne_eq_false_iff_eq, decide_eq_false_iff_not, Bool.not_eq_false'] at hc
  obtain ⟨⟨h3, h4⟩, h5⟩ := hc
  have hg := h1.1.1 h3
  have h40 := hg.n
  have hd := (h2 (by simp [h3]; omega) hg).1 h5
  refine Ev.ask ⟨by omega, by omega⟩ ?_
  have key : Ev (l25_1 n n ⟨s, d, l, List.replicate (s.Events.length : Int).toNat (0 : Int), fun _ => none⟩ l l.length 0) fun o => (o = .ret none ∧ ¬ ∀ k, k < l.length → okE s d l k) ∨ ∃ g, o = .ok g ∧ (∀ k, k < l.length → okE s d l k) ∧ GI s d l l.length g := by
    refine loopEv (N := l.length) (Inv := fun k g => (∀ i, i < k → okE s d l i) ∧ GI s d l k g) (fun m g (k : Nat) => l25_1 n m g l l.length k) ?_ ?_ n 0 _ (Nat.zero_le _) (by omega) ⟨fun i h => absurd h (Nat.not_lt_zero i), rfl, rfl, rfl, ?_, ?_, ?_⟩
    · rintro m k g hk ⟨h6, h7⟩ ih
      show Ev (l25_1 n (m + 1) g l l.length k) _
      rw [l25_1]
      refine Ev.ite (fun hc => ?_) (fun hc => by simp only [decide_eq_false_iff_not] at hc; omega)
      refine Ev.ask ⟨by omega, by omega⟩ ?_
      simp only [Int.toNat_natCast]
      refine Ev.bind (ev39 hg hd hk (by omega) hn h7) fun r hr => ?_
      refine Ev.ite (fun hb => Ev.some (.inl ⟨rfl, fun h' => ?_⟩)) (fun hb => ?_)
      · rw [hr.1.2 (h' k hk)] at hb; cases hb
      · simp only [Bool.not_eq_false'] at hb
        rw [w64_id (by omega) (by omega)]
        refine ih _ ⟨fun i hi => ?_, hr.2 hb⟩
        by_cases hik : i < k
        · exact h6 i hik
        · have : i = k := by omega
          subst this; exact hr.1.1 hb
    · rintro m g ⟨h6, h7⟩
      show Ev (l25_1 n (m + 1) g l l.length l.length) _
      rw [l25_1]
      exact Ev.ite (fun hc => by simp only [decide_eq_true_eq] at hc; omega) (fun _ => Ev.some (.inr ⟨g, rfl, h6, h7⟩))
    · dsimp only
      rw [List.length_replicate, Int.toNat_natCast]
    · intro e he
      simp [atI, List.getD_eq_getElem?_getD, List.getElem?_replicate, he]
    · intro c _ _ _
      rfl
  obtain ⟨o, ho, h⟩ := key
  rw [ho]
  rcases h with ⟨rfl, h⟩ | ⟨g, rfl, h, hG⟩
  · exact Ev.some (.inl ⟨rfl, fun hL => h hL.2.2.2⟩)
  · exact Ev.some (.inr ⟨g, rfl, ⟨hg, hd, by omega, h⟩, hG⟩)
theorem ev9 {s : api_Shape} {d : List api_Decl} {l : List api_Entry} {n : Nat} (hn : 64 ≤ n) : Ev (s9 n s d l) fun r => (r = true ↔ Legal s d l) := by
  unfold s9
  refine Ev.bind (ev23 hn) fun r1 h1 => ?_
  refine Ev.bind (Ev.may fun hb => ev24 (h1.1 hb) hn) fun r2 h2 => Ev.some ?_
  rw [Bool.and_eq_true]
  constructor
  · rintro ⟨h3, h4⟩
    exact ⟨h1.1 h3, (h2 h3).1 h4⟩
  · rintro ⟨h3, h4⟩
    exact ⟨h1.2 h3, (h2 (h1.2 h3)).2 h4⟩
theorem ev22 {s : api_Shape} {d : List api_Decl} {l : List api_Entry} {n : Nat} (hn : 64 ≤ n) : Ev (s22 n s d l) fun r => (r = 0 ↔ Legal s d l) := by
  unfold s22
  refine Ev.bind (ev25 hn) fun r h => ?_
  rcases h with ⟨rfl, h⟩ | ⟨g, rfl, h, _⟩
  · exact Ev.some ⟨fun h' => by simp at h', fun h' => absurd h' h⟩
  · exact Ev.some ⟨fun _ => h, fun _ => rfl⟩
theorem off25 {s : api_Shape} {d : List api_Decl} {l : List api_Entry} {n : Nat} (hn : 64 ≤ n) (h : ¬ Legal s d l) : s25 n s d l = some none := by
  obtain ⟨r, hr, ⟨rfl, _⟩ | ⟨g, _, h', _⟩⟩ := ev25 (s := s) (d := d) (l := l) hn
  · exact hr
  · exact absurd h' h
theorem off19 {s : api_Shape} {d : List api_Decl} {l : List api_Entry} {n : Nat} (hn : 64 ≤ n) (h : ¬ Legal s d l) : s19 n s d l = some [] := by
  unfold s19; rw [off25 hn h]; rfl
theorem off16 {s : api_Shape} {d : List api_Decl} {l : List api_Entry} {n : Nat} (hn : 64 ≤ n) (h : ¬ Legal s d l) : s16 n s d l = some [] := by
  unfold s16; rw [off25 hn h]; rfl
theorem off18 {s : api_Shape} {d : List api_Decl} {l : List api_Entry} {n : Nat} (hn : 64 ≤ n) (h : ¬ Legal s d l) : s18 n s d l = some [] := by
  unfold s18; rw [off25 hn h]; rfl
theorem off11 {s : api_Shape} {d : List api_Decl} {l : List api_Entry} {n : Nat} {p : Int} (hn : 64 ≤ n) (h : ¬ Legal s d l) : s11 n s d l p = some [] := by
  unfold s11; rw [off25 hn h]; rfl
theorem law7 (s : api_Shape) (x : fathomlaw29_Log) : s7 100 s x = some true := by
  refine Ev.run ?_
  unfold s7
  refine Ev.bind (Q := fun _ => True) (by unfold s8; exact Ev.some trivial) fun r0 _ => ?_
  refine Ev.ite (fun _ => ?_) (fun _ => ?_)
  · rw [awake100]; exact Ev.some rfl
  refine Ev.bind (ev9 (by omega)) fun r hr => ?_
  by_cases hL : Legal s x.D x.L
  · have := hr.2 hL
    subst this
    simp only [Bool.not_true, Bool.false_and, Bool.false_eq_true, if_false, Option.bind_some]
    refine Ev.bind (ev22 (by omega)) fun r2 h2 => ?_
    have := h2.2 hL
    subst this
    rw [awake100]
    exact Ev.some rfl
  · have : r = false := by
      cases hb : r with
      | false => rfl
      | true => exact absurd (hr.1 hb) hL
    subst this
    refine Ev.bind (Q := fun r => r = []) (Ev.ite (fun _ => by rw [off19 (by omega) hL]; exact Ev.some rfl) (fun _ => Ev.some rfl)) ?_
    rintro _ rfl
    refine Ev.bind (Q := fun r => r = []) (Ev.ite (fun _ => by rw [off16 (by omega) hL]; exact Ev.some rfl) (fun _ => Ev.some rfl)) ?_
    rintro _ rfl
    refine Ev.bind (Q := fun r => r = []) (Ev.ite (fun _ => by rw [off18 (by omega) hL]; exact Ev.some rfl) (fun _ => Ev.some rfl)) ?_
    rintro _ rfl
    refine Ev.bind (Q := fun r => r = []) (Ev.ite (fun _ => by rw [off11 (by omega) hL]; exact Ev.some rfl) (fun _ => Ev.some rfl)) ?_
    rintro _ rfl
    refine Ev.ite (fun hc => by simp at hc) (fun _ => ?_)
    refine Ev.bind (ev22 (by omega)) fun r2 h2 => ?_
    have h3 : (r2 == 0) = false := by
      rw [beq_eq_false_iff_ne]
      exact fun h => hL (h2.1 h)
    rw [h3, awake100]
    exact Ev.some rfl
end Go.AM
