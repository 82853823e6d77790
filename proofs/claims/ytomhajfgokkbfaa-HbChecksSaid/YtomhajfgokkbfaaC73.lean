/- Part 3 of the proof. HbChecks holds: at every shape of events and every log the law answers true and leaves its arguments as they were. -/
import Derived.Test.YtomhajfgokkbfaaC72
set_option linter.unusedVariables false
set_option linter.unusedSimpArgs false
set_option maxHeartbeats 4000000
set_option maxRecDepth 20000
namespace Go.AM
open Go.RowKit Go.Proofs
def code23_1 : CCode :=
 (.block 0
  (.loop
  (.seq
   (.seq
   (.region [⟨(some 23), (.mv (.tmp 3)), none⟩,
    ⟨(some 24), (.fad 0 (.tmp 1)), none⟩,
    ⟨(some 25), (.load false 1 (.tmp 24)), none⟩,
    ⟨(some 26), (.len 1 (.tmp 25)), none⟩,
    ⟨(some 27), (.bin 0 .lss (.tmp 23) (.tmp 26)), none⟩] none)
   (.cond (.tmp 27)
    .skip
    (.exit 0)))
   (.seq
   (.block 1
    (.seq
    (.region [⟨(some 30), (.fad 0 (.tmp 1)), none⟩,
     ⟨(some 31), (.load false 1 (.tmp 30)), none⟩,
     ⟨(some 32), (.mv (.tmp 3)), none⟩,
     ⟨(some 33), (.idx 4 (.tmp 31) (.tmp 32)), none⟩,
     ⟨(some 34), (.load true 4 (.tmp 33)), none⟩,
     ⟨(some 4), (.alloc [(.int .i64 0), (.int .i64 0), (.int .i64 0), (.int .i64 0)]), none⟩,
     ⟨none, (.store 4 (.tmp 4) (.tmp 34)), none⟩] none)
    (.seq
     (.seq
     (.region [⟨(some 35), (.fad 0 (.tmp 4)), none⟩,
      ⟨(some 36), (.load false 1 (.tmp 35)), none⟩,
      ⟨(some 37), (.bin 0 .lss (.tmp 36) (.const (.int .i64 0))), none⟩,
      ⟨(some 38), (.mv (.tmp 37)), none⟩,
      ⟨(some 39), (.fad 0 (.tmp 4)), (some (38, false))⟩,
      ⟨(some 40), (.load false 1 (.tmp 39)), (some (38, false))⟩,
      ⟨(some 41), (.fad 1 (.tmp 1)), (some (38, false))⟩,
      ⟨(some 42), (.load false 1 (.tmp 41)), (some (38, false))⟩,
      ⟨(some 43), (.len 1 (.tmp 42)), (some (38, false))⟩,
      ⟨(some 44), (.bin 0 .geq (.tmp 40) (.tmp 43)), (some (38, false))⟩,
      ⟨(some 45), (.pick (.tmp 38) (.const (.bool true)) (.tmp 44)), none⟩,
      ⟨(some 46), (.mv (.tmp 45)), none⟩,
      ⟨(some 47), (.fad 1 (.tmp 4)), (some (46, false))⟩,
      ⟨(some 48), (.load false 1 (.tmp 47)), (some (46, false))⟩,
      ⟨(some 49), (.bin 0 .lss (.tmp 48) (.const (.int .i64 0))), (some (46, false))⟩,
      ⟨(some 50), (.pick (.tmp 46) (.const (.bool true)) (.tmp 49)), none⟩,
      ⟨(some 51), (.mv (.tmp 50)), none⟩,
      ⟨(some 52), (.fad 2 (.tmp 4)), (some (51, false))⟩,
      ⟨(some 53), (.load false 1 (.tmp 52)), (some (51, false))⟩,
      ⟨(some 54), (.bin 0 .lss (.tmp 53) (.const (.int .i64 1))), (some (51, false))⟩,
      ⟨(some 55), (.pick (.tmp 51) (.const (.bool true)) (.tmp 54)), none⟩,
      ⟨(some 56), (.mv (.tmp 55)), none⟩,
      ⟨(some 57), (.fad 2 (.tmp 4)), (some (56, false))⟩,
      ⟨(some 58), (.load false 1 (.tmp 57)), (some (56, false))⟩,
      ⟨(some 59), (.bin 0 .gtr (.tmp 58) (.const (.int .i64 11))), (some (56, false))⟩,
      ⟨(some 60), (.pick (.tmp 56) (.const (.bool true)) (.tmp 59)), none⟩,
      ⟨(some 61), (.mv (.tmp 60)), none⟩,
      ⟨(some 62), (.fad 3 (.tmp 4)), (some (61, false))⟩,
      ⟨(some 63), (.load false 1 (.tmp 62)), (some (61, false))⟩,
      ⟨(some 64), (.bin 0 .lss (.tmp 63) (.const (.int .i64 0))), (some (61, false))⟩,
      ⟨(some 65), (.pick (.tmp 61) (.const (.bool true)) (.tmp 64)), none⟩] none)
     (.cond (.tmp 65)
      (.seq
      (.region [⟨(some 2), (.mv (.const (.bool false))), none⟩] none)
      .ret)
      .skip))
     (.seq
     (.seq
      (.region [⟨(some 66), (.mv (.tmp 3)), none⟩,
       ⟨(some 67), (.bin 0 .gtr (.tmp 66) (.const (.int .i64 0))), none⟩,
       ⟨(some 68), (.mv (.tmp 67)), none⟩,
       ⟨(some 69), (.fad 0 (.tmp 4)), (some (68, true))⟩,
       ⟨(some 70), (.load false 1 (.tmp 69)), (some (68, true))⟩,
       ⟨(some 71), (.fad 0 (.tmp 1)), (some (68, true))⟩,
       ⟨(some 72), (.load false 1 (.tmp 71)), (some (68, true))⟩,
       ⟨(some 73), (.mv (.tmp 3)), (some (68, true))⟩,
       ⟨(some 74), (.bin 0 .sub (.tmp 73) (.const (.int .i64 1))), (some (68, true))⟩,
       ⟨(some 75), (.idx 4 (.tmp 72) (.tmp 74)), (some (68, true))⟩,
       ⟨(some 76), (.fad 0 (.tmp 75)), (some (68, true))⟩,
       ⟨(some 77), (.load false 1 (.tmp 76)), (some (68, true))⟩,
       ⟨(some 78), (.bin 0 .lss (.tmp 70) (.tmp 77)), (some (68, true))⟩,
       ⟨(some 79), (.mv (.tmp 78)), (some (68, true))⟩,
       ⟨(some 80), (.fad 0 (.tmp 4)), (some (79, false))⟩,
       ⟨(some 81), (.load false 1 (.tmp 80)), (some (79, false))⟩,
       ⟨(some 82), (.fad 0 (.tmp 1)), (some (79, false))⟩,
       ⟨(some 83), (.load false 1 (.tmp 82)), (some (79, false))⟩,
       ⟨(some 84), (.mv (.tmp 3)), (some (79, false))⟩,
       ⟨(some 85), (.bin 0 .sub (.tmp 84) (.const (.int .i64 1))), (some (79, false))⟩,
       ⟨(some 86), (.idx 4 (.tmp 83) (.tmp 85)), (some (79, false))⟩,
       ⟨(some 87), (.fad 0 (.tmp 86)), (some (79, false))⟩,
       ⟨(some 88), (.load false 1 (.tmp 87)), (some (79, false))⟩,
       ⟨(some 89), (.bin 0 .eql (.tmp 81) (.tmp 88)), (some (79, false))⟩,
       ⟨(some 90), (.mv (.tmp 89)), (some (79, false))⟩,
       ⟨(some 91), (.fad 1 (.tmp 4)), (some (90, true))⟩,
       ⟨(some 92), (.load false 1 (.tmp 91)), (some (90, true))⟩,
       ⟨(some 93), (.fad 0 (.tmp 1)), (some (90, true))⟩,
       ⟨(some 94), (.load false 1 (.tmp 93)), (some (90, true))⟩,
       ⟨(some 95), (.mv (.tmp 3)), (some (90, true))⟩,
       ⟨(some 96), (.bin 0 .sub (.tmp 95) (.const (.int .i64 1))), (some (90, true))⟩,
       ⟨(some 97), (.idx 4 (.tmp 94) (.tmp 96)), (some (90, true))⟩,
       ⟨(some 98), (.fad 1 (.tmp 97)), (some (90, true))⟩,
       ⟨(some 99), (.load false 1 (.tmp 98)), (some (90, true))⟩,
       ⟨(some 100), (.bin 0 .leq (.tmp 92) (.tmp 99)), (some (90, true))⟩,
       ⟨(some 101), (.pick (.tmp 90) (.tmp 100) (.const (.bool false))), (some (79, false))⟩,
       ⟨(some 102), (.pick (.tmp 79) (.const (.bool true)) (.tmp 101)), (some (68, true))⟩,
       ⟨(some 103), (.pick (.tmp 68) (.tmp 102) (.const (.bool false))), none⟩] (some (.take 0 (.take 1 (.take 2 (.take 3 (.take 4 (.take 5 (.take 6 (.take 7 (.take 8 (.take 9 (.take 10 (.take 11 (.take 12 (.take 13 (.take 14 (.take 15 (.take 16 (.take 17 (.take 18 (.take 19 (.take 20 (.take 21 (.take 22 (.take 23 (.take 24 (.take 25 (.take 26 (.take 27 (.take 28 (.take 29 (.take 30 (.take 31 (.take 32 (.take 33 (.take 34 (.take 35 (.take 36 (.take 37 .done))))))))))))))))))))))))))))))))))))))))
      (.cond (.tmp 103)
      (.seq
       (.region [⟨(some 2), (.mv (.const (.bool false))), none⟩] none)
       .ret)
      .skip))
     (.seq
      (.region [⟨(some 104), (.fad 2 (.tmp 4)), none⟩,
       ⟨(some 105), (.load false 1 (.tmp 104)), none⟩,
       ⟨(some 106), (.bin 0 .eql (.tmp 105) (.const (.int .i64 11))), none⟩,
       ⟨(some 107), (.mv (.tmp 106)), none⟩,
       ⟨(some 108), (.fad 3 (.tmp 4)), (some (107, true))⟩,
       ⟨(some 109), (.load false 1 (.tmp 108)), (some (107, true))⟩,
       ⟨(some 110), (.fad 0 (.tmp 4)), (some (107, true))⟩,
       ⟨(some 111), (.load false 1 (.tmp 110)), (some (107, true))⟩,
       ⟨(some 112), (.bin 0 .leq (.tmp 109) (.tmp 111)), (some (107, true))⟩,
       ⟨(some 113), (.mv (.tmp 112)), (some (107, true))⟩,
       ⟨(some 114), (.fad 3 (.tmp 4)), (some (113, false))⟩,
       ⟨(some 115), (.load false 1 (.tmp 114)), (some (113, false))⟩,
       ⟨(some 116), (.fad 1 (.tmp 1)), (some (113, false))⟩,
       ⟨(some 117), (.load false 1 (.tmp 116)), (some (113, false))⟩,
       ⟨(some 118), (.len 1 (.tmp 117)), (some (113, false))⟩,
       ⟨(some 119), (.bin 0 .geq (.tmp 115) (.tmp 118)), (some (113, false))⟩,
       ⟨(some 120), (.pick (.tmp 113) (.const (.bool true)) (.tmp 119)), (some (107, true))⟩,
       ⟨(some 121), (.mv (.tmp 120)), (some (107, true))⟩,
       ⟨(some 122), (.fad 1 (.tmp 1)), (some (121, false))⟩,
       ⟨(some 123), (.load false 1 (.tmp 122)), (some (121, false))⟩,
       ⟨(some 124), (.fad 3 (.tmp 4)), (some (121, false))⟩,
       ⟨(some 125), (.load false 1 (.tmp 124)), (some (121, false))⟩,
       ⟨(some 126), (.idx 1 (.tmp 123) (.tmp 125)), (some (121, false))⟩,
       ⟨(some 127), (.load false 1 (.tmp 126)), (some (121, false))⟩,
       ⟨(some 128), (.mv (.tmp 3)), (some (121, false))⟩,
       ⟨(some 129), (.bin 0 .neq (.tmp 127) (.tmp 128)), (some (121, false))⟩,
       ⟨(some 130), (.pick (.tmp 121) (.const (.bool true)) (.tmp 129)), (some (107, true))⟩,
       ⟨(some 131), (.pick (.tmp 107) (.tmp 130) (.const (.bool false))), none⟩,
       ⟨(some 132), (.mv (.tmp 131)), none⟩,
       ⟨(some 133), (.fad 2 (.tmp 4)), (some (132, false))⟩,
       ⟨(some 134), (.load false 1 (.tmp 133)), (some (132, false))⟩,
       ⟨(some 135), (.bin 0 .neq (.tmp 134) (.const (.int .i64 11))), (some (132, false))⟩,
       ⟨(some 136), (.mv (.tmp 135)), (some (132, false))⟩,
       ⟨(some 137), (.fad 3 (.tmp 4)), (some (136, true))⟩,
       ⟨(some 138), (.load false 1 (.tmp 137)), (some (136, true))⟩,
       ⟨(some 139), (.bin 0 .geq (.tmp 138) (.const (.int .i64 12))), (some (136, true))⟩,
       ⟨(some 140), (.pick (.tmp 136) (.tmp 139) (.const (.bool false))), (some (132, false))⟩,
       ⟨(some 141), (.pick (.tmp 132) (.const (.bool true)) (.tmp 140)), none⟩] none)
      (.cond (.tmp 141)
      (.seq
       (.region [⟨(some 2), (.mv (.const (.bool false))), none⟩] none)
       .ret)
      .skip))))))
   (.region [⟨(some 28), (.mv (.tmp 3)), none⟩,
    ⟨(some 29), (.bin 0 .add (.tmp 28) (.const (.int .i64 1))), none⟩,
    ⟨(some 3), (.mv (.tmp 29)), none⟩] none)))))
def code23_2 : CCode :=
 (.block 2
  (.loop
  (.seq
   (.seq
   (.region [⟨(some 142), (.mv (.tmp 5)), none⟩,
    ⟨(some 143), (.fad 1 (.tmp 1)), none⟩,
    ⟨(some 144), (.load false 1 (.tmp 143)), none⟩,
    ⟨(some 145), (.len 1 (.tmp 144)), none⟩,
    ⟨(some 146), (.bin 0 .lss (.tmp 142) (.tmp 145)), none⟩] none)
   (.cond (.tmp 146)
    .skip
    (.exit 2)))
   (.seq
   (.block 3
    (.seq
    (.region [⟨(some 149), (.fad 1 (.tmp 1)), none⟩,
     ⟨(some 150), (.load false 1 (.tmp 149)), none⟩,
     ⟨(some 151), (.mv (.tmp 5)), none⟩,
     ⟨(some 152), (.idx 1 (.tmp 150) (.tmp 151)), none⟩,
     ⟨(some 153), (.load false 1 (.tmp 152)), none⟩,
     ⟨(some 6), (.mv (.tmp 153)), none⟩] none)
    (.seq
     (.seq
     (.region [⟨(some 154), (.mv (.tmp 6)), none⟩,
      ⟨(some 155), (.bin 0 .lss (.tmp 154) (.const (.int .i64 (-1)))), none⟩,
      ⟨(some 156), (.mv (.tmp 155)), none⟩,
      ⟨(some 157), (.mv (.tmp 6)), (some (156, false))⟩,
      ⟨(some 158), (.fad 0 (.tmp 1)), (some (156, false))⟩,
      ⟨(some 159), (.load false 1 (.tmp 158)), (some (156, false))⟩,
      ⟨(some 160), (.len 1 (.tmp 159)), (some (156, false))⟩,
      ⟨(some 161), (.bin 0 .geq (.tmp 157) (.tmp 160)), (some (156, false))⟩,
      ⟨(some 162), (.pick (.tmp 156) (.const (.bool true)) (.tmp 161)), none⟩] none)
     (.cond (.tmp 162)
      (.seq
      (.region [⟨(some 2), (.mv (.const (.bool false))), none⟩] none)
      .ret)
      .skip))
     (.seq
     (.region [⟨(some 163), (.mv (.tmp 6)), none⟩,
      ⟨(some 164), (.bin 0 .geq (.tmp 163) (.const (.int .i64 0))), none⟩,
      ⟨(some 165), (.mv (.tmp 164)), none⟩,
      ⟨(some 166), (.fad 0 (.tmp 1)), (some (165, true))⟩,
      ⟨(some 167), (.load false 1 (.tmp 166)), (some (165, true))⟩,
      ⟨(some 168), (.mv (.tmp 6)), (some (165, true))⟩,
      ⟨(some 169), (.idx 4 (.tmp 167) (.tmp 168)), (some (165, true))⟩,
      ⟨(some 170), (.fad 2 (.tmp 169)), (some (165, true))⟩,
      ⟨(some 171), (.load false 1 (.tmp 170)), (some (165, true))⟩,
      ⟨(some 172), (.bin 0 .neq (.tmp 171) (.const (.int .i64 11))), (some (165, true))⟩,
      ⟨(some 173), (.mv (.tmp 172)), (some (165, true))⟩,
      ⟨(some 174), (.fad 0 (.tmp 1)), (some (173, false))⟩,
      ⟨(some 175), (.load false 1 (.tmp 174)), (some (173, false))⟩,
      ⟨(some 176), (.mv (.tmp 6)), (some (173, false))⟩,
      ⟨(some 177), (.idx 4 (.tmp 175) (.tmp 176)), (some (173, false))⟩,
      ⟨(some 178), (.fad 3 (.tmp 177)), (some (173, false))⟩,
      ⟨(some 179), (.load false 1 (.tmp 178)), (some (173, false))⟩,
      ⟨(some 180), (.mv (.tmp 5)), (some (173, false))⟩,
      ⟨(some 181), (.bin 0 .neq (.tmp 179) (.tmp 180)), (some (173, false))⟩,
      ⟨(some 182), (.pick (.tmp 173) (.const (.bool true)) (.tmp 181)), (some (165, true))⟩,
      ⟨(some 183), (.pick (.tmp 165) (.tmp 182) (.const (.bool false))), none⟩] none)
     (.cond (.tmp 183)
      (.seq
      (.region [⟨(some 2), (.mv (.const (.bool false))), none⟩] none)
      .ret)
      .skip)))))
   (.region [⟨(some 147), (.mv (.tmp 5)), none⟩,
    ⟨(some 148), (.bin 0 .add (.tmp 147) (.const (.int .i64 1))), none⟩,
    ⟨(some 5), (.mv (.tmp 148)), none⟩] none)))))
def code23 : CCode :=
 (.seq
  (.region [⟨(some 1), (.box 2 (.tmp 0)), none⟩,
   ⟨(some 2), (.mv (.const (.bool false))), none⟩] none)
  (.seq
  (.seq
   (.region [⟨(some 7), (.fad 0 (.tmp 1)), none⟩,
    ⟨(some 8), (.load false 1 (.tmp 7)), none⟩,
    ⟨(some 9), (.len 1 (.tmp 8)), none⟩,
    ⟨(some 10), (.bin 0 .gtr (.tmp 9) (.const (.int .i64 40))), none⟩,
    ⟨(some 11), (.mv (.tmp 10)), none⟩,
    ⟨(some 12), (.fad 1 (.tmp 1)), (some (11, false))⟩,
    ⟨(some 13), (.load false 1 (.tmp 12)), (some (11, false))⟩,
    ⟨(some 14), (.len 1 (.tmp 13)), (some (11, false))⟩,
    ⟨(some 15), (.bin 0 .lss (.tmp 14) (.const (.int .i64 1))), (some (11, false))⟩,
    ⟨(some 16), (.pick (.tmp 11) (.const (.bool true)) (.tmp 15)), none⟩,
    ⟨(some 17), (.mv (.tmp 16)), none⟩,
    ⟨(some 18), (.fad 1 (.tmp 1)), (some (17, false))⟩,
    ⟨(some 19), (.load false 1 (.tmp 18)), (some (17, false))⟩,
    ⟨(some 20), (.len 1 (.tmp 19)), (some (17, false))⟩,
    ⟨(some 21), (.bin 0 .gtr (.tmp 20) (.const (.int .i64 6))), (some (17, false))⟩,
    ⟨(some 22), (.pick (.tmp 17) (.const (.bool true)) (.tmp 21)), none⟩] none)
   (.cond (.tmp 22)
   (.seq
    (.region [⟨(some 2), (.mv (.const (.bool false))), none⟩] none)
    .ret)
   .skip))
  (.seq
   (.seq
   (.region [⟨(some 3), (.mv (.const (.int .i64 0))), none⟩] none)
   code23_1)
   (.seq
   (.seq
    (.region [⟨(some 5), (.mv (.const (.int .i64 0))), none⟩] none)
    code23_2)
   (.seq
    (.region [⟨(some 2), (.mv (.const (.bool true))), none⟩] none)
    .ret)))))
theorem tr23 : (Try.f23.body).bind (trCode Try.prog Try.f23.ntmps) = some code23 := by kernel_rfl
inductive O23_1 where
  | ok (b0 : api_Shape)
  | ret (r : Bool)
def l23_1 (n : Nat) : Nat → api_Shape → Int → Option O23_1
  | 0, _, _ => none
  | m + 1, b0, v3 =>
    if decide (v3 < (b0.Events.length : Int)) then
      if 0 ≤ v3 ∧ v3 < (b0.Events.length : Int) then
        if (((((decide (((b0.Events.getD v3.toNat default).Proc) < 0)) || (decide (((b0.Events.getD v3.toNat default).Proc) ≥ (b0.Starts.length : Int)))) || (decide (((b0.Events.getD v3.toNat default).Inst) < 0))) || (decide (((b0.Events.getD v3.toNat default).Kind) < 1))) || (decide (((b0.Events.getD v3.toNat default).Kind) > 11))) || (decide (((b0.Events.getD v3.toNat default).Obj) < 0)) then
          some (.ret false)
        else
          if (decide (v3 > 0)) = true → 0 ≤ (w64 (v3 - 1)) ∧ (w64 (v3 - 1)) < (b0.Events.length : Int) then
            if (decide (v3 > 0)) = true → (decide (((b0.Events.getD v3.toNat default).Proc) < ((b0.Events.getD (w64 (v3 - 1)).toNat default).Proc))) = false → 0 ≤ (w64 (v3 - 1)) ∧ (w64 (v3 - 1)) < (b0.Events.length : Int) then
              if (decide (v3 > 0)) = true → (decide (((b0.Events.getD v3.toNat default).Proc) < ((b0.Events.getD (w64 (v3 - 1)).toNat default).Proc))) = false → (((b0.Events.getD v3.toNat default).Proc) == ((b0.Events.getD (w64 (v3 - 1)).toNat default).Proc)) = true → 0 ≤ (w64 (v3 - 1)) ∧ (w64 (v3 - 1)) < (b0.Events.length : Int) then
                if (decide (v3 > 0)) && ((decide (((b0.Events.getD v3.toNat default).Proc) < ((b0.Events.getD (w64 (v3 - 1)).toNat default).Proc))) || ((((b0.Events.getD v3.toNat default).Proc) == ((b0.Events.getD (w64 (v3 - 1)).toNat default).Proc)) && (decide (((b0.Events.getD v3.toNat default).Inst) ≤ ((b0.Events.getD (w64 (v3 - 1)).toNat default).Inst))))) then
                  some (.ret false)
                else
                  if (((b0.Events.getD v3.toNat default).Kind) == 11) = true → ((decide (((b0.Events.getD v3.toNat default).Obj) ≤ ((b0.Events.getD v3.toNat default).Proc))) || (decide (((b0.Events.getD v3.toNat default).Obj) ≥ (b0.Starts.length : Int)))) = false → 0 ≤ ((b0.Events.getD v3.toNat default).Obj) ∧ ((b0.Events.getD v3.toNat default).Obj) < (b0.Starts.length : Int) then
                    if ((((b0.Events.getD v3.toNat default).Kind) == 11) && (((decide (((b0.Events.getD v3.toNat default).Obj) ≤ ((b0.Events.getD v3.toNat default).Proc))) || (decide (((b0.Events.getD v3.toNat default).Obj) ≥ (b0.Starts.length : Int)))) || ((b0.Starts.getD ((b0.Events.getD v3.toNat default).Obj).toNat 0) != v3))) || ((((b0.Events.getD v3.toNat default).Kind) != 11) && (decide (((b0.Events.getD v3.toNat default).Obj) ≥ 12))) then
                      some (.ret false)
                    else
                      l23_1 n m b0 (w64 (v3 + 1))
                  else none
              else none
            else none
          else none
      else none
    else
      some (.ok b0)
inductive O23_2 where
  | ok
  | ret (r : Bool)
def l23_2 (n : Nat) : Nat → api_Shape → Int → Option O23_2
  | 0, _, _ => none
  | m + 1, b0, v5 =>
    if decide (v5 < (b0.Starts.length : Int)) then
      if 0 ≤ v5 ∧ v5 < (b0.Starts.length : Int) then
        if (decide ((b0.Starts.getD v5.toNat 0) < (-1))) || (decide ((b0.Starts.getD v5.toNat 0) ≥ (b0.Events.length : Int))) then
          some (.ret false)
        else
          if (decide ((b0.Starts.getD v5.toNat 0) ≥ 0)) = true → 0 ≤ (b0.Starts.getD v5.toNat 0) ∧ (b0.Starts.getD v5.toNat 0) < (b0.Events.length : Int) then
            if (decide ((b0.Starts.getD v5.toNat 0) ≥ 0)) = true → (((b0.Events.getD (b0.Starts.getD v5.toNat 0).toNat default).Kind) != 11) = false → 0 ≤ (b0.Starts.getD v5.toNat 0) ∧ (b0.Starts.getD v5.toNat 0) < (b0.Events.length : Int) then
              if (decide ((b0.Starts.getD v5.toNat 0) ≥ 0)) && ((((b0.Events.getD (b0.Starts.getD v5.toNat 0).toNat default).Kind) != 11) || (((b0.Events.getD (b0.Starts.getD v5.toNat 0).toNat default).Obj) != v5)) then
                some (.ret false)
              else
                l23_2 n m b0 (w64 (v5 + 1))
            else none
          else none
      else none
    else
      some (.ok)
def s23 (n : Nat) (p0 : api_Shape) : Option Bool :=
  if ((decide ((p0.Events.length : Int) > 40)) || (decide ((p0.Starts.length : Int) < 1))) || (decide ((p0.Starts.length : Int) > 6)) then
    some false
  else
    (match l23_1 n n p0 0 with
    | none => none
    | some (.ok b0_46) =>
      (match l23_2 n n b0_46 0 with
      | none => none
      | some (.ok) =>
        some true
      | some (.ret r) =>
        some r)
    | some (.ret r) =>
      some r)
def E23 (r : Bool) (s : AS) : Prop := resOf s (.one 2) = some (.tst r)
theorem t23_1 {n fuel : Nat} {b0 : api_Shape} {v3 : Int} {out : O23_1} (h : l23_1 n fuel b0 v3 = some out) {Q : Ex → AS → Prop} (hok : ∀ b0, out = .ok b0 → Q .normal ⟨[(1, .ptr 0 0)], [(0, .box (api_Shape.cs b0))], 1⟩) (hret : ∀ r, out = .ret r → ∀ s, E23 r s → Q .ret s) : CWP Try.prog Try.f23.ntmps code23_1 Q ⟨[(1, .ptr 0 0), (3, I v3)], [(0, .box (api_Shape.cs b0))], 1⟩ := by
  refine CWP.block ?_
  refine CWP.loop (fun k s => ∃ b0 : api_Shape, ∃ v3 : Int, s = ⟨[(1, .ptr 0 0), (3, I v3)], [(0, .box (api_Shape.cs b0))], 1⟩ ∧ l23_1 n k b0 v3 = some out) fuel ⟨b0, v3, rfl, h⟩ ?_
  clear h
  rintro k s ⟨b0, v3, rfl, h⟩
  cases k with
  | zero => cases h
  | succ m =>
    rw [l23_1] at h
    refine CWP.seq ?_
    refine CWP.seq ?_
    refine CWP.regionT ⟨[(1, .ptr 0 0), (3, I v3), (27, .tst (decide (v3 < (b0.Events.length : Int))))], [(0, .box (api_Shape.cs b0))], 41⟩ ?_ ?_
    · exact Le.keep (live := [1, 3, 27]) (names := [0]) (nx := 41) rfl
    refine CWP.cond (And.intro (fun hc => ?_) (fun hc => ?_))
    · have h := ite_t h hc
      refine CWP.skip ?_
      refine CWP.seq ?_
      refine CWP.block ?_
      refine CWP.seq ?_
      obtain ⟨hs26, h⟩ := ite_some h
      refine CWP.regionT ⟨[(1, .ptr 0 0), (3, I v3), (4, .ptr 81 0)], [(0, .box (api_Shape.cs b0)), (81, .box [I ((b0.Events.getD v3.toNat default).Proc), I ((b0.Events.getD v3.toNat default).Inst), I ((b0.Events.getD v3.toNat default).Kind), I ((b0.Events.getD v3.toNat default).Obj)])], 97⟩ ?_ ?_
      · refine And.intro hs26 ?_
        refine SemOp.ofT ?_
        refine ex_refl ?_
        exact Le.keep (live := [1, 3, 4]) (names := [0, 81]) (nx := 97) rfl
      refine CWP.seq ?_
      refine CWP.seq ?_
      refine CWP.regionT ⟨[(1, .ptr 0 0), (3, I v3), (4, .ptr 81 0), (65, .tst ((((((decide (((b0.Events.getD v3.toNat default).Proc) < 0)) || (decide (((b0.Events.getD v3.toNat default).Proc) ≥ (b0.Starts.length : Int)))) || (decide (((b0.Events.getD v3.toNat default).Inst) < 0))) || (decide (((b0.Events.getD v3.toNat default).Kind) < 1))) || (decide (((b0.Events.getD v3.toNat default).Kind) > 11))) || (decide (((b0.Events.getD v3.toNat default).Obj) < 0))))], [(0, .box (api_Shape.cs b0)), (81, .box [I ((b0.Events.getD v3.toNat default).Proc), I ((b0.Events.getD v3.toNat default).Inst), I ((b0.Events.getD v3.toNat default).Kind), I ((b0.Events.getD v3.toNat default).Obj)])], 345⟩ ?_ ?_
      · refine And.intro (fun hg40 => ?_) (fun hg40 => ?_)
        · have hg40 : (decide (((b0.Events.getD v3.toNat default).Proc) < 0)) = false := hg40
          refine And.intro (fun hg41 => ?_) (fun hg41 => ?_)
          · have hg41 : (decide (((b0.Events.getD v3.toNat default).Proc) ≥ (b0.Starts.length : Int))) = false := hg41
            refine And.intro (fun hg42 => ?_) (fun hg42 => ?_)
            · have hg42 : (decide (((b0.Events.getD v3.toNat default).Inst) < 0)) = false := hg42
              refine And.intro (fun hg43 => ?_) (fun hg43 => ?_)
              · have hg43 : (decide (((b0.Events.getD v3.toNat default).Kind) < 1)) = false := hg43
                refine And.intro (fun hg44 => ?_) (fun hg44 => ?_)
                · have hg44 : (decide (((b0.Events.getD v3.toNat default).Kind) > 11)) = false := hg44
                  exact Le.trans (Le.rep (t := 65) rfl (RepLe.fr rfl (FrLe.tst2 (by simp only [hg40, hg41, hg42, hg43, hg44, sB, reduceIte])))) (Le.keep (live := [1, 3, 4, 65]) (names := [0, 81]) (nx := 345) rfl)
                · have hg44 : (decide (((b0.Events.getD v3.toNat default).Kind) > 11)) = true := hg44
                  exact Le.trans (Le.rep (t := 65) rfl (RepLe.fr rfl (FrLe.tst (by simp only [hg40, hg41, hg42, hg43, hg44, sB, reduceIte])))) (Le.keep (live := [1, 3, 4, 65]) (names := [0, 81]) (nx := 345) rfl)
              · have hg43 : (decide (((b0.Events.getD v3.toNat default).Kind) < 1)) = true := hg43
                exact Le.trans (Le.rep (t := 65) rfl (RepLe.fr rfl (FrLe.tst (by simp only [hg40, hg41, hg42, hg43, sB, reduceIte])))) (Le.keep (live := [1, 3, 4, 65]) (names := [0, 81]) (nx := 345) rfl)
            · have hg42 : (decide (((b0.Events.getD v3.toNat default).Inst) < 0)) = true := hg42
              exact Le.trans (Le.rep (t := 65) rfl (RepLe.fr rfl (FrLe.tst (by simp only [hg40, hg41, hg42, sB, reduceIte])))) (Le.keep (live := [1, 3, 4, 65]) (names := [0, 81]) (nx := 345) rfl)
          · have hg41 : (decide (((b0.Events.getD v3.toNat default).Proc) ≥ (b0.Starts.length : Int))) = true := hg41
            exact Le.trans (Le.rep (t := 65) rfl (RepLe.fr rfl (FrLe.tst (by simp only [hg40, hg41, sB, reduceIte])))) (Le.keep (live := [1, 3, 4, 65]) (names := [0, 81]) (nx := 345) rfl)
        · have hg40 : (decide (((b0.Events.getD v3.toNat default).Proc) < 0)) = true := hg40
          exact Le.trans (Le.rep (t := 65) rfl (RepLe.fr rfl (FrLe.tst (by simp only [hg40, sB, reduceIte])))) (Le.keep (live := [1, 3, 4, 65]) (names := [0, 81]) (nx := 345) rfl)
      refine CWP.cond (And.intro (fun hc => ?_) (fun hc => ?_))
      · have h := ite_t h hc
        refine CWP.seq ?_
        refine CWP.regionT ⟨[(2, .raw (.bool false))], [], 353⟩ ?_ ?_
        · exact Le.keep (live := [2]) (names := []) (nx := 353) rfl
        refine CWP.weaken (Le.rep (t := 2) rfl (RepLe.fr rfl (FrLe.tst rfl))) ?_
        refine CWP.ret ?_
        exact hret _ (Option.some.inj h).symm _ rfl
      · have h := ite_f h hc
        refine CWP.skip ?_
        refine CWP.seq ?_
        refine CWP.seq ?_
        obtain ⟨hs27, h⟩ := ite_some h
        obtain ⟨hs28, h⟩ := ite_some h
        obtain ⟨hs29, h⟩ := ite_some h
        refine CWP.drawT [] [] ⟨[(1, .ptr 0 0), (3, I v3), (4, .ptr 81 0), (103, .tst ((decide (v3 > 0)) && ((decide (((b0.Events.getD v3.toNat default).Proc) < ((b0.Events.getD (w64 (v3 - 1)).toNat default).Proc))) || ((((b0.Events.getD v3.toNat default).Proc) == ((b0.Events.getD (w64 (v3 - 1)).toNat default).Proc)) && (decide (((b0.Events.getD v3.toNat default).Inst) ≤ ((b0.Events.getD (w64 (v3 - 1)).toNat default).Inst)))))))], [(0, .box (api_Shape.cs b0)), (81, .box [I ((b0.Events.getD v3.toNat default).Proc), I ((b0.Events.getD v3.toNat default).Inst), I ((b0.Events.getD v3.toNat default).Kind), I ((b0.Events.getD v3.toNat default).Obj)])], 649⟩ ?_ ?_
        · refine And.intro rfl ?_
          iterate 2 refine And.intro rfl ?_
          refine And.intro (fun hg37 => ?_) (fun hg37 => ?_)
          · have hg37 : (decide (v3 > 0)) = true := hg37
            iterate 7 refine And.intro rfl ?_
            refine And.intro (hs27 (by simp only [hg37, sB, reduceIte])) ?_
            iterate 4 refine And.intro rfl ?_
            refine And.intro (fun hg38 => ?_) (fun hg38 => ?_)
            · have hg38 : (decide (((b0.Events.getD v3.toNat default).Proc) < ((b0.Events.getD (w64 (v3 - 1)).toNat default).Proc))) = false := hg38
              iterate 7 refine And.intro rfl ?_
              refine And.intro (hs28 (by simp only [hg37, hg38, sB, reduceIte]) (by simp only [hg37, hg38, sB, reduceIte])) ?_
              iterate 4 refine And.intro rfl ?_
              refine And.intro (fun hg39 => ?_) (fun hg39 => ?_)
              · have hg39 : (((b0.Events.getD v3.toNat default).Proc) == ((b0.Events.getD (w64 (v3 - 1)).toNat default).Proc)) = true := hg39
                iterate 7 refine And.intro rfl ?_
                refine And.intro (hs29 (by simp only [hg37, hg38, hg39, sB, reduceIte]) (by simp only [hg37, hg38, hg39, sB, reduceIte]) (by simp only [hg37, hg38, hg39, sB, reduceIte])) ?_
                iterate 6 refine And.intro rfl ?_
                exact Le.trans (Le.rep (t := 103) rfl (RepLe.fr rfl (FrLe.tst2 (by simp only [hg37, hg38, hg39, sB, reduceIte])))) (Le.keep (live := [1, 3, 4, 103]) (names := [0, 81]) (nx := 649) rfl)
              · have hg39 : (((b0.Events.getD v3.toNat default).Proc) == ((b0.Events.getD (w64 (v3 - 1)).toNat default).Proc)) = false := hg39
                iterate 3 refine And.intro rfl ?_
                exact Le.trans (Le.rep (t := 103) rfl (RepLe.fr rfl (FrLe.tst (by simp only [hg37, hg38, hg39, sB, reduceIte])))) (Le.keep (live := [1, 3, 4, 103]) (names := [0, 81]) (nx := 649) rfl)
            · have hg38 : (decide (((b0.Events.getD v3.toNat default).Proc) < ((b0.Events.getD (w64 (v3 - 1)).toNat default).Proc))) = true := hg38
              iterate 2 refine And.intro rfl ?_
              exact Le.trans (Le.rep (t := 103) rfl (RepLe.fr rfl (FrLe.tst (by simp only [hg37, hg38, sB, reduceIte])))) (Le.keep (live := [1, 3, 4, 103]) (names := [0, 81]) (nx := 649) rfl)
          · have hg37 : (decide (v3 > 0)) = false := hg37
            refine And.intro rfl ?_
            exact Le.trans (Le.rep (t := 103) rfl (RepLe.fr rfl (FrLe.tst (by simp only [hg37, sB, reduceIte])))) (Le.keep (live := [1, 3, 4, 103]) (names := [0, 81]) (nx := 649) rfl)
        refine CWP.cond (And.intro (fun hc => ?_) (fun hc => ?_))
        · have h := ite_t h hc
          refine CWP.seq ?_
          refine CWP.regionT ⟨[(2, .raw (.bool false))], [], 657⟩ ?_ ?_
          · exact Le.keep (live := [2]) (names := []) (nx := 657) rfl
          refine CWP.weaken (Le.rep (t := 2) rfl (RepLe.fr rfl (FrLe.tst rfl))) ?_
          refine CWP.ret ?_
          exact hret _ (Option.some.inj h).symm _ rfl
        · have h := ite_f h hc
          refine CWP.skip ?_
          refine CWP.seq ?_
          obtain ⟨hs30, h⟩ := ite_some h
          refine CWP.regionT ⟨[(1, .ptr 0 0), (3, I v3), (141, .tst (((((b0.Events.getD v3.toNat default).Kind) == 11) && (((decide (((b0.Events.getD v3.toNat default).Obj) ≤ ((b0.Events.getD v3.toNat default).Proc))) || (decide (((b0.Events.getD v3.toNat default).Obj) ≥ (b0.Starts.length : Int)))) || ((b0.Starts.getD ((b0.Events.getD v3.toNat default).Obj).toNat 0) != v3))) || ((((b0.Events.getD v3.toNat default).Kind) != 11) && (decide (((b0.Events.getD v3.toNat default).Obj) ≥ 12)))))], [(0, .box (api_Shape.cs b0))], 953⟩ ?_ ?_
          · refine And.intro (fun hg31 => ?_) (fun hg31 => ?_)
            · have hg31 : (((b0.Events.getD v3.toNat default).Kind) == 11) = true := hg31
              refine And.intro (fun hg32 => ?_) (fun hg32 => ?_)
              · have hg32 : (decide (((b0.Events.getD v3.toNat default).Obj) ≤ ((b0.Events.getD v3.toNat default).Proc))) = false := hg32
                refine And.intro (fun hg33 => ?_) (fun hg33 => ?_)
                · have hg33 : (decide (((b0.Events.getD v3.toNat default).Obj) ≥ (b0.Starts.length : Int))) = false := hg33
                  refine And.intro (hs30 (by simp only [hg31, hg32, hg33, sB, reduceIte]) (by simp only [hg31, hg32, hg33, sB, reduceIte])) ?_
                  refine And.intro (fun hg34 => ?_) (fun hg34 => ?_)
                  · have hg34 : ((b0.Starts.getD ((b0.Events.getD v3.toNat default).Obj).toNat 0) != v3) = false := hg34
                    refine And.intro (fun hg35 => ?_) (fun hg35 => ?_)
                    · have hg35 : (((b0.Events.getD v3.toNat default).Kind) != 11) = true := hg35
                      exact Le.trans (Le.rep (t := 141) rfl (RepLe.fr rfl (FrLe.tst2 (by simp only [hg31, hg32, hg33, hg34, hg35, sB, reduceIte])))) (Le.keep (live := [1, 3, 141]) (names := [0]) (nx := 953) rfl)
                    · have hg35 : (((b0.Events.getD v3.toNat default).Kind) != 11) = false := hg35
                      exact Le.trans (Le.rep (t := 141) rfl (RepLe.fr rfl (FrLe.tst (by simp only [hg31, hg32, hg33, hg34, hg35, sB, reduceIte])))) (Le.keep (live := [1, 3, 141]) (names := [0]) (nx := 953) rfl)
                  · have hg34 : ((b0.Starts.getD ((b0.Events.getD v3.toNat default).Obj).toNat 0) != v3) = true := hg34
                    exact Le.trans (Le.rep (t := 141) rfl (RepLe.fr rfl (FrLe.tst (by simp only [hg31, hg32, hg33, hg34, sB, reduceIte])))) (Le.keep (live := [1, 3, 141]) (names := [0]) (nx := 953) rfl)
                · have hg33 : (decide (((b0.Events.getD v3.toNat default).Obj) ≥ (b0.Starts.length : Int))) = true := hg33
                  exact Le.trans (Le.rep (t := 141) rfl (RepLe.fr rfl (FrLe.tst (by simp only [hg31, hg32, hg33, sB, reduceIte])))) (Le.keep (live := [1, 3, 141]) (names := [0]) (nx := 953) rfl)
              · have hg32 : (decide (((b0.Events.getD v3.toNat default).Obj) ≤ ((b0.Events.getD v3.toNat default).Proc))) = true := hg32
                exact Le.trans (Le.rep (t := 141) rfl (RepLe.fr rfl (FrLe.tst (by simp only [hg31, hg32, sB, reduceIte])))) (Le.keep (live := [1, 3, 141]) (names := [0]) (nx := 953) rfl)
            · have hg31 : (((b0.Events.getD v3.toNat default).Kind) == 11) = false := hg31
              refine And.intro (fun hg36 => ?_) (fun hg36 => ?_)
              · have hg36 : (((b0.Events.getD v3.toNat default).Kind) != 11) = true := hg36
                exact Le.trans (Le.rep (t := 141) rfl (RepLe.fr rfl (FrLe.tst2 (by simp only [hg31, hg36, sB, reduceIte])))) (Le.keep (live := [1, 3, 141]) (names := [0]) (nx := 953) rfl)
              · have hg36 : (((b0.Events.getD v3.toNat default).Kind) != 11) = false := hg36
                exact Le.trans (Le.rep (t := 141) rfl (RepLe.fr rfl (FrLe.tst (by simp only [hg31, hg36, sB, reduceIte])))) (Le.keep (live := [1, 3, 141]) (names := [0]) (nx := 953) rfl)
          refine CWP.cond (And.intro (fun hc => ?_) (fun hc => ?_))
          · have h := ite_t h hc
            refine CWP.seq ?_
            refine CWP.regionT ⟨[(2, .raw (.bool false))], [], 961⟩ ?_ ?_
            · exact Le.keep (live := [2]) (names := []) (nx := 961) rfl
            refine CWP.weaken (Le.rep (t := 2) rfl (RepLe.fr rfl (FrLe.tst rfl))) ?_
            refine CWP.ret ?_
            exact hret _ (Option.some.inj h).symm _ rfl
          · have h := ite_f h hc
            refine CWP.skip ?_
            refine CWP.regionT ⟨[(1, .ptr 0 0), (3, I (w64 (v3 + 1)))], [(0, .box (api_Shape.cs b0))], 1⟩ ?_ ?_
            · exact Le.trans (Le.keep (live := [1, 3]) (names := [0]) (nx := 977) rfl) (Le.keep (live := [1, 3]) (names := [0]) (nx := 1) rfl)
            exact ⟨m, Nat.lt_succ_self m, _, _, rfl, h⟩
    · have h := ite_f h hc
      refine CWP.exitL (Le.keep (live := [1]) (names := [0]) (nx := 1) rfl) (s' := ⟨[(1, .ptr 0 0)], [(0, .box (api_Shape.cs b0))], 1⟩) ?_
      exact hok _ (Option.some.inj h).symm
theorem t23_2 {n fuel : Nat} {b0 : api_Shape} {v5 : Int} {out : O23_2} (h : l23_2 n fuel b0 v5 = some out) {Q : Ex → AS → Prop} (hok : out = .ok → Q .normal ⟨[], [], 0⟩) (hret : ∀ r, out = .ret r → ∀ s, E23 r s → Q .ret s) : CWP Try.prog Try.f23.ntmps code23_2 Q ⟨[(1, .ptr 0 0), (5, I v5)], [(0, .box (api_Shape.cs b0))], 1⟩ := by
  refine CWP.block ?_
  refine CWP.loop (fun k s => ∃ b0 : api_Shape, ∃ v5 : Int, s = ⟨[(1, .ptr 0 0), (5, I v5)], [(0, .box (api_Shape.cs b0))], 1⟩ ∧ l23_2 n k b0 v5 = some out) fuel ⟨b0, v5, rfl, h⟩ ?_
  clear h
  rintro k s ⟨b0, v5, rfl, h⟩
  cases k with
  | zero => cases h
  | succ m =>
    rw [l23_2] at h
    refine CWP.seq ?_
    refine CWP.seq ?_
    refine CWP.regionT ⟨[(1, .ptr 0 0), (5, I v5), (146, .tst (decide (v5 < (b0.Starts.length : Int))))], [(0, .box (api_Shape.cs b0))], 41⟩ ?_ ?_
    · exact Le.keep (live := [1, 5, 146]) (names := [0]) (nx := 41) rfl
    refine CWP.cond (And.intro (fun hc => ?_) (fun hc => ?_))
    · have h := ite_t h hc
      refine CWP.skip ?_
      refine CWP.seq ?_
      refine CWP.block ?_
      refine CWP.seq ?_
      obtain ⟨hs53, h⟩ := ite_some h
      refine CWP.regionT ⟨[(1, .ptr 0 0), (5, I v5), (6, I (b0.Starts.getD v5.toNat 0))], [(0, .box (api_Shape.cs b0))], 89⟩ ?_ ?_
      · refine And.intro hs53 ?_
        exact Le.keep (live := [1, 5, 6]) (names := [0]) (nx := 89) rfl
      refine CWP.seq ?_
      refine CWP.seq ?_
      refine CWP.regionT ⟨[(1, .ptr 0 0), (5, I v5), (6, I (b0.Starts.getD v5.toNat 0)), (162, .tst ((decide ((b0.Starts.getD v5.toNat 0) < (-1))) || (decide ((b0.Starts.getD v5.toNat 0) ≥ (b0.Events.length : Int)))))], [(0, .box (api_Shape.cs b0))], 161⟩ ?_ ?_
      · refine And.intro (fun hg58 => ?_) (fun hg58 => ?_)
        · have hg58 : (decide ((b0.Starts.getD v5.toNat 0) < (-1))) = false := hg58
          exact Le.trans (Le.rep (t := 162) rfl (RepLe.fr rfl (FrLe.tst2 (by simp only [hg58, sB, reduceIte])))) (Le.keep (live := [1, 5, 6, 162]) (names := [0]) (nx := 161) rfl)
        · have hg58 : (decide ((b0.Starts.getD v5.toNat 0) < (-1))) = true := hg58
          exact Le.trans (Le.rep (t := 162) rfl (RepLe.fr rfl (FrLe.tst (by simp only [hg58, sB, reduceIte])))) (Le.keep (live := [1, 5, 6, 162]) (names := [0]) (nx := 161) rfl)
      refine CWP.cond (And.intro (fun hc => ?_) (fun hc => ?_))
      · have h := ite_t h hc
        refine CWP.seq ?_
        refine CWP.regionT ⟨[(2, .raw (.bool false))], [], 169⟩ ?_ ?_
        · exact Le.keep (live := [2]) (names := []) (nx := 169) rfl
        refine CWP.weaken (Le.rep (t := 2) rfl (RepLe.fr rfl (FrLe.tst rfl))) ?_
        refine CWP.ret ?_
        exact hret _ (Option.some.inj h).symm _ rfl
      · have h := ite_f h hc
        refine CWP.skip ?_
        refine CWP.seq ?_
        obtain ⟨hs54, h⟩ := ite_some h
        obtain ⟨hs55, h⟩ := ite_some h
        refine CWP.regionT ⟨[(1, .ptr 0 0), (5, I v5), (183, .tst ((decide ((b0.Starts.getD v5.toNat 0) ≥ 0)) && ((((b0.Events.getD (b0.Starts.getD v5.toNat 0).toNat default).Kind) != 11) || (((b0.Events.getD (b0.Starts.getD v5.toNat 0).toNat default).Obj) != v5))))], [(0, .box (api_Shape.cs b0))], 329⟩ ?_ ?_
        · refine And.intro (fun hg56 => ?_) (fun hg56 => ?_)
          · have hg56 : (decide ((b0.Starts.getD v5.toNat 0) ≥ 0)) = true := hg56
            refine And.intro (hs54 (by simp only [hg56, sB, reduceIte])) ?_
            refine And.intro (fun hg57 => ?_) (fun hg57 => ?_)
            · have hg57 : (((b0.Events.getD (b0.Starts.getD v5.toNat 0).toNat default).Kind) != 11) = false := hg57
              refine And.intro (hs55 (by simp only [hg56, hg57, sB, reduceIte]) (by simp only [hg56, hg57, sB, reduceIte])) ?_
              exact Le.trans (Le.rep (t := 183) rfl (RepLe.fr rfl (FrLe.tst2 (by simp only [hg56, hg57, sB, reduceIte])))) (Le.keep (live := [1, 5, 183]) (names := [0]) (nx := 329) rfl)
            · have hg57 : (((b0.Events.getD (b0.Starts.getD v5.toNat 0).toNat default).Kind) != 11) = true := hg57
              exact Le.trans (Le.rep (t := 183) rfl (RepLe.fr rfl (FrLe.tst (by simp only [hg56, hg57, sB, reduceIte])))) (Le.keep (live := [1, 5, 183]) (names := [0]) (nx := 329) rfl)
          · have hg56 : (decide ((b0.Starts.getD v5.toNat 0) ≥ 0)) = false := hg56
            exact Le.trans (Le.rep (t := 183) rfl (RepLe.fr rfl (FrLe.tst (by simp only [hg56, sB, reduceIte])))) (Le.keep (live := [1, 5, 183]) (names := [0]) (nx := 329) rfl)
        refine CWP.cond (And.intro (fun hc => ?_) (fun hc => ?_))
        · have h := ite_t h hc
          refine CWP.seq ?_
          refine CWP.regionT ⟨[(2, .raw (.bool false))], [], 337⟩ ?_ ?_
          · exact Le.keep (live := [2]) (names := []) (nx := 337) rfl
          refine CWP.weaken (Le.rep (t := 2) rfl (RepLe.fr rfl (FrLe.tst rfl))) ?_
          refine CWP.ret ?_
          exact hret _ (Option.some.inj h).symm _ rfl
        · have h := ite_f h hc
          refine CWP.skip ?_
          refine CWP.regionT ⟨[(1, .ptr 0 0), (5, I (w64 (v5 + 1)))], [(0, .box (api_Shape.cs b0))], 1⟩ ?_ ?_
          · exact Le.trans (Le.keep (live := [1, 5]) (names := [0]) (nx := 353) rfl) (Le.keep (live := [1, 5]) (names := [0]) (nx := 1) rfl)
          exact ⟨m, Nat.lt_succ_self m, _, _, rfl, h⟩
    · have h := ite_f h hc
      refine CWP.exitL (Le.keep (live := []) (names := []) (nx := 0) rfl) (s' := ⟨[], [], 0⟩) ?_
      exact hok (Option.some.inj h).symm
theorem wf23 {n : Nat} {p0 : api_Shape} {r : Bool} (h : s23 n p0 = some r) : CWP Try.prog Try.f23.ntmps code23 (AtE (E23 r)) ⟨[(0, .agg (api_Shape.cs p0))], [], 0⟩ := by
  unfold s23 at h
  refine CWP.seq ?_
  refine CWP.regionT ⟨[(1, .ptr 0 0)], [(0, .box (api_Shape.cs p0))], 16⟩ ?_ ?_
  · exact Le.keep (live := [1]) (names := [0]) (nx := 16) rfl
  refine CWP.seq ?_
  refine CWP.seq ?_
  refine CWP.regionT ⟨[(1, .ptr 0 0), (22, .tst (((decide ((p0.Events.length : Int) > 40)) || (decide ((p0.Starts.length : Int) < 1))) || (decide ((p0.Starts.length : Int) > 6))))], [(0, .box (api_Shape.cs p0))], 144⟩ ?_ ?_
  · refine And.intro (fun hg61 => ?_) (fun hg61 => ?_)
    · have hg61 : (decide ((p0.Events.length : Int) > 40)) = false := hg61
      refine And.intro (fun hg62 => ?_) (fun hg62 => ?_)
      · have hg62 : (decide ((p0.Starts.length : Int) < 1)) = false := hg62
        exact Le.trans (Le.rep (t := 22) rfl (RepLe.fr rfl (FrLe.tst2 (by simp only [hg61, hg62, sB, reduceIte])))) (Le.keep (live := [1, 22]) (names := [0]) (nx := 144) rfl)
      · have hg62 : (decide ((p0.Starts.length : Int) < 1)) = true := hg62
        exact Le.trans (Le.rep (t := 22) rfl (RepLe.fr rfl (FrLe.tst (by simp only [hg61, hg62, sB, reduceIte])))) (Le.keep (live := [1, 22]) (names := [0]) (nx := 144) rfl)
    · have hg61 : (decide ((p0.Events.length : Int) > 40)) = true := hg61
      exact Le.trans (Le.rep (t := 22) rfl (RepLe.fr rfl (FrLe.tst (by simp only [hg61, sB, reduceIte])))) (Le.keep (live := [1, 22]) (names := [0]) (nx := 144) rfl)
  refine CWP.cond (And.intro (fun hc => ?_) (fun hc => ?_))
  · have h := ite_t h hc
    refine CWP.seq ?_
    refine CWP.regionT ⟨[(2, .raw (.bool false))], [], 152⟩ ?_ ?_
    · exact Le.keep (live := [2]) (names := []) (nx := 152) rfl
    refine CWP.weaken (Le.rep (t := 2) rfl (RepLe.fr rfl (FrLe.tst rfl))) ?_
    refine CWP.ret ?_
    have e := Option.some.inj h
    subst e
    exact rfl
  · have h := ite_f h hc
    refine CWP.skip ?_
    refine CWP.seq ?_
    refine CWP.seq ?_
    refine CWP.regionT ⟨[(1, .ptr 0 0), (3, I 0)], [(0, .box (api_Shape.cs p0))], 152⟩ ?_ ?_
    · exact Le.keep (live := [1, 3]) (names := [0]) (nx := 152) rfl
    generalize hn45 : l23_1 n n p0 0 = o45 at h
    rcases o45 with _ | o45
    · cases h
    refine CWP.weaken (s' := ⟨[(1, .ptr 0 0), (3, I 0)], [(0, .box (api_Shape.cs p0))], 1⟩) (Le.keep (live := [1, 3]) (names := [0]) (nx := 1) rfl) ?_
    refine t23_1 hn45 ?_ ?_
    · intro b0_46 e
      subst e
      dsimp only at h
      refine CWP.seq ?_
      refine CWP.seq ?_
      refine CWP.regionT ⟨[(1, .ptr 0 0), (5, I 0)], [(0, .box (api_Shape.cs b0_46))], 9⟩ ?_ ?_
      · exact Le.keep (live := [1, 5]) (names := [0]) (nx := 9) rfl
      generalize hn59 : l23_2 n n b0_46 0 = o59 at h
      rcases o59 with _ | o59
      · cases h
      refine CWP.weaken (s' := ⟨[(1, .ptr 0 0), (5, I 0)], [(0, .box (api_Shape.cs b0_46))], 1⟩) (Le.keep (live := [1, 5]) (names := [0]) (nx := 1) rfl) ?_
      refine t23_2 hn59 ?_ ?_
      · intro e
        subst e
        dsimp only at h
        refine CWP.seq ?_
        refine CWP.regionT ⟨[(2, .raw (.bool true))], [], 8⟩ ?_ ?_
        · exact Le.keep (live := [2]) (names := []) (nx := 8) rfl
        refine CWP.weaken (Le.rep (t := 2) rfl (RepLe.fr rfl (FrLe.tst rfl))) ?_
        refine CWP.ret ?_
        have e := Option.some.inj h
        subst e
        exact rfl
      · intro r e s hs
        subst e
        dsimp only at h
        have e := Option.some.inj h
        subst e
        exact hs
    · intro r e s hs
      subst e
      dsimp only at h
      have e := Option.some.inj h
      subst e
      exact hs
theorem c23 {n : Nat} {p0 : api_Shape} {r : Bool} (h : s23 n p0 = some r) : FC Try.prog 23 [.agg (api_Shape.cs p0)] (.tst r) [] false := FC.pureE (fn := Try.f23) (cc := code23) (res := .one 2) (by kernel_rfl) (by kernel_rfl) tr23 (by kernel_rfl) (Nat.le_of_ble_eq_true rfl) rfl (wf23 h)
def code54_1 : CCode :=
 (.seq
  (.region [⟨(some 5), (.bin 0 .eql (.tmp 3) (.const (.int .i64 1))), none⟩,
   ⟨(some 4), (.mv (.tmp 5)), none⟩] none)
  (.cond (.tmp 4)
  .skip
  (.region [⟨(some 6), (.bin 0 .eql (.tmp 3) (.const (.int .i64 2))), none⟩,
   ⟨(some 4), (.mv (.tmp 6)), none⟩] none)))
def code54_2 : CCode :=
 (.seq
  (.region [⟨(some 8), (.bin 0 .eql (.tmp 3) (.const (.int .i64 3))), none⟩,
   ⟨(some 7), (.mv (.tmp 8)), none⟩] none)
  (.cond (.tmp 7)
  .skip
  (.seq
   (.region [⟨(some 9), (.bin 0 .eql (.tmp 3) (.const (.int .i64 4))), none⟩,
    ⟨(some 7), (.mv (.tmp 9)), none⟩] none)
   (.cond (.tmp 7)
   .skip
   (.seq
    (.region [⟨(some 10), (.bin 0 .eql (.tmp 3) (.const (.int .i64 5))), none⟩,
     ⟨(some 7), (.mv (.tmp 10)), none⟩] none)
    (.cond (.tmp 7)
    .skip
    (.region [⟨(some 11), (.bin 0 .eql (.tmp 3) (.const (.int .i64 6))), none⟩,
     ⟨(some 7), (.mv (.tmp 11)), none⟩] none)))))))
def code54_3 : CCode :=
 (.seq
  (.region [⟨(some 13), (.bin 0 .eql (.tmp 3) (.const (.int .i64 7))), none⟩,
   ⟨(some 12), (.mv (.tmp 13)), none⟩] none)
  (.cond (.tmp 12)
  .skip
  (.region [⟨(some 14), (.bin 0 .eql (.tmp 3) (.const (.int .i64 8))), none⟩,
   ⟨(some 12), (.mv (.tmp 14)), none⟩] none)))
def code54_4 : CCode :=
 (.seq
  (.region [⟨(some 16), (.bin 0 .eql (.tmp 3) (.const (.int .i64 9))), none⟩,
   ⟨(some 15), (.mv (.tmp 16)), none⟩] none)
  (.cond (.tmp 15)
  .skip
  (.region [⟨(some 17), (.bin 0 .eql (.tmp 3) (.const (.int .i64 10))), none⟩,
   ⟨(some 15), (.mv (.tmp 17)), none⟩] none)))
def code54 : CCode :=
 (.seq
  (.region [⟨(some 2), (.mv (.const (.int .i64 0))), none⟩] none)
  (.seq
  (.seq
   (.region [⟨(some 3), (.mv (.tmp 0)), none⟩] none)
   (.block 0
   (.seq
    code54_1
    (.cond (.tmp 4)
    (.seq
     (.region [⟨(some 2), (.mv (.const (.int .i64 1))), none⟩] none)
     .ret)
    (.seq
     code54_2
     (.cond (.tmp 7)
     (.seq
      (.region [⟨(some 2), (.mv (.const (.int .i64 2))), none⟩] none)
      .ret)
     (.seq
      code54_3
      (.cond (.tmp 12)
      (.seq
       (.region [⟨(some 2), (.mv (.const (.int .i64 3))), none⟩] none)
       .ret)
      (.seq
       code54_4
       (.cond (.tmp 15)
       (.seq
        (.region [⟨(some 2), (.mv (.const (.int .i64 4))), none⟩] none)
        .ret)
       .skip))))))))))
  (.seq
   (.region [⟨(some 2), (.mv (.const (.int .i64 0))), none⟩] none)
   .ret)))
theorem tr54 : (Try.f54.body).bind (trCode Try.prog Try.f54.ntmps) = some code54 := by kernel_rfl
inductive O54_1 where
  | ok (v3 : Int) (v4 : Bool)
def l54_1 (n : Nat) (v3 : Int) : Option O54_1 :=
  if v3 == 1 then
    some (.ok v3 (v3 == 1))
  else
    some (.ok v3 (v3 == 2))
inductive O54_2 where
  | ok (v3 : Int) (v7 : Bool)
def l54_2 (n : Nat) (v3 : Int) : Option O54_2 :=
  if v3 == 3 then
    some (.ok v3 (v3 == 3))
  else
    if v3 == 4 then
      some (.ok v3 (v3 == 4))
    else
      if v3 == 5 then
        some (.ok v3 (v3 == 5))
      else
        some (.ok v3 (v3 == 6))
inductive O54_3 where
  | ok (v12 : Bool) (v3 : Int)
def l54_3 (n : Nat) (v3 : Int) : Option O54_3 :=
  if v3 == 7 then
    some (.ok (v3 == 7) v3)
  else
    some (.ok (v3 == 8) v3)
inductive O54_4 where
  | ok (v15 : Bool)
def l54_4 (n : Nat) (v3 : Int) : Option O54_4 :=
  if v3 == 9 then
    some (.ok (v3 == 9))
  else
    some (.ok (v3 == 10))
def s54 (n : Nat) (p0 : Int) : Option Int :=
  (match l54_1 n p0 with
  | none => none
  | some (.ok v3_58 v4_58) =>
    if v4_58 then
      some 1
    else
      (match l54_2 n v3_58 with
      | none => none
      | some (.ok v3_60 v7_60) =>
        if v7_60 then
          some 2
        else
          (match l54_3 n v3_60 with
          | none => none
          | some (.ok v12_62 v3_62) =>
            if v12_62 then
              some 3
            else
              (match l54_4 n v3_62 with
              | none => none
              | some (.ok v15_64) =>
                if v15_64 then
                  some 4
                else
                  some 0))))
def E54 (r : Int) (s : AS) : Prop := resOf s (.one 2) = some (I r)
theorem t54_1 {n : Nat} {v3 : Int} {out : O54_1} (h : l54_1 n v3 = some out) {Q : Ex → AS → Prop} (hok : ∀ v3 v4, out = .ok v3 v4 → Q .normal ⟨[(3, I v3), (4, .tst v4)], [], 0⟩) : CWP Try.prog Try.f54.ntmps code54_1 Q ⟨[(3, I v3)], [], 0⟩ := by
  unfold l54_1 at h
  refine CWP.seq ?_
  refine CWP.regionT ⟨[(3, I v3), (4, .tst (v3 == 1))], [], 16⟩ ?_ ?_
  · exact Le.keep (live := [3, 4]) (names := []) (nx := 16) rfl
  refine CWP.cond (And.intro (fun hc => ?_) (fun hc => ?_))
  · have h := ite_t h hc
    refine CWP.skipL (Le.keep (live := [3, 4]) (names := []) (nx := 0) rfl) (s' := ⟨[(3, I v3), (4, .tst (v3 == 1))], [], 0⟩) ?_
    exact hok _ _ (Option.some.inj h).symm
  · have h := ite_f h hc
    refine CWP.regionT ⟨[(3, I v3), (4, .tst (v3 == 2))], [], 0⟩ ?_ ?_
    · exact Le.trans (Le.keep (live := [3, 4]) (names := []) (nx := 32) rfl) (Le.keep (live := [3, 4]) (names := []) (nx := 0) rfl)
    exact hok _ _ (Option.some.inj h).symm
theorem t54_2 {n : Nat} {v3 : Int} {out : O54_2} (h : l54_2 n v3 = some out) {Q : Ex → AS → Prop} (hok : ∀ v3 v7, out = .ok v3 v7 → Q .normal ⟨[(3, I v3), (7, .tst v7)], [], 0⟩) : CWP Try.prog Try.f54.ntmps code54_2 Q ⟨[(3, I v3)], [], 0⟩ := by
  unfold l54_2 at h
  refine CWP.seq ?_
  refine CWP.regionT ⟨[(3, I v3), (7, .tst (v3 == 3))], [], 16⟩ ?_ ?_
  · exact Le.keep (live := [3, 7]) (names := []) (nx := 16) rfl
  refine CWP.cond (And.intro (fun hc => ?_) (fun hc => ?_))
  · have h := ite_t h hc
    refine CWP.skipL (Le.keep (live := [3, 7]) (names := []) (nx := 0) rfl) (s' := ⟨[(3, I v3), (7, .tst (v3 == 3))], [], 0⟩) ?_
    exact hok _ _ (Option.some.inj h).symm
  · have h := ite_f h hc
    refine CWP.seq ?_
    refine CWP.regionT ⟨[(3, I v3), (7, .tst (v3 == 4))], [], 32⟩ ?_ ?_
    · exact Le.keep (live := [3, 7]) (names := []) (nx := 32) rfl
    refine CWP.cond (And.intro (fun hc => ?_) (fun hc => ?_))
    · have h := ite_t h hc
      refine CWP.skipL (Le.keep (live := [3, 7]) (names := []) (nx := 0) rfl) (s' := ⟨[(3, I v3), (7, .tst (v3 == 4))], [], 0⟩) ?_
      exact hok _ _ (Option.some.inj h).symm
    · have h := ite_f h hc
      refine CWP.seq ?_
      refine CWP.regionT ⟨[(3, I v3), (7, .tst (v3 == 5))], [], 48⟩ ?_ ?_
      · exact Le.keep (live := [3, 7]) (names := []) (nx := 48) rfl
      refine CWP.cond (And.intro (fun hc => ?_) (fun hc => ?_))
      · have h := ite_t h hc
        refine CWP.skipL (Le.keep (live := [3, 7]) (names := []) (nx := 0) rfl) (s' := ⟨[(3, I v3), (7, .tst (v3 == 5))], [], 0⟩) ?_
        exact hok _ _ (Option.some.inj h).symm
      · have h := ite_f h hc
        refine CWP.regionT ⟨[(3, I v3), (7, .tst (v3 == 6))], [], 0⟩ ?_ ?_
        · exact Le.trans (Le.keep (live := [3, 7]) (names := []) (nx := 64) rfl) (Le.keep (live := [3, 7]) (names := []) (nx := 0) rfl)
        exact hok _ _ (Option.some.inj h).symm
theorem t54_3 {n : Nat} {v3 : Int} {out : O54_3} (h : l54_3 n v3 = some out) {Q : Ex → AS → Prop} (hok : ∀ v12 v3, out = .ok v12 v3 → Q .normal ⟨[(3, I v3), (12, .tst v12)], [], 0⟩) : CWP Try.prog Try.f54.ntmps code54_3 Q ⟨[(3, I v3)], [], 0⟩ := by
  unfold l54_3 at h
  refine CWP.seq ?_
  refine CWP.regionT ⟨[(3, I v3), (12, .tst (v3 == 7))], [], 16⟩ ?_ ?_
  · exact Le.keep (live := [3, 12]) (names := []) (nx := 16) rfl
  refine CWP.cond (And.intro (fun hc => ?_) (fun hc => ?_))
  · have h := ite_t h hc
    refine CWP.skipL (Le.keep (live := [3, 12]) (names := []) (nx := 0) rfl) (s' := ⟨[(3, I v3), (12, .tst (v3 == 7))], [], 0⟩) ?_
    exact hok _ _ (Option.some.inj h).symm
  · have h := ite_f h hc
    refine CWP.regionT ⟨[(3, I v3), (12, .tst (v3 == 8))], [], 0⟩ ?_ ?_
    · exact Le.trans (Le.keep (live := [3, 12]) (names := []) (nx := 32) rfl) (Le.keep (live := [3, 12]) (names := []) (nx := 0) rfl)
    exact hok _ _ (Option.some.inj h).symm
theorem t54_4 {n : Nat} {v3 : Int} {out : O54_4} (h : l54_4 n v3 = some out) {Q : Ex → AS → Prop} (hok : ∀ v15, out = .ok v15 → Q .normal ⟨[(15, .tst v15)], [], 0⟩) : CWP Try.prog Try.f54.ntmps code54_4 Q ⟨[(3, I v3)], [], 0⟩ := by
  unfold l54_4 at h
  refine CWP.seq ?_
  refine CWP.regionT ⟨[(3, I v3), (15, .tst (v3 == 9))], [], 16⟩ ?_ ?_
  · exact Le.keep (live := [3, 15]) (names := []) (nx := 16) rfl
  refine CWP.cond (And.intro (fun hc => ?_) (fun hc => ?_))
  · have h := ite_t h hc
    refine CWP.skipL (Le.keep (live := [15]) (names := []) (nx := 0) rfl) (s' := ⟨[(15, .tst (v3 == 9))], [], 0⟩) ?_
    exact hok _ (Option.some.inj h).symm
  · have h := ite_f h hc
    refine CWP.regionT ⟨[(15, .tst (v3 == 10))], [], 0⟩ ?_ ?_
    · exact Le.trans (Le.keep (live := [15]) (names := []) (nx := 32) rfl) (Le.keep (live := [15]) (names := []) (nx := 0) rfl)
    exact hok _ (Option.some.inj h).symm
theorem wf54 {n : Nat} {p0 : Int} {r : Int} (h : s54 n p0 = some r) : CWP Try.prog Try.f54.ntmps code54 (AtE (E54 r)) ⟨[(0, I p0)], [], 0⟩ := by
  unfold s54 at h
  refine CWP.seq ?_
  refine CWP.regionT ⟨[(0, I p0)], [], 8⟩ ?_ ?_
  · exact Le.keep (live := [0]) (names := []) (nx := 8) rfl
  refine CWP.seq ?_
  refine CWP.seq ?_
  refine CWP.regionT ⟨[(3, I p0)], [], 16⟩ ?_ ?_
  · exact Le.keep (live := [3]) (names := []) (nx := 16) rfl
  refine CWP.block ?_
  refine CWP.seq ?_
  generalize hn57 : l54_1 n p0 = o57 at h
  rcases o57 with _ | o57
  · cases h
  refine CWP.weaken (s' := ⟨[(3, I p0)], [], 0⟩) (Le.keep (live := [3]) (names := []) (nx := 0) rfl) ?_
  refine t54_1 hn57 ?_
  · intro v3_58 v4_58 e
    subst e
    dsimp only at h
    refine CWP.cond (And.intro (fun hc => ?_) (fun hc => ?_))
    · have h := ite_t h hc
      refine CWP.seq ?_
      refine CWP.regionT ⟨[(2, I 1)], [], 8⟩ ?_ ?_
      · exact Le.keep (live := [2]) (names := []) (nx := 8) rfl
      refine CWP.ret ?_
      have e := Option.some.inj h
      subst e
      exact rfl
    · have h := ite_f h hc
      refine CWP.seq ?_
      generalize hn59 : l54_2 n v3_58 = o59 at h
      rcases o59 with _ | o59
      · cases h
      refine CWP.weaken (s' := ⟨[(3, I v3_58)], [], 0⟩) (Le.keep (live := [3]) (names := []) (nx := 0) rfl) ?_
      refine t54_2 hn59 ?_
      · intro v3_60 v7_60 e
        subst e
        dsimp only at h
        refine CWP.cond (And.intro (fun hc => ?_) (fun hc => ?_))
        · have h := ite_t h hc
          refine CWP.seq ?_
          refine CWP.regionT ⟨[(2, I 2)], [], 8⟩ ?_ ?_
          · exact Le.keep (live := [2]) (names := []) (nx := 8) rfl
          refine CWP.ret ?_
          have e := Option.some.inj h
          subst e
          exact rfl
        · have h := ite_f h hc
          refine CWP.seq ?_
          generalize hn61 : l54_3 n v3_60 = o61 at h
          rcases o61 with _ | o61
          · cases h
          refine CWP.weaken (s' := ⟨[(3, I v3_60)], [], 0⟩) (Le.keep (live := [3]) (names := []) (nx := 0) rfl) ?_
          refine t54_3 hn61 ?_
          · intro v12_62 v3_62 e
            subst e
            dsimp only at h
            refine CWP.cond (And.intro (fun hc => ?_) (fun hc => ?_))
            · have h := ite_t h hc
              refine CWP.seq ?_
              refine CWP.regionT ⟨[(2, I 3)], [], 8⟩ ?_ ?_
              · exact Le.keep (live := [2]) (names := []) (nx := 8) rfl
              refine CWP.ret ?_
              have e := Option.some.inj h
              subst e
              exact rfl
            · have h := ite_f h hc
              refine CWP.seq ?_
              generalize hn63 : l54_4 n v3_62 = o63 at h
              rcases o63 with _ | o63
              · cases h
              refine CWP.weaken (s' := ⟨[(3, I v3_62)], [], 0⟩) (Le.keep (live := [3]) (names := []) (nx := 0) rfl) ?_
              refine t54_4 hn63 ?_
              · intro v15_64 e
                subst e
                dsimp only at h
                refine CWP.cond (And.intro (fun hc => ?_) (fun hc => ?_))
                · have h := ite_t h hc
                  refine CWP.seq ?_
                  refine CWP.regionT ⟨[(2, I 4)], [], 8⟩ ?_ ?_
                  · exact Le.keep (live := [2]) (names := []) (nx := 8) rfl
                  refine CWP.ret ?_
                  have e := Option.some.inj h
                  subst e
                  exact rfl
                · have h := ite_f h hc
                  refine CWP.skip ?_
                  refine CWP.seq ?_
                  refine CWP.regionT ⟨[(2, I 0)], [], 8⟩ ?_ ?_
                  · exact Le.keep (live := [2]) (names := []) (nx := 8) rfl
                  refine CWP.ret ?_
                  have e := Option.some.inj h
                  subst e
                  exact rfl
theorem c54 {n : Nat} {p0 : Int} {r : Int} (h : s54 n p0 = some r) : FC Try.prog 54 [I p0] (I r) [] false := FC.pureE (fn := Try.f54) (cc := code54) (res := .one 2) (by kernel_rfl) (by kernel_rfl) tr54 (by kernel_rfl) (Nat.le_of_ble_eq_true rfl) rfl (wf54 h)
def code53 : CCode :=
 (.seq
  (.region [⟨(some 2), (.box 4 (.tmp 0)), none⟩,
   ⟨(some 3), (.mv (.const (.bool false))), none⟩] none)
  (.seq
  (.region [⟨(some 5), (.fad 2 (.tmp 2)), none⟩,
   ⟨(some 6), (.load false 1 (.tmp 5)), none⟩,
   ⟨(some 7), (.call (.func 54) [(.tmp 6)]), none⟩,
   ⟨(some 4), (.mv (.tmp 7)), none⟩] none)
  (.seq
   (.region [⟨(some 8), (.mv (.tmp 4)), none⟩,
    ⟨(some 9), (.bin 0 .gtr (.tmp 8) (.const (.int .i64 0))), none⟩,
    ⟨(some 10), (.mv (.tmp 9)), none⟩,
    ⟨(some 11), (.fad 3 (.tmp 2)), (some (10, true))⟩,
    ⟨(some 12), (.load false 1 (.tmp 11)), (some (10, true))⟩,
    ⟨(some 13), (.load false 1 (.tmp 1)), (some (10, true))⟩,
    ⟨(some 14), (.len 1 (.tmp 13)), (some (10, true))⟩,
    ⟨(some 15), (.bin 0 .geq (.tmp 12) (.tmp 14)), (some (10, true))⟩,
    ⟨(some 16), (.mv (.tmp 15)), (some (10, true))⟩,
    ⟨(some 17), (.load false 1 (.tmp 1)), (some (16, false))⟩,
    ⟨(some 18), (.fad 3 (.tmp 2)), (some (16, false))⟩,
    ⟨(some 19), (.load false 1 (.tmp 18)), (some (16, false))⟩,
    ⟨(some 20), (.idx 4 (.tmp 17) (.tmp 19)), (some (16, false))⟩,
    ⟨(some 21), (.fad 0 (.tmp 20)), (some (16, false))⟩,
    ⟨(some 22), (.load false 1 (.tmp 21)), (some (16, false))⟩,
    ⟨(some 23), (.mv (.tmp 4)), (some (16, false))⟩,
    ⟨(some 24), (.bin 0 .neq (.tmp 22) (.tmp 23)), (some (16, false))⟩,
    ⟨(some 25), (.pick (.tmp 16) (.const (.bool true)) (.tmp 24)), (some (10, true))⟩,
    ⟨(some 26), (.pick (.tmp 10) (.tmp 25) (.const (.bool false))), none⟩,
    ⟨(some 3), (.mv (.tmp 26)), none⟩] none)
   .ret)))
theorem tr53 : (Try.f53.body).bind (trCode Try.prog Try.f53.ntmps) = some code53 := by kernel_rfl
def s53_dfp26 (n : Nat) (p0 : api_Event) (p1 : List api_Decl) : Option Bool :=
  (s54 n p0.Kind).bind fun r56 =>
  if (decide (r56 > 0)) = true → (decide (p0.Obj ≥ (p1.length : Int))) = false → 0 ≤ p0.Obj ∧ p0.Obj < (p1.length : Int) then
    some ((decide (r56 > 0)) && ((decide (p0.Obj ≥ (p1.length : Int))) || (((p1.getD p0.Obj.toNat default).Kind) != r56)))
  else none
def E53_dfp26 (r : Bool) (s : AS) : Prop := resOf s (.one 3) = some (.tst r)
theorem wf53_dfp26 {n : Nat} {p0 : api_Event} {p1 : List api_Decl} {r : Bool} (h : s53_dfp26 n p0 p1 = some r) : CWP Try.prog Try.f53.ntmps code53 (AtE (E53_dfp26 r)) ⟨[(0, .agg (api_Event.cs p0)), (1, .fpt 1 ((fun (x : List api_Decl) _ => api_Decl.sl x) p1))], [], 0⟩ := by
  unfold s53_dfp26 at h
  refine CWP.seq ?_
  refine CWP.regionT ⟨[(1, .fpt 1 ((fun (x : List api_Decl) _ => api_Decl.sl x) p1)), (2, .ptr 0 0)], [(0, .box (api_Event.cs p0))], 16⟩ ?_ ?_
  · exact Le.keep (live := [1, 2]) (names := [0]) (nx := 16) rfl
  refine CWP.seq ?_
  obtain ⟨r56, hr56, h⟩ := Option.bind_eq_some_iff.1 h
  refine CWP.regionT ⟨[(1, .fpt 1 ((fun (x : List api_Decl) _ => api_Decl.sl x) p1)), (2, .ptr 0 0), (4, I r56)], [(0, .box (api_Event.cs p0))], 48⟩ ?_ ?_
  · refine FC.semT rfl rfl rfl trivial (c54 hr56) (Or.inl rfl) ?_
    refine ex_refl ?_
    exact Le.keep (live := [1, 2, 4]) (names := [0]) (nx := 48) rfl
  refine CWP.seq ?_
  obtain ⟨hs57, h⟩ := ite_some h
  refine CWP.regionT ⟨[(3, .tst ((decide (r56 > 0)) && ((decide (p0.Obj ≥ (p1.length : Int))) || (((p1.getD p0.Obj.toNat default).Kind) != r56))))], [], 208⟩ ?_ ?_
  · refine And.intro (fun hg58 => ?_) (fun hg58 => ?_)
    · have hg58 : (decide (r56 > 0)) = true := hg58
      refine And.intro (fun hg59 => ?_) (fun hg59 => ?_)
      · have hg59 : (decide (p0.Obj ≥ (p1.length : Int))) = false := hg59
        refine And.intro (hs57 (by simp only [hg58, hg59, sB, reduceIte]) (by simp only [hg58, hg59, sB, reduceIte])) ?_
        exact Le.trans (Le.rep (t := 3) rfl (RepLe.fr rfl (FrLe.tst2 (by simp only [hg58, hg59, sB, reduceIte])))) (Le.keep (live := [3]) (names := []) (nx := 208) rfl)
      · have hg59 : (decide (p0.Obj ≥ (p1.length : Int))) = true := hg59
        exact Le.trans (Le.rep (t := 3) rfl (RepLe.fr rfl (FrLe.tst (by simp only [hg58, hg59, sB, reduceIte])))) (Le.keep (live := [3]) (names := []) (nx := 208) rfl)
    · have hg58 : (decide (r56 > 0)) = false := hg58
      exact Le.trans (Le.rep (t := 3) rfl (RepLe.fr rfl (FrLe.tst (by simp only [hg58, sB, reduceIte])))) (Le.keep (live := [3]) (names := []) (nx := 208) rfl)
  refine CWP.ret ?_
  have e := Option.some.inj h
  subst e
  exact rfl
theorem c53_dfp26 {n : Nat} {p0 : api_Event} {p1 : List api_Decl} {r : Bool} (h : s53_dfp26 n p0 p1 = some r) : FC Try.prog 53 [.agg (api_Event.cs p0), .fpt 1 ((fun (x : List api_Decl) _ => api_Decl.sl x) p1)] (.tst r) [] false := FC.pureE (fn := Try.f53) (cc := code53) (res := .one 3) (by kernel_rfl) (by kernel_rfl) tr53 (by kernel_rfl) (Nat.le_of_ble_eq_true rfl) rfl (wf53_dfp26 h)
def code63_1 : CCode :=
 (.block 0
  (.loop
  (.seq
   (.region [⟨(some 9), (.bin 0 .lss (.tmp 8) (.tmp 7)), none⟩] none)
   (.seq
   (.cond (.tmp 9)
    .skip
    (.exit 0))
   (.seq
    (.block 1
    (.seq
     (.region [⟨(some 10), (.mv (.tmp 8)), none⟩,
      ⟨(some 5), (.mv (.tmp 10)), none⟩] none)
     (.seq
     (.region [⟨(some 11), (.mv (.tmp 1)), none⟩,
      ⟨(some 12), (.mv (.tmp 0)), none⟩,
      ⟨(some 13), (.mv (.tmp 5)), none⟩,
      ⟨(some 14), (.idx 4 (.tmp 12) (.tmp 13)), none⟩,
      ⟨(some 15), (.load true 4 (.tmp 14)), none⟩,
      ⟨(some 16), (.call (.tmp 11) [(.tmp 15)]), none⟩] none)
     (.cond (.tmp 16)
      (.seq
      (.region [⟨(some 17), (.mv (.tmp 5)), none⟩,
       ⟨(some 4), (.mv (.tmp 17)), none⟩] none)
      .ret)
      .skip))))
    (.region [⟨(some 18), (.bin 0 .add (.tmp 8) (.const (.int .i64 1))), none⟩,
     ⟨(some 8), (.mv (.tmp 18)), none⟩] none))))))
def code63 : CCode :=
 (.seq
  (.region [⟨(some 4), (.mv (.const (.int .i64 0))), none⟩] none)
  (.seq
  (.seq
   (.region [⟨(some 6), (.mv (.tmp 0)), none⟩,
    ⟨(some 7), (.len 1 (.tmp 6)), none⟩,
    ⟨(some 8), (.mv (.const (.int .i64 0))), none⟩] none)
   code63_1)
  (.seq
   (.region [⟨(some 4), (.mv (.const (.int .i64 (-1)))), none⟩] none)
   .ret)))
theorem tr63 : (Try.f63.body).bind (trCode Try.prog Try.f63.ntmps) = some code63 := by kernel_rfl
inductive O63_dfn53fp26__1 where
  | ok
  | ret (r : Int)
def l63_dfn53fp26__1 (n : Nat) : Nat → (List api_Event) → (List api_Decl) → Int → Int → Option O63_dfn53fp26__1
  | 0, _, _, _, _ => none
  | m + 1, v0, v1_0, v7, v8 =>
    if decide (v8 < v7) then
      if 0 ≤ v8 ∧ v8 < (v0.length : Int) then
        (s53_dfp26 n (v0.getD v8.toNat default) v1_0).bind fun r57 =>
        if r57 then
          some (.ret v8)
        else
          l63_dfn53fp26__1 n m v0 v1_0 v7 (w64 (v8 + 1))
      else none
    else
      some (.ok)
def s63_dfn53fp26 (n : Nat) (p0 : List api_Event) (p1 : List api_Decl) : Option Int :=
  (match l63_dfn53fp26__1 n n p0 p1 (p0.length : Int) 0 with
  | none => none
  | some (.ok) =>
    some (-1)
  | some (.ret r) =>
    some r)
def E63_dfn53fp26 (r : Int) (s : AS) : Prop := resOf s (.one 4) = some (I r)
theorem t63_dfn53fp26__1 {n fuel : Nat} {v0 : List api_Event} {v1_0 : List api_Decl} {v7 : Int} {v8 : Int} {out : O63_dfn53fp26__1} (h : l63_dfn53fp26__1 n fuel v0 v1_0 v7 v8 = some out) {Q : Ex → AS → Prop} (hok : out = .ok → Q .normal ⟨[], [], 0⟩) (hret : ∀ r, out = .ret r → ∀ s, E63_dfn53fp26 r s → Q .ret s) : CWP Try.prog Try.f63.ntmps code63_1 Q ⟨[(0, api_Event.sl v0), (1, .fn (.func 53) [] [.fpt 1 ((fun (x : List api_Decl) _ => api_Decl.sl x) v1_0)]), (7, I v7), (8, I v8)], [], 0⟩ := by
  refine CWP.block ?_
  refine CWP.loop (fun k s => ∃ v0 : List api_Event, ∃ v1_0 : List api_Decl, ∃ v7 : Int, ∃ v8 : Int, s = ⟨[(0, api_Event.sl v0), (1, .fn (.func 53) [] [.fpt 1 ((fun (x : List api_Decl) _ => api_Decl.sl x) v1_0)]), (7, I v7), (8, I v8)], [], 0⟩ ∧ l63_dfn53fp26__1 n k v0 v1_0 v7 v8 = some out) fuel ⟨v0, v1_0, v7, v8, rfl, h⟩ ?_
  clear h
  rintro k s ⟨v0, v1_0, v7, v8, rfl, h⟩
  cases k with
  | zero => cases h
  | succ m =>
    rw [l63_dfn53fp26__1] at h
    refine CWP.seq ?_
    refine CWP.regionT ⟨[(0, api_Event.sl v0), (1, .fn (.func 53) [] [.fpt 1 ((fun (x : List api_Decl) _ => api_Decl.sl x) v1_0)]), (7, I v7), (8, I v8), (9, .tst (decide (v8 < v7)))], [], 8⟩ ?_ ?_
    · exact Le.keep (live := [0, 1, 7, 8, 9]) (names := []) (nx := 8) rfl
    refine CWP.seq ?_
    refine CWP.cond (And.intro (fun hc => ?_) (fun hc => ?_))
    · have h := ite_t h hc
      refine CWP.skip ?_
      refine CWP.seq ?_
      refine CWP.block ?_
      refine CWP.seq ?_
      refine CWP.regionT ⟨[(0, api_Event.sl v0), (1, .fn (.func 53) [] [.fpt 1 ((fun (x : List api_Decl) _ => api_Decl.sl x) v1_0)]), (5, I v8), (7, I v7), (8, I v8)], [], 24⟩ ?_ ?_
      · exact Le.keep (live := [0, 1, 5, 7, 8]) (names := []) (nx := 24) rfl
      refine CWP.seq ?_
      obtain ⟨hs56, h⟩ := ite_some h
      obtain ⟨r57, hr57, h⟩ := Option.bind_eq_some_iff.1 h
      refine CWP.regionT ⟨[(0, api_Event.sl v0), (1, .fn (.func 53) [] [.fpt 1 ((fun (x : List api_Decl) _ => api_Decl.sl x) v1_0)]), (5, I v8), (7, I v7), (8, I v8), (16, .tst r57)], [], 72⟩ ?_ ?_
      · refine And.intro hs56 ?_
        refine FC.semT rfl rfl rfl trivial (c53_dfp26 hr57) (Or.inl rfl) ?_
        refine ex_refl ?_
        exact Le.keep (live := [0, 1, 5, 7, 8, 16]) (names := []) (nx := 72) rfl
      refine CWP.cond (And.intro (fun hc => ?_) (fun hc => ?_))
      · have h := ite_t h hc
        refine CWP.seq ?_
        refine CWP.regionT ⟨[(4, I v8)], [], 88⟩ ?_ ?_
        · exact Le.keep (live := [4]) (names := []) (nx := 88) rfl
        refine CWP.ret ?_
        exact hret _ (Option.some.inj h).symm _ rfl
      · have h := ite_f h hc
        refine CWP.skip ?_
        refine CWP.regionT ⟨[(0, api_Event.sl v0), (1, .fn (.func 53) [] [.fpt 1 ((fun (x : List api_Decl) _ => api_Decl.sl x) v1_0)]), (7, I v7), (8, I (w64 (v8 + 1)))], [], 0⟩ ?_ ?_
        · exact Le.trans (Le.keep (live := [0, 1, 7, 8]) (names := []) (nx := 88) rfl) (Le.keep (live := [0, 1, 7, 8]) (names := []) (nx := 0) rfl)
        exact ⟨m, Nat.lt_succ_self m, _, _, _, _, rfl, h⟩
    · have h := ite_f h hc
      refine CWP.exitL (Le.keep (live := []) (names := []) (nx := 0) rfl) (s' := ⟨[], [], 0⟩) ?_
      exact hok (Option.some.inj h).symm
theorem wf63_dfn53fp26 {n : Nat} {p0 : List api_Event} {p1 : List api_Decl} {r : Int} (h : s63_dfn53fp26 n p0 p1 = some r) : CWP Try.prog Try.f63.ntmps code63 (AtE (E63_dfn53fp26 r)) ⟨[(0, api_Event.sl p0), (1, .fn (.func 53) [] [.fpt 1 ((fun (x : List api_Decl) _ => api_Decl.sl x) p1)])], [], 0⟩ := by
  unfold s63_dfn53fp26 at h
  refine CWP.seq ?_
  refine CWP.regionT ⟨[(0, api_Event.sl p0), (1, .fn (.func 53) [] [.fpt 1 ((fun (x : List api_Decl) _ => api_Decl.sl x) p1)])], [], 8⟩ ?_ ?_
  · exact Le.keep (live := [0, 1]) (names := []) (nx := 8) rfl
  refine CWP.seq ?_
  refine CWP.seq ?_
  refine CWP.regionT ⟨[(0, api_Event.sl p0), (1, .fn (.func 53) [] [.fpt 1 ((fun (x : List api_Decl) _ => api_Decl.sl x) p1)]), (7, I (p0.length : Int)), (8, I 0)], [], 32⟩ ?_ ?_
  · exact Le.keep (live := [0, 1, 7, 8]) (names := []) (nx := 32) rfl
  generalize hn58 : l63_dfn53fp26__1 n n p0 p1 (p0.length : Int) 0 = o58 at h
  rcases o58 with _ | o58
  · cases h
  refine CWP.weaken (s' := ⟨[(0, api_Event.sl p0), (1, .fn (.func 53) [] [.fpt 1 ((fun (x : List api_Decl) _ => api_Decl.sl x) p1)]), (7, I (p0.length : Int)), (8, I 0)], [], 0⟩) (Le.keep (live := [0, 1, 7, 8]) (names := []) (nx := 0) rfl) ?_
  refine t63_dfn53fp26__1 hn58 ?_ ?_
  · intro e
    subst e
    dsimp only at h
    refine CWP.seq ?_
    refine CWP.regionT ⟨[(4, I (-1))], [], 8⟩ ?_ ?_
    · exact Le.keep (live := [4]) (names := []) (nx := 8) rfl
    refine CWP.ret ?_
    have e := Option.some.inj h
    subst e
    exact rfl
  · intro r e s hs
    subst e
    dsimp only at h
    have e := Option.some.inj h
    subst e
    exact hs
theorem c63_dfn53fp26 {n : Nat} {p0 : List api_Event} {p1 : List api_Decl} {r : Int} (h : s63_dfn53fp26 n p0 p1 = some r) : FC Try.prog 63 [api_Event.sl p0, .fn (.func 53) [] [.fpt 1 ((fun (x : List api_Decl) _ => api_Decl.sl x) p1)]] (I r) [] false := FC.pureE (fn := Try.f63) (cc := code63) (res := .one 4) (by kernel_rfl) (by kernel_rfl) tr63 (by kernel_rfl) (Nat.le_of_ble_eq_true rfl) rfl (wf63_dfn53fp26 h)
/-- may an event stand at its place? -/
def okEv (s : api_Shape) (i : Nat) : Prop :=
  (0 ≤ (s.Events.getD i default).Proc ∧ (s.Events.getD i default).Proc < s.Starts.length ∧ 0 ≤ (s.Events.getD i default).Inst ∧ 1 ≤ (s.Events.getD i default).Kind ∧ (s.Events.getD i default).Kind ≤ 11 ∧ 0 ≤ (s.Events.getD i default).Obj) ∧
  (0 < i → (s.Events.getD (i - 1) default).Proc ≤ (s.Events.getD i default).Proc ∧ ((s.Events.getD i default).Proc = (s.Events.getD (i - 1) default).Proc → (s.Events.getD (i - 1) default).Inst < (s.Events.getD i default).Inst)) ∧
  ((s.Events.getD i default).Kind = 11 → (s.Events.getD i default).Proc < (s.Events.getD i default).Obj ∧ (s.Events.getD i default).Obj < s.Starts.length ∧ s.Starts.getD (s.Events.getD i default).Obj.toNat 0 = i) ∧ ((s.Events.getD i default).Kind ≠ 11 → (s.Events.getD i default).Obj < 12)
/-- may a goroutine begin so? -/
def okSt (s : api_Shape) (p : Nat) : Prop := -1 ≤ s.Starts.getD p 0 ∧ s.Starts.getD p 0 < s.Events.length ∧ (0 ≤ s.Starts.getD p 0 → (s.Events.getD (s.Starts.getD p 0).toNat default).Kind = 11 ∧ (s.Events.getD (s.Starts.getD p 0).toNat default).Obj = p)
structure Good (s : api_Shape) : Prop where
  n : s.Events.length ≤ 40
  m0 : 1 ≤ s.Starts.length
  m : s.Starts.length ≤ 6
  ev : ∀ i, i < s.Events.length → okEv s i
  st : ∀ p, p < s.Starts.length → okSt s p
theorem ev23_1 {s : api_Shape} {n : Nat} (hN : s.Events.length ≤ 40) (hM : s.Starts.length ≤ 6) : ∀ m k, k ≤ s.Events.length → s.Events.length < m + k → (∀ i, i < k → okEv s i) → Ev (l23_1 n m s k) fun o => (o = .ok s ∧ ∀ i, i < s.Events.length → okEv s i) ∨ (o = .ret false ∧ ¬ ∀ i, i < s.Events.length → okEv s i) := by
  intro m
  induction m with
  | zero => intro k h1 h2 _; omega
  | succ m ih =>
    intro k h1 h2 hk
    rw [l23_1]
    refine Ev.ite (fun h => ?_) (fun h => ?_)
    · simp only [decide_eq_true_eq] at h
      have hlt : k < s.Events.length := by omega
      refine Ev.ask ⟨by omega, h⟩ ?_
      simp only [Int.toNat_natCast]
      have bad : ¬ okEv s k → Ev (some (O23_1.ret false)) fun o => (o = .ok s ∧ ∀ i, i < s.Events.length → okEv s i) ∨ (o = .ret false ∧ ¬ ∀ i, i < s.Events.length → okEv s i) := fun hb => Ev.some (.inr ⟨rfl, fun h => hb (h k hlt)⟩)
      refine Ev.ite (fun hc => bad fun ho => ?_) (fun hc => ?_)
      · obtain ⟨h3, _⟩ := ho
        simp only [Bool.or_eq_true, decide_eq_true_eq] at hc
        omega
      simp only [Bool.or_eq_false_iff, decide_eq_false_iff_not] at hc
      by_cases h0 : k = 0
      · subst h0
        refine Ev.ask (by simp) ?_
        refine Ev.ask (by simp) ?_
        refine Ev.ask (by simp) ?_
        refine Ev.ite (fun hd => by simp at hd) (fun _ => ?_)
        refine Ev.ask (fun h3 h4 => ?_) ?_
        · simp only [Bool.or_eq_false_iff, decide_eq_false_iff_not] at h4; omega
        refine Ev.ite (fun hc2 => bad fun ho => ?_) (fun hc2 => ?_)
        · obtain ⟨_, _, h5, h6⟩ := ho
          simp only [Bool.or_eq_true, Bool.and_eq_true, beq_iff_eq, bne_iff_ne, decide_eq_true_eq, ne_eq] at hc2
          omega
        · simp only [Bool.or_eq_false_iff, Bool.and_eq_false_iff, beq_eq_false_iff_ne, bne_eq_false_iff_eq, decide_eq_false_iff_not, ne_eq] at hc2
          rw [w64_id (by omega) (by omega)]
          refine ih 1 (by omega) (by omega) fun i hi => ?_
          have : i = 0 := by omega
          subst this
          unfold okEv
          refine ⟨by omega, fun h => by omega, fun h => by omega, fun h => by omega⟩
      · have e1 : w64 ((k : Int) - 1) = ((k - 1 : Nat) : Int) := by rw [w64_id (by omega) (by omega)]; omega
        simp only [e1, Int.toNat_natCast]
        refine Ev.ask (fun _ => by omega) ?_
        refine Ev.ask (fun _ _ => by omega) ?_
        refine Ev.ask (fun _ _ _ => by omega) ?_
        refine Ev.ite (fun hd => bad fun ho => ?_) (fun hd => ?_)
        · obtain ⟨_, h4, _⟩ := ho
          have h4 := h4 (by omega)
          simp only [Bool.or_eq_true, Bool.and_eq_true, beq_iff_eq, decide_eq_true_eq] at hd
          omega
        simp only [Bool.or_eq_false_iff, Bool.and_eq_false_iff, beq_eq_false_iff_ne, decide_eq_false_iff_not, ne_eq] at hd
        refine Ev.ask (fun h3 h4 => ?_) ?_
        · simp only [Bool.or_eq_false_iff, decide_eq_false_iff_not] at h4; omega
        refine Ev.ite (fun hc2 => bad fun ho => ?_) (fun hc2 => ?_)
        · obtain ⟨_, _, h5, h6⟩ := ho
          simp only [Bool.or_eq_true, Bool.and_eq_true, beq_iff_eq, bne_iff_ne, decide_eq_true_eq, ne_eq] at hc2
          omega
        · simp only [Bool.or_eq_false_iff, Bool.and_eq_false_iff, beq_eq_false_iff_ne, bne_eq_false_iff_eq, decide_eq_false_iff_not, ne_eq] at hc2
          rw [w64_id (by omega) (by omega)]
          refine ih (k + 1) (by omega) (by omega) fun i hi => ?_
          by_cases hik : i < k
          · exact hk i hik
          have : i = k := by omega
          subst this
          unfold okEv
          refine ⟨by omega, fun h => by omega, fun h => by omega, fun h => by omega⟩
    · simp only [decide_eq_false_iff_not] at h
      have : k = s.Events.length := by omega
      subst this
      exact Ev.some (.inl ⟨rfl, hk⟩)
theorem ev23_2 {s : api_Shape} {n : Nat} (hN : s.Events.length ≤ 40) (hM : s.Starts.length ≤ 6) : ∀ m k, k ≤ s.Starts.length → s.Starts.length < m + k → (∀ p, p < k → okSt s p) → Ev (l23_2 n m s k) fun o => (o = .ok ∧ ∀ p, p < s.Starts.length → okSt s p) ∨ (o = .ret false ∧ ¬ ∀ p, p < s.Starts.length → okSt s p) := by
  intro m
  induction m with
  | zero => intro k h1 h2 _; omega
  | succ m ih =>
    intro k h1 h2 hk
    rw [l23_2]
    refine Ev.ite (fun h => ?_) (fun h => ?_)
    · simp only [decide_eq_true_eq] at h
      have hlt : k < s.Starts.length := by omega
      refine Ev.ask ⟨by omega, h⟩ ?_
      simp only [Int.toNat_natCast]
      have bad : ¬ okSt s k → Ev (some (O23_2.ret false)) fun o => (o = .ok ∧ ∀ p, p < s.Starts.length → okSt s p) ∨ (o = .ret false ∧ ¬ ∀ p, p < s.Starts.length → okSt s p) := fun hb => Ev.some (.inr ⟨rfl, fun h => hb (h k hlt)⟩)
      refine Ev.ite (fun hc => bad fun ho => ?_) (fun hc => ?_)
      · obtain ⟨h3, h4, _⟩ := ho
        simp only [Bool.or_eq_true, decide_eq_true_eq] at hc
        omega
      simp only [Bool.or_eq_false_iff, decide_eq_false_iff_not] at hc
      refine Ev.ask (fun h3 => by simp only [decide_eq_true_eq] at h3; omega) ?_
      refine Ev.ask (fun h3 _ => by simp only [decide_eq_true_eq] at h3; omega) ?_
      refine Ev.ite (fun hd => bad fun ho => ?_) (fun hd => ?_)
      · obtain ⟨_, _, h5⟩ := ho
        simp only [Bool.or_eq_true, Bool.and_eq_true, bne_iff_ne, decide_eq_true_eq, ne_eq] at hd
        omega
      · simp only [Bool.or_eq_false_iff, Bool.and_eq_false_iff, bne_eq_false_iff_eq, decide_eq_false_iff_not] at hd
        rw [w64_id (by omega) (by omega)]
        refine ih (k + 1) (by omega) (by omega) fun p hp => ?_
        by_cases hpk : p < k
        · exact hk p hpk
        have : p = k := by omega
        subst this
        unfold okSt
        refine ⟨by omega, by omega, fun h => by omega⟩
    · simp only [decide_eq_false_iff_not] at h
      have : k = s.Starts.length := by omega
      subst this
      exact Ev.some (.inl ⟨rfl, hk⟩)
theorem ev23 {s : api_Shape} {n : Nat} (hn : 64 ≤ n) : Ev (s23 n s) fun r => (r = true ↔ Good s) := by
  unfold s23
  refine Ev.ite (fun h => ?_) (fun h => ?_)
  · refine Ev.some ?_
    simp only [Bool.or_eq_true, decide_eq_true_eq] at h
    simp only [Bool.false_eq_true, false_iff]
    intro hg
    have := hg.n; have := hg.m0; have := hg.m
    omega
  · simp only [Bool.or_eq_false_iff, decide_eq_false_iff_not] at h
    have hN : s.Events.length ≤ 40 := by omega
    have hM : s.Starts.length ≤ 6 := by omega
    obtain ⟨o, ho, h1⟩ := ev23_1 (s := s) (n := n) hN hM n 0 (Nat.zero_le _) (by omega) (fun i h => absurd h (Nat.not_lt_zero i))
    rw [show ((0 : Nat) : Int) = 0 from rfl] at ho
    rw [ho]
    rcases h1 with ⟨rfl, h1⟩ | ⟨rfl, h1⟩
    · dsimp only
      obtain ⟨o2, ho2, h2⟩ := ev23_2 (s := s) (n := n) hN hM n 0 (Nat.zero_le _) (by omega) (fun i h => absurd h (Nat.not_lt_zero i))
      rw [show ((0 : Nat) : Int) = 0 from rfl] at ho2
      rw [ho2]
      rcases h2 with ⟨rfl, h2⟩ | ⟨rfl, h2⟩
      · exact Ev.some ⟨fun _ => ⟨hN, by omega, hM, h1, h2⟩, fun _ => rfl⟩
      · exact Ev.some ⟨fun h => (by cases h), fun hg => absurd hg.st h2⟩
    · exact Ev.some ⟨fun h => (by cases h), fun hg => absurd hg.ev h1⟩
def code50 : CCode :=
 (.seq
  (.region [⟨(some 2), (.box 2 (.tmp 0)), none⟩,
   ⟨(some 3), (.box 4 (.tmp 1)), none⟩,
   ⟨(some 4), (.mv (.const (.bool false))), none⟩] none)
  (.seq
  (.seq
   (.region [⟨(some 5), (.fad 2 (.tmp 3)), none⟩,
    ⟨(some 6), (.load false 1 (.tmp 5)), none⟩,
    ⟨(some 7), (.bin 0 .eql (.tmp 6) (.const (.int .i64 11))), none⟩] none)
   (.cond (.tmp 7)
   (.seq
    (.region [⟨(some 8), (.fad 3 (.tmp 3)), none⟩,
     ⟨(some 9), (.load false 1 (.tmp 8)), none⟩,
     ⟨(some 10), (.fad 0 (.tmp 3)), none⟩,
     ⟨(some 11), (.load false 1 (.tmp 10)), none⟩,
     ⟨(some 12), (.bin 0 .gtr (.tmp 9) (.tmp 11)), none⟩,
     ⟨(some 13), (.mv (.tmp 12)), none⟩,
     ⟨(some 14), (.fad 3 (.tmp 3)), (some (13, true))⟩,
     ⟨(some 15), (.load false 1 (.tmp 14)), (some (13, true))⟩,
     ⟨(some 16), (.fad 1 (.tmp 2)), (some (13, true))⟩,
     ⟨(some 17), (.load false 1 (.tmp 16)), (some (13, true))⟩,
     ⟨(some 18), (.len 1 (.tmp 17)), (some (13, true))⟩,
     ⟨(some 19), (.bin 0 .lss (.tmp 15) (.tmp 18)), (some (13, true))⟩,
     ⟨(some 20), (.pick (.tmp 13) (.tmp 19) (.const (.bool false))), none⟩,
     ⟨(some 4), (.mv (.tmp 20)), none⟩] none)
    .ret)
   .skip))
  (.seq
   (.region [⟨(some 21), (.fad 3 (.tmp 3)), none⟩,
    ⟨(some 22), (.load false 1 (.tmp 21)), none⟩,
    ⟨(some 23), (.bin 0 .geq (.tmp 22) (.const (.int .i64 0))), none⟩,
    ⟨(some 24), (.mv (.tmp 23)), none⟩,
    ⟨(some 25), (.fad 3 (.tmp 3)), (some (24, true))⟩,
    ⟨(some 26), (.load false 1 (.tmp 25)), (some (24, true))⟩,
    ⟨(some 27), (.bin 0 .lss (.tmp 26) (.const (.int .i64 12))), (some (24, true))⟩,
    ⟨(some 28), (.pick (.tmp 24) (.tmp 27) (.const (.bool false))), none⟩,
    ⟨(some 4), (.mv (.tmp 28)), none⟩] none)
   .ret)))
theorem tr50 : (Try.f50.body).bind (trCode Try.prog Try.f50.ntmps) = some code50 := by kernel_rfl
def s50 (n : Nat) (p0 : api_Shape) (p1 : api_Event) : Option Bool :=
  if p1.Kind == 11 then
    some ((decide (p1.Obj > p1.Proc)) && (decide (p1.Obj < (p0.Starts.length : Int))))
  else
    some ((decide (p1.Obj ≥ 0)) && (decide (p1.Obj < 12)))
def E50 (r : Bool) (s : AS) : Prop := resOf s (.one 4) = some (.tst r)
theorem wf50 {n : Nat} {p0 : api_Shape} {p1 : api_Event} {r : Bool} (h : s50 n p0 p1 = some r) : CWP Try.prog Try.f50.ntmps code50 (AtE (E50 r)) ⟨[(0, .agg (api_Shape.cs p0)), (1, .agg (api_Event.cs p1))], [], 0⟩ := by
  unfold s50 at h
  refine CWP.seq ?_
  refine CWP.regionT ⟨[(2, .ptr 0 0), (3, .ptr 8 0)], [(0, .box (api_Shape.cs p0)), (8, .box (api_Event.cs p1))], 24⟩ ?_ ?_
  · exact Le.keep (live := [2, 3]) (names := [0, 8]) (nx := 24) rfl
  refine CWP.seq ?_
  refine CWP.seq ?_
  refine CWP.regionT ⟨[(2, .ptr 0 0), (3, .ptr 8 0), (7, .tst (p1.Kind == 11))], [(0, .box (api_Shape.cs p0)), (8, .box (api_Event.cs p1))], 48⟩ ?_ ?_
  · exact Le.keep (live := [2, 3, 7]) (names := [0, 8]) (nx := 48) rfl
  refine CWP.cond (And.intro (fun hc => ?_) (fun hc => ?_))
  · have h := ite_t h hc
    refine CWP.seq ?_
    refine CWP.regionT ⟨[(4, .tst ((decide (p1.Obj > p1.Proc)) && (decide (p1.Obj < (p0.Starts.length : Int)))))], [], 160⟩ ?_ ?_
    · refine And.intro (fun hg24 => ?_) (fun hg24 => ?_)
      · have hg24 : (decide (p1.Obj > p1.Proc)) = true := hg24
        exact Le.trans (Le.rep (t := 4) rfl (RepLe.fr rfl (FrLe.tst2 (by simp only [hg24, sB, reduceIte])))) (Le.keep (live := [4]) (names := []) (nx := 160) rfl)
      · have hg24 : (decide (p1.Obj > p1.Proc)) = false := hg24
        exact Le.trans (Le.rep (t := 4) rfl (RepLe.fr rfl (FrLe.tst (by simp only [hg24, sB, reduceIte])))) (Le.keep (live := [4]) (names := []) (nx := 160) rfl)
    refine CWP.ret ?_
    have e := Option.some.inj h
    subst e
    exact rfl
  · have h := ite_f h hc
    refine CWP.skip ?_
    refine CWP.seq ?_
    refine CWP.regionT ⟨[(4, .tst ((decide (p1.Obj ≥ 0)) && (decide (p1.Obj < 12))))], [], 120⟩ ?_ ?_
    · refine And.intro (fun hg25 => ?_) (fun hg25 => ?_)
      · have hg25 : (decide (p1.Obj ≥ 0)) = true := hg25
        exact Le.trans (Le.rep (t := 4) rfl (RepLe.fr rfl (FrLe.tst2 (by simp only [hg25, sB, reduceIte])))) (Le.keep (live := [4]) (names := []) (nx := 120) rfl)
      · have hg25 : (decide (p1.Obj ≥ 0)) = false := hg25
        exact Le.trans (Le.rep (t := 4) rfl (RepLe.fr rfl (FrLe.tst (by simp only [hg25, sB, reduceIte])))) (Le.keep (live := [4]) (names := []) (nx := 120) rfl)
    refine CWP.ret ?_
    have e := Option.some.inj h
    subst e
    exact rfl
theorem c50 {n : Nat} {p0 : api_Shape} {p1 : api_Event} {r : Bool} (h : s50 n p0 p1 = some r) : FC Try.prog 50 [.agg (api_Shape.cs p0), .agg (api_Event.cs p1)] (.tst r) [] false := FC.pureE (fn := Try.f50) (cc := code50) (res := .one 4) (by kernel_rfl) (by kernel_rfl) tr50 (by kernel_rfl) (Nat.le_of_ble_eq_true rfl) rfl (wf50 h)
def code51_1 : CCode :=
 (.block 0
  (.loop
  (.seq
   (.region [⟨(some 14), (.bin 0 .lss (.tmp 13) (.tmp 12)), none⟩] none)
   (.seq
   (.cond (.tmp 14)
    .skip
    (.exit 0))
   (.seq
    (.block 1
    (.seq
     (.region [⟨(some 15), (.mv (.tmp 13)), none⟩,
      ⟨(some 5), (.mv (.tmp 15)), none⟩] none)
     (.seq
     (.region [⟨(some 16), (.mv (.tmp 0)), none⟩,
      ⟨(some 17), (.mv (.tmp 5)), none⟩,
      ⟨(some 18), (.idx 1 (.tmp 16) (.tmp 17)), none⟩,
      ⟨(some 19), (.load false 1 (.tmp 18)), none⟩,
      ⟨(some 20), (.mv (.tmp 1)), none⟩,
      ⟨(some 21), (.mv (.tmp 5)), none⟩,
      ⟨(some 22), (.idx 1 (.tmp 20) (.tmp 21)), none⟩,
      ⟨(some 23), (.load false 1 (.tmp 22)), none⟩,
      ⟨(some 24), (.bin 0 .neq (.tmp 19) (.tmp 23)), none⟩] (some (.take 0 (.take 1 (.take 2 (.take 3 (.take 4 (.take 5 (.take 6 (.take 7 (.take 8 .done)))))))))))
     (.cond (.tmp 24)
      (.seq
      (.region [⟨(some 4), (.mv (.const (.bool false))), none⟩] none)
      .ret)
      .skip))))
    (.region [⟨(some 25), (.bin 0 .add (.tmp 13) (.const (.int .i64 1))), none⟩,
     ⟨(some 13), (.mv (.tmp 25)), none⟩] none))))))
def code51 : CCode :=
 (.seq
  (.region [⟨(some 4), (.mv (.const (.bool false))), none⟩] none)
  (.seq
  (.seq
   (.region [⟨(some 6), (.mv (.tmp 0)), none⟩,
    ⟨(some 7), (.len 1 (.tmp 6)), none⟩,
    ⟨(some 8), (.mv (.tmp 1)), none⟩,
    ⟨(some 9), (.len 1 (.tmp 8)), none⟩,
    ⟨(some 10), (.bin 0 .neq (.tmp 7) (.tmp 9)), none⟩] none)
   (.cond (.tmp 10)
   (.seq
    (.region [⟨(some 4), (.mv (.const (.bool false))), none⟩] none)
    .ret)
   .skip))
  (.seq
   (.seq
   (.region [⟨(some 11), (.mv (.tmp 0)), none⟩,
    ⟨(some 12), (.len 1 (.tmp 11)), none⟩,
    ⟨(some 13), (.mv (.const (.int .i64 0))), none⟩] none)
   code51_1)
   (.seq
   (.region [⟨(some 4), (.mv (.const (.bool true))), none⟩] none)
   .ret))))
theorem tr51 : (Try.f51.body).bind (trCode Try.prog Try.f51.ntmps) = some code51 := by kernel_rfl
inductive O51_1 where
  | ok
  | ret (r : Bool)
def l51_1 (n : Nat) : Nat → (List Int) → (List Int) → Int → Int → Option O51_1
  | 0, _, _, _, _ => none
  | m + 1, v0, v1, v12, v13 =>
    if decide (v13 < v12) then
      if 0 ≤ v13 ∧ v13 < (v0.length : Int) then
        if 0 ≤ v13 ∧ v13 < (v1.length : Int) then
          if (v0.getD v13.toNat 0) != (v1.getD v13.toNat 0) then
            some (.ret false)
          else
            l51_1 n m v0 v1 v12 (w64 (v13 + 1))
        else none
      else none
    else
      some (.ok)
def s51 (n : Nat) (p0 : List Int) (p1 : List Int) : Option Bool :=
  if (p0.length : Int) != (p1.length : Int) then
    some false
  else
    (match l51_1 n n p0 p1 (p0.length : Int) 0 with
    | none => none
    | some (.ok) =>
      some true
    | some (.ret r) =>
      some r)
def E51 (r : Bool) (s : AS) : Prop := resOf s (.one 4) = some (.tst r)
theorem t51_1 {n fuel : Nat} {v0 : List Int} {v1 : List Int} {v12 : Int} {v13 : Int} {out : O51_1} (h : l51_1 n fuel v0 v1 v12 v13 = some out) {Q : Ex → AS → Prop} (hok : out = .ok → Q .normal ⟨[], [], 0⟩) (hret : ∀ r, out = .ret r → ∀ s, E51 r s → Q .ret s) : CWP Try.prog Try.f51.ntmps code51_1 Q ⟨[(0, sI v0), (1, sI v1), (12, I v12), (13, I v13)], [], 0⟩ := by
  refine CWP.block ?_
  refine CWP.loop (fun k s => ∃ v0 : List Int, ∃ v1 : List Int, ∃ v12 : Int, ∃ v13 : Int, s = ⟨[(0, sI v0), (1, sI v1), (12, I v12), (13, I v13)], [], 0⟩ ∧ l51_1 n k v0 v1 v12 v13 = some out) fuel ⟨v0, v1, v12, v13, rfl, h⟩ ?_
  clear h
  rintro k s ⟨v0, v1, v12, v13, rfl, h⟩
  cases k with
  | zero => cases h
  | succ m =>
    rw [l51_1] at h
    refine CWP.seq ?_
    refine CWP.regionT ⟨[(0, sI v0), (1, sI v1), (12, I v12), (13, I v13), (14, .tst (decide (v13 < v12)))], [], 8⟩ ?_ ?_
    · exact Le.keep (live := [0, 1, 12, 13, 14]) (names := []) (nx := 8) rfl
    refine CWP.seq ?_
    refine CWP.cond (And.intro (fun hc => ?_) (fun hc => ?_))
    · have h := ite_t h hc
      refine CWP.skip ?_
      refine CWP.seq ?_
      refine CWP.block ?_
      refine CWP.seq ?_
      refine CWP.regionT ⟨[(0, sI v0), (1, sI v1), (5, I v13), (12, I v12), (13, I v13)], [], 24⟩ ?_ ?_
      · exact Le.keep (live := [0, 1, 5, 12, 13]) (names := []) (nx := 24) rfl
      refine CWP.seq ?_
      obtain ⟨hs53, h⟩ := ite_some h
      obtain ⟨hs54, h⟩ := ite_some h
      refine CWP.drawT [] [] ⟨[(0, sI v0), (1, sI v1), (12, I v12), (13, I v13), (24, .tst ((v0.getD v13.toNat 0) != (v1.getD v13.toNat 0)))], [], 96⟩ ?_ ?_
      · refine And.intro rfl ?_
        iterate 2 refine And.intro rfl ?_
        refine And.intro hs53 ?_
        iterate 4 refine And.intro rfl ?_
        refine And.intro hs54 ?_
        iterate 2 refine And.intro rfl ?_
        exact Le.keep (live := [0, 1, 12, 13, 24]) (names := []) (nx := 96) rfl
      refine CWP.cond (And.intro (fun hc => ?_) (fun hc => ?_))
      · have h := ite_t h hc
        refine CWP.seq ?_
        refine CWP.regionT ⟨[(4, .raw (.bool false))], [], 104⟩ ?_ ?_
        · exact Le.keep (live := [4]) (names := []) (nx := 104) rfl
        refine CWP.weaken (Le.rep (t := 4) rfl (RepLe.fr rfl (FrLe.tst rfl))) ?_
        refine CWP.ret ?_
        exact hret _ (Option.some.inj h).symm _ rfl
      · have h := ite_f h hc
        refine CWP.skip ?_
        refine CWP.regionT ⟨[(0, sI v0), (1, sI v1), (12, I v12), (13, I (w64 (v13 + 1)))], [], 0⟩ ?_ ?_
        · exact Le.trans (Le.keep (live := [0, 1, 12, 13]) (names := []) (nx := 112) rfl) (Le.keep (live := [0, 1, 12, 13]) (names := []) (nx := 0) rfl)
        exact ⟨m, Nat.lt_succ_self m, _, _, _, _, rfl, h⟩
    · have h := ite_f h hc
      refine CWP.exitL (Le.keep (live := []) (names := []) (nx := 0) rfl) (s' := ⟨[], [], 0⟩) ?_
      exact hok (Option.some.inj h).symm
theorem wf51 {n : Nat} {p0 : List Int} {p1 : List Int} {r : Bool} (h : s51 n p0 p1 = some r) : CWP Try.prog Try.f51.ntmps code51 (AtE (E51 r)) ⟨[(0, sI p0), (1, sI p1)], [], 0⟩ := by
  unfold s51 at h
  refine CWP.seq ?_
  refine CWP.regionT ⟨[(0, sI p0), (1, sI p1)], [], 8⟩ ?_ ?_
  · exact Le.keep (live := [0, 1]) (names := []) (nx := 8) rfl
  refine CWP.seq ?_
  refine CWP.seq ?_
  refine CWP.regionT ⟨[(0, sI p0), (1, sI p1), (10, .tst ((p0.length : Int) != (p1.length : Int)))], [], 48⟩ ?_ ?_
  · exact Le.keep (live := [0, 1, 10]) (names := []) (nx := 48) rfl
  refine CWP.cond (And.intro (fun hc => ?_) (fun hc => ?_))
  · have h := ite_t h hc
    refine CWP.seq ?_
    refine CWP.regionT ⟨[(4, .raw (.bool false))], [], 56⟩ ?_ ?_
    · exact Le.keep (live := [4]) (names := []) (nx := 56) rfl
    refine CWP.weaken (Le.rep (t := 4) rfl (RepLe.fr rfl (FrLe.tst rfl))) ?_
    refine CWP.ret ?_
    have e := Option.some.inj h
    subst e
    exact rfl
  · have h := ite_f h hc
    refine CWP.skip ?_
    refine CWP.seq ?_
    refine CWP.seq ?_
    refine CWP.regionT ⟨[(0, sI p0), (1, sI p1), (12, I (p0.length : Int)), (13, I 0)], [], 72⟩ ?_ ?_
    · exact Le.keep (live := [0, 1, 12, 13]) (names := []) (nx := 72) rfl
    generalize hn55 : l51_1 n n p0 p1 (p0.length : Int) 0 = o55 at h
    rcases o55 with _ | o55
    · cases h
    refine CWP.weaken (s' := ⟨[(0, sI p0), (1, sI p1), (12, I (p0.length : Int)), (13, I 0)], [], 0⟩) (Le.keep (live := [0, 1, 12, 13]) (names := []) (nx := 0) rfl) ?_
    refine t51_1 hn55 ?_ ?_
    · intro e
      subst e
      dsimp only at h
      refine CWP.seq ?_
      refine CWP.regionT ⟨[(4, .raw (.bool true))], [], 8⟩ ?_ ?_
      · exact Le.keep (live := [4]) (names := []) (nx := 8) rfl
      refine CWP.weaken (Le.rep (t := 4) rfl (RepLe.fr rfl (FrLe.tst rfl))) ?_
      refine CWP.ret ?_
      have e := Option.some.inj h
      subst e
      exact rfl
    · intro r e s hs
      subst e
      dsimp only at h
      have e := Option.some.inj h
      subst e
      exact hs
theorem c51 {n : Nat} {p0 : List Int} {p1 : List Int} {r : Bool} (h : s51 n p0 p1 = some r) : FC Try.prog 51 [sI p0, sI p1] (.tst r) [] false := FC.pureE (fn := Try.f51) (cc := code51) (res := .one 4) (by kernel_rfl) (by kernel_rfl) tr51 (by kernel_rfl) (Nat.le_of_ble_eq_true rfl) rfl (wf51 h)
def code37_1 : CCode :=
 (.block 0
  (.loop
  (.seq
   (.region [⟨(some 31), (.bin 0 .lss (.tmp 30) (.tmp 29)), none⟩] none)
   (.seq
   (.cond (.tmp 31)
    .skip
    (.exit 0))
   (.seq
    (.block 1
    (.seq
     (.region [⟨(some 32), (.mv (.tmp 30)), none⟩,
      ⟨(some 4), (.mv (.tmp 32)), none⟩] none)
     (.region [⟨(some 33), (.mv (.tmp 3)), none⟩,
      ⟨(some 34), (.mv (.tmp 4)), none⟩,
      ⟨(some 35), (.idx 1 (.tmp 33) (.tmp 34)), none⟩,
      ⟨none, (.store 1 (.tmp 35) (.const (.int .i64 (-1)))), none⟩] none)))
    (.region [⟨(some 36), (.bin 0 .add (.tmp 30) (.const (.int .i64 1))), none⟩,
     ⟨(some 30), (.mv (.tmp 36)), none⟩] none))))))
def code37_2 : CCode :=
 (.seq
  (.region [⟨(some 92), (.fad 2 (.tmp 7)), none⟩,
   ⟨(some 93), (.load false 1 (.tmp 92)), none⟩,
   ⟨(some 94), (.bin 0 .eql (.tmp 93) (.const (.int .i64 11))), none⟩] none)
  (.cond (.tmp 94)
  (.seq
   (.seq
   (.region [⟨(some 95), (.mv (.tmp 3)), none⟩,
    ⟨(some 96), (.fad 3 (.tmp 7)), none⟩,
    ⟨(some 97), (.load false 1 (.tmp 96)), none⟩,
    ⟨(some 98), (.idx 1 (.tmp 95) (.tmp 97)), none⟩,
    ⟨(some 99), (.load false 1 (.tmp 98)), none⟩,
    ⟨(some 100), (.bin 0 .geq (.tmp 99) (.const (.int .i64 0))), none⟩] none)
   (.cond (.tmp 100)
    (.seq
    (.region [⟨(some 2), (.mv (.const (.int .i64 1))), none⟩] none)
    .ret)
    .skip))
   (.region [⟨(some 101), (.mv (.tmp 3)), none⟩,
    ⟨(some 102), (.fad 3 (.tmp 7)), none⟩,
    ⟨(some 103), (.load false 1 (.tmp 102)), none⟩,
    ⟨(some 104), (.mv (.tmp 6)), none⟩,
    ⟨(some 105), (.idx 1 (.tmp 101) (.tmp 103)), none⟩,
    ⟨none, (.store 1 (.tmp 105) (.tmp 104)), none⟩] none))
  .skip))
def code37_3 : CCode :=
 (.block 2
  (.loop
  (.seq
   (.region [⟨(some 42), (.bin 0 .lss (.tmp 41) (.tmp 40)), none⟩] none)
   (.seq
   (.cond (.tmp 42)
    .skip
    (.exit 2))
   (.seq
    (.block 3
    (.seq
     (.region [⟨(some 43), (.mv (.tmp 41)), none⟩,
      ⟨(some 44), (.idx 4 (.tmp 39) (.tmp 41)), none⟩,
      ⟨(some 45), (.load true 4 (.tmp 44)), none⟩,
      ⟨(some 7), (.alloc [(.int .i64 0), (.int .i64 0), (.int .i64 0), (.int .i64 0)]), none⟩,
      ⟨(some 6), (.mv (.tmp 43)), none⟩,
      ⟨none, (.store 4 (.tmp 7) (.tmp 45)), none⟩] none)
     (.seq
     (.seq
      (.region [⟨(some 46), (.fad 0 (.tmp 7)), none⟩,
       ⟨(some 47), (.load false 1 (.tmp 46)), none⟩,
       ⟨(some 48), (.fad 0 (.tmp 5)), none⟩,
       ⟨(some 49), (.load false 1 (.tmp 48)), none⟩,
       ⟨(some 50), (.bin 0 .lss (.tmp 47) (.tmp 49)), none⟩,
       ⟨(some 51), (.mv (.tmp 50)), none⟩,
       ⟨(some 52), (.fad 0 (.tmp 7)), (some (51, false))⟩,
       ⟨(some 53), (.load false 1 (.tmp 52)), (some (51, false))⟩,
       ⟨(some 54), (.fad 1 (.tmp 1)), (some (51, false))⟩,
       ⟨(some 55), (.load false 1 (.tmp 54)), (some (51, false))⟩,
       ⟨(some 56), (.len 1 (.tmp 55)), (some (51, false))⟩,
       ⟨(some 57), (.bin 0 .geq (.tmp 53) (.tmp 56)), (some (51, false))⟩,
       ⟨(some 58), (.pick (.tmp 51) (.const (.bool true)) (.tmp 57)), none⟩,
       ⟨(some 59), (.mv (.tmp 58)), none⟩,
       ⟨(some 60), (.fad 2 (.tmp 7)), (some (59, false))⟩,
       ⟨(some 61), (.load false 1 (.tmp 60)), (some (59, false))⟩,
       ⟨(some 62), (.bin 0 .lss (.tmp 61) (.const (.int .i64 1))), (some (59, false))⟩,
       ⟨(some 63), (.pick (.tmp 59) (.const (.bool true)) (.tmp 62)), none⟩,
       ⟨(some 64), (.mv (.tmp 63)), none⟩,
       ⟨(some 65), (.fad 2 (.tmp 7)), (some (64, false))⟩,
       ⟨(some 66), (.load false 1 (.tmp 65)), (some (64, false))⟩,
       ⟨(some 67), (.bin 0 .gtr (.tmp 66) (.const (.int .i64 11))), (some (64, false))⟩,
       ⟨(some 68), (.pick (.tmp 64) (.const (.bool true)) (.tmp 67)), none⟩,
       ⟨(some 69), (.mv (.tmp 68)), none⟩,
       ⟨(some 70), (.load true 2 (.tmp 1)), (some (69, false))⟩,
       ⟨(some 71), (.load true 4 (.tmp 7)), (some (69, false))⟩,
       ⟨(some 72), (.call (.func 50) [(.tmp 70), (.tmp 71)]), (some (69, false))⟩,
       ⟨(some 73), (.un .not (.tmp 72)), (some (69, false))⟩,
       ⟨(some 74), (.pick (.tmp 69) (.const (.bool true)) (.tmp 73)), none⟩] none)
      (.cond (.tmp 74)
      (.seq
       (.region [⟨(some 2), (.mv (.const (.int .i64 1))), none⟩] none)
       .ret)
      .skip))
     (.seq
      (.seq
      (.region [⟨(some 75), (.fad 1 (.tmp 7)), none⟩,
       ⟨(some 76), (.load false 1 (.tmp 75)), none⟩,
       ⟨(some 77), (.bin 0 .lss (.tmp 76) (.const (.int .i64 0))), none⟩,
       ⟨(some 78), (.mv (.tmp 77)), none⟩,
       ⟨(some 79), (.fad 0 (.tmp 7)), (some (78, false))⟩,
       ⟨(some 80), (.load false 1 (.tmp 79)), (some (78, false))⟩,
       ⟨(some 81), (.fad 0 (.tmp 5)), (some (78, false))⟩,
       ⟨(some 82), (.load false 1 (.tmp 81)), (some (78, false))⟩,
       ⟨(some 83), (.bin 0 .eql (.tmp 80) (.tmp 82)), (some (78, false))⟩,
       ⟨(some 84), (.mv (.tmp 83)), (some (78, false))⟩,
       ⟨(some 85), (.fad 1 (.tmp 7)), (some (84, true))⟩,
       ⟨(some 86), (.load false 1 (.tmp 85)), (some (84, true))⟩,
       ⟨(some 87), (.fad 1 (.tmp 5)), (some (84, true))⟩,
       ⟨(some 88), (.load false 1 (.tmp 87)), (some (84, true))⟩,
       ⟨(some 89), (.bin 0 .leq (.tmp 86) (.tmp 88)), (some (84, true))⟩,
       ⟨(some 90), (.pick (.tmp 84) (.tmp 89) (.const (.bool false))), (some (78, false))⟩,
       ⟨(some 91), (.pick (.tmp 78) (.const (.bool true)) (.tmp 90)), none⟩] none)
      (.cond (.tmp 91)
       (.seq
       (.region [⟨(some 2), (.mv (.const (.int .i64 1))), none⟩] none)
       .ret)
       .skip))
      (.seq
      code37_2
      (.region [⟨(some 106), (.load true 4 (.tmp 7)), none⟩,
       ⟨none, (.store 4 (.tmp 5) (.tmp 106)), none⟩] none))))))
    (.region [⟨(some 107), (.bin 0 .add (.tmp 41) (.const (.int .i64 1))), none⟩,
     ⟨(some 41), (.mv (.tmp 107)), none⟩] none))))))
def code37 : CCode :=
 (.seq
  (.region [⟨(some 1), (.box 2 (.tmp 0)), none⟩,
   ⟨(some 2), (.mv (.const (.int .i64 0))), none⟩] none)
  (.seq
  (.seq
   (.region [⟨(some 8), (.fad 0 (.tmp 1)), none⟩,
    ⟨(some 9), (.load false 1 (.tmp 8)), none⟩,
    ⟨(some 10), (.len 1 (.tmp 9)), none⟩,
    ⟨(some 11), (.bin 0 .gtr (.tmp 10) (.const (.int .i64 40))), none⟩,
    ⟨(some 12), (.mv (.tmp 11)), none⟩,
    ⟨(some 13), (.fad 1 (.tmp 1)), (some (12, false))⟩,
    ⟨(some 14), (.load false 1 (.tmp 13)), (some (12, false))⟩,
    ⟨(some 15), (.len 1 (.tmp 14)), (some (12, false))⟩,
    ⟨(some 16), (.bin 0 .lss (.tmp 15) (.const (.int .i64 1))), (some (12, false))⟩,
    ⟨(some 17), (.pick (.tmp 12) (.const (.bool true)) (.tmp 16)), none⟩,
    ⟨(some 18), (.mv (.tmp 17)), none⟩,
    ⟨(some 19), (.fad 1 (.tmp 1)), (some (18, false))⟩,
    ⟨(some 20), (.load false 1 (.tmp 19)), (some (18, false))⟩,
    ⟨(some 21), (.len 1 (.tmp 20)), (some (18, false))⟩,
    ⟨(some 22), (.bin 0 .gtr (.tmp 21) (.const (.int .i64 6))), (some (18, false))⟩,
    ⟨(some 23), (.pick (.tmp 18) (.const (.bool true)) (.tmp 22)), none⟩] none)
   (.cond (.tmp 23)
   (.seq
    (.region [⟨(some 2), (.mv (.const (.int .i64 1))), none⟩] none)
    .ret)
   .skip))
  (.seq
   (.region [⟨(some 24), (.fad 1 (.tmp 1)), none⟩,
    ⟨(some 25), (.load false 1 (.tmp 24)), none⟩,
    ⟨(some 26), (.len 1 (.tmp 25)), none⟩,
    ⟨(some 27), (.mksl 0 8 (.int .i64 0) (.tmp 26)), none⟩,
    ⟨(some 3), (.mv (.tmp 27)), none⟩] none)
   (.seq
   (.seq
    (.region [⟨(some 28), (.mv (.tmp 3)), none⟩,
     ⟨(some 29), (.len 1 (.tmp 28)), none⟩,
     ⟨(some 30), (.mv (.const (.int .i64 0))), none⟩] none)
    code37_1)
   (.seq
    (.region [⟨(some 37), (.build [(.int .i64 0), (.int .i64 0), (.int .i64 0), (.int .i64 0)] [(1, 1, (.const (.int .i64 (-1))))]), none⟩,
     ⟨(some 5), (.alloc [(.int .i64 0), (.int .i64 0), (.int .i64 0), (.int .i64 0)]), none⟩,
     ⟨none, (.store 4 (.tmp 5) (.tmp 37)), none⟩] none)
    (.seq
    (.seq
     (.region [⟨(some 38), (.fad 0 (.tmp 1)), none⟩,
      ⟨(some 39), (.load false 1 (.tmp 38)), none⟩,
      ⟨(some 40), (.len 1 (.tmp 39)), none⟩,
      ⟨(some 41), (.mv (.const (.int .i64 0))), none⟩] none)
     code37_3)
    (.seq
     (.seq
     (.region [⟨(some 108), (.mv (.tmp 3)), none⟩,
      ⟨(some 109), (.fad 1 (.tmp 1)), none⟩,
      ⟨(some 110), (.load false 1 (.tmp 109)), none⟩,
      ⟨(some 111), (.call (.func 51) [(.tmp 108), (.tmp 110)]), none⟩,
      ⟨(some 112), (.un .not (.tmp 111)), none⟩] none)
     (.cond (.tmp 112)
      (.seq
      (.region [⟨(some 2), (.mv (.const (.int .i64 1))), none⟩] none)
      .ret)
      .skip))
     (.seq
     (.region [⟨(some 2), (.mv (.const (.int .i64 0))), none⟩] none)
     .ret))))))))
theorem tr37 : (Try.f37.body).bind (trCode Try.prog Try.f37.ntmps) = some code37 := by kernel_rfl
inductive O37_1 where
  | ok (b0 : api_Shape) (b1 : List Int)
def l37_1 (n : Nat) : Nat → api_Shape → (List Int) → Int → Int → Option O37_1
  | 0, _, _, _, _ => none
  | m + 1, b0, b1, v29, v30 =>
    if decide (v30 < v29) then
      if 0 ≤ v30 ∧ v30 < (b1.length : Int) then
        l37_1 n m b0 (b1.set v30.toNat (-1)) v29 (w64 (v30 + 1))
      else none
    else
      some (.ok b0 b1)
inductive O37_2 where
  | ok (b0 : api_Shape) (b1 : List Int) (b2 : api_Event) (b3 : api_Event) (v39 : List api_Event) (v40 : Int) (v41 : Int)
  | ret (r : Int)
def l37_2 (n : Nat) (b0 : api_Shape) (b1 : List Int) (b2 : api_Event) (b3 : api_Event) (v39 : List api_Event) (v40 : Int) (v41 : Int) (v6 : Int) : Option O37_2 :=
  if b3.Kind == 11 then
    if 0 ≤ b3.Obj ∧ b3.Obj < (b1.length : Int) then
      if decide ((b1.getD b3.Obj.toNat 0) ≥ 0) then
        some (.ret 1)
      else
        if 0 ≤ b3.Obj ∧ b3.Obj < (b1.length : Int) then
          some (.ok b0 (b1.set b3.Obj.toNat v6) b2 b3 v39 v40 v41)
        else none
    else none
  else
    some (.ok b0 b1 b2 b3 v39 v40 v41)
inductive O37_3 where
  | ok (b0 : api_Shape) (b1 : List Int)
  | ret (r : Int)
def l37_3 (n : Nat) : Nat → api_Shape → (List Int) → api_Event → (List api_Event) → Int → Int → Option O37_3
  | 0, _, _, _, _, _, _ => none
  | m + 1, b0, b1, b2, v39, v40, v41 =>
    if decide (v41 < v40) then
      if 0 ≤ v41 ∧ v41 < (v39.length : Int) then
        (if !((((decide (((v39.getD v41.toNat default).Proc) < b2.Proc)) || (decide (((v39.getD v41.toNat default).Proc) ≥ (b0.Starts.length : Int)))) || (decide (((v39.getD v41.toNat default).Kind) < 1))) || (decide (((v39.getD v41.toNat default).Kind) > 11))) then s50 n b0 (v39.getD v41.toNat default) else some false).bind fun r37 =>
        if ((((decide (((v39.getD v41.toNat default).Proc) < b2.Proc)) || (decide (((v39.getD v41.toNat default).Proc) ≥ (b0.Starts.length : Int)))) || (decide (((v39.getD v41.toNat default).Kind) < 1))) || (decide (((v39.getD v41.toNat default).Kind) > 11))) || !r37 then
          some (.ret 1)
        else
          if (decide (((v39.getD v41.toNat default).Inst) < 0)) || ((((v39.getD v41.toNat default).Proc) == b2.Proc) && (decide (((v39.getD v41.toNat default).Inst) ≤ b2.Inst))) then
            some (.ret 1)
          else
            (match l37_2 n b0 b1 b2 (v39.getD v41.toNat default) v39 v40 v41 v41 with
            | none => none
            | some (.ok b0_39 b1_39 b2_39 b3_39 v39_39 v40_39 v41_39) =>
              l37_3 n m b0_39 b1_39 b3_39 v39_39 v40_39 (w64 (v41_39 + 1))
            | some (.ret r) =>
              some (.ret r))
      else none
    else
      some (.ok b0 b1)
def s37 (n : Nat) (p0 : api_Shape) : Option Int :=
  if ((decide ((p0.Events.length : Int) > 40)) || (decide ((p0.Starts.length : Int) < 1))) || (decide ((p0.Starts.length : Int) > 6)) then
    some 1
  else
    if 0 ≤ (p0.Starts.length : Int) ∧ (p0.Starts.length : Int) * 8 ≤ 140737488355328 then
      (match l37_1 n n p0 (List.replicate (p0.Starts.length : Int).toNat (0 : Int)) (((List.replicate (p0.Starts.length : Int).toNat (0 : Int)).length) : Int) 0 with
      | none => none
      | some (.ok b0_21 b1_21) =>
        (match l37_3 n n b0_21 b1_21 (⟨0, (-1), 0, 0⟩ : api_Event) b0_21.Events (b0_21.Events.length : Int) 0 with
        | none => none
        | some (.ok b0_47 b1_47) =>
          (s51 n b1_47 b0_47.Starts).bind fun r48 =>
          if !r48 then
            some 1
          else
            some 0
        | some (.ret r) =>
          some r))
    else none
def E37 (r : Int) (s : AS) : Prop := resOf s (.one 2) = some (I r)
theorem t37_1 {n fuel : Nat} {b0 : api_Shape} {b1 : List Int} {v29 : Int} {v30 : Int} {out : O37_1} (h : l37_1 n fuel b0 b1 v29 v30 = some out) {Q : Ex → AS → Prop} (hok : ∀ b0 b1, out = .ok b0 b1 → Q .normal ⟨[(1, .ptr 0 0), (3, .own 1 1 0 b1.length)], [(0, .box (api_Shape.cs b0)), (1, .li 1 cI 0 b1)], 2⟩) : CWP Try.prog Try.f37.ntmps code37_1 Q ⟨[(1, .ptr 0 0), (3, .own 1 1 0 b1.length), (29, I v29), (30, I v30)], [(0, .box (api_Shape.cs b0)), (1, .li 1 cI 0 b1)], 2⟩ := by
  refine CWP.block ?_
  refine CWP.loop (fun k s => ∃ b0 : api_Shape, ∃ b1 : List Int, ∃ v29 : Int, ∃ v30 : Int, s = ⟨[(1, .ptr 0 0), (3, .own 1 1 0 b1.length), (29, I v29), (30, I v30)], [(0, .box (api_Shape.cs b0)), (1, .li 1 cI 0 b1)], 2⟩ ∧ l37_1 n k b0 b1 v29 v30 = some out) fuel ⟨b0, b1, v29, v30, rfl, h⟩ ?_
  clear h
  rintro k s ⟨b0, b1, v29, v30, rfl, h⟩
  cases k with
  | zero => cases h
  | succ m =>
    rw [l37_1] at h
    refine CWP.seq ?_
    refine CWP.regionT ⟨[(1, .ptr 0 0), (3, .own 1 1 0 b1.length), (29, I v29), (30, I v30), (31, .tst (decide (v30 < v29)))], [(0, .box (api_Shape.cs b0)), (1, .li 1 cI 0 b1)], 10⟩ ?_ ?_
    · exact Le.keep (live := [1, 3, 29, 30, 31]) (names := [0, 1]) (nx := 10) rfl
    refine CWP.seq ?_
    refine CWP.cond (And.intro (fun hc => ?_) (fun hc => ?_))
    · have h := ite_t h hc
      refine CWP.skip ?_
      refine CWP.seq ?_
      refine CWP.block ?_
      refine CWP.seq ?_
      refine CWP.regionT ⟨[(1, .ptr 0 0), (3, .own 1 1 0 b1.length), (4, I v30), (29, I v29), (30, I v30)], [(0, .box (api_Shape.cs b0)), (1, .li 1 cI 0 b1)], 26⟩ ?_ ?_
      · exact Le.keep (live := [1, 3, 4, 29, 30]) (names := [0, 1]) (nx := 26) rfl
      obtain ⟨hs19, h⟩ := ite_some h
      refine CWP.regionT ⟨[(1, .ptr 0 0), (3, .own 1 1 0 ((b1.set v30.toNat (-1)).length)), (29, I v29), (30, I v30)], [(0, .box (api_Shape.cs b0)), (1, .li 1 cI 0 (b1.set v30.toNat (-1)))], 58⟩ ?_ ?_
      · refine And.intro hs19 ?_
        refine SemOp.ofT ?_
        refine And.intro (idx_lt hs19) ?_
        refine ex_arr (b1.set v30.toNat (-1)) (x := 1) (cell := cI) (d := 0) rfl (li_at (v := (-1)) rfl (by intro c hc; match c, hc with | 0, _ => rfl | _ + 1, h => exact absurd h (by omega))) ?_
        exact Le.trans (Le.list (x := 1) rfl (cell := cI) (d := 0) (l := b1.set v30.toNat (-1)) (len_set rfl) (fun _ _ _ _ => rfl)) (Le.trans (Le.rep (t := 3) rfl (RepLe.ownLen (len_set rfl).symm)) (Le.keep (live := [1, 3, 29, 30]) (names := [0, 1]) (nx := 58) rfl))
      refine CWP.regionT ⟨[(1, .ptr 0 0), (3, .own 1 1 0 ((b1.set v30.toNat (-1)).length)), (29, I v29), (30, I (w64 (v30 + 1)))], [(0, .box (api_Shape.cs b0)), (1, .li 1 cI 0 (b1.set v30.toNat (-1)))], 2⟩ ?_ ?_
      · exact Le.trans (Le.keep (live := [1, 3, 29, 30]) (names := [0, 1]) (nx := 74) rfl) (Le.keep (live := [1, 3, 29, 30]) (names := [0, 1]) (nx := 2) rfl)
      exact ⟨m, Nat.lt_succ_self m, _, _, _, _, rfl, h⟩
    · have h := ite_f h hc
      refine CWP.exitL (Le.keep (live := [1, 3]) (names := [0, 1]) (nx := 2) rfl) (s' := ⟨[(1, .ptr 0 0), (3, .own 1 1 0 b1.length)], [(0, .box (api_Shape.cs b0)), (1, .li 1 cI 0 b1)], 2⟩) ?_
      exact hok _ _ (Option.some.inj h).symm
theorem t37_2 {n : Nat} {b0 : api_Shape} {b1 : List Int} {b2 : api_Event} {b3 : api_Event} {v39 : List api_Event} {v40 : Int} {v41 : Int} {v6 : Int} {out : O37_2} (h : l37_2 n b0 b1 b2 b3 v39 v40 v41 v6 = some out) {Q : Ex → AS → Prop} (hok : ∀ b0 b1 b2 b3 v39 v40 v41, out = .ok b0 b1 b2 b3 v39 v40 v41 → Q .normal ⟨[(1, .ptr 0 0), (3, .own 1 1 0 b1.length), (5, .ptr 2 0), (7, .ptr 3 0), (39, api_Event.sl v39), (40, I v40), (41, I v41)], [(0, .box (api_Shape.cs b0)), (1, .li 1 cI 0 b1), (2, .box (api_Event.cs b2)), (3, .box (api_Event.cs b3))], 4⟩) (hret : ∀ r, out = .ret r → ∀ s, E37 r s → Q .ret s) : CWP Try.prog Try.f37.ntmps code37_2 Q ⟨[(1, .ptr 0 0), (3, .own 1 1 0 b1.length), (5, .ptr 2 0), (6, I v6), (7, .ptr 3 0), (39, api_Event.sl v39), (40, I v40), (41, I v41)], [(0, .box (api_Shape.cs b0)), (1, .li 1 cI 0 b1), (2, .box (api_Event.cs b2)), (3, .box (api_Event.cs b3))], 4⟩ := by
  unfold l37_2 at h
  refine CWP.seq ?_
  refine CWP.regionT ⟨[(1, .ptr 0 0), (3, .own 1 1 0 b1.length), (5, .ptr 2 0), (6, I v6), (7, .ptr 3 0), (39, api_Event.sl v39), (40, I v40), (41, I v41), (94, .tst (b3.Kind == 11))], [(0, .box (api_Shape.cs b0)), (1, .li 1 cI 0 b1), (2, .box (api_Event.cs b2)), (3, .box (api_Event.cs b3))], 28⟩ ?_ ?_
  · exact Le.keep (live := [1, 3, 5, 6, 7, 39, 40, 41, 94]) (names := [0, 1, 2, 3]) (nx := 28) rfl
  refine CWP.cond (And.intro (fun hc => ?_) (fun hc => ?_))
  · have h := ite_t h hc
    refine CWP.seq ?_
    refine CWP.seq ?_
    obtain ⟨hs26, h⟩ := ite_some h
    refine CWP.regionT ⟨[(1, .ptr 0 0), (3, .own 1 1 0 b1.length), (5, .ptr 2 0), (6, I v6), (7, .ptr 3 0), (39, api_Event.sl v39), (40, I v40), (41, I v41), (100, .tst (decide ((b1.getD b3.Obj.toNat 0) ≥ 0)))], [(0, .box (api_Shape.cs b0)), (1, .li 1 cI 0 b1), (2, .box (api_Event.cs b2)), (3, .box (api_Event.cs b3))], 76⟩ ?_ ?_
    · refine And.intro hs26 ?_
      refine And.intro (idx_lt hs26) ?_
      exact Le.keep (live := [1, 3, 5, 6, 7, 39, 40, 41, 100]) (names := [0, 1, 2, 3]) (nx := 76) rfl
    refine CWP.cond (And.intro (fun hc => ?_) (fun hc => ?_))
    · have h := ite_t h hc
      refine CWP.seq ?_
      refine CWP.regionT ⟨[(2, I 1)], [], 84⟩ ?_ ?_
      · exact Le.keep (live := [2]) (names := []) (nx := 84) rfl
      refine CWP.ret ?_
      exact hret _ (Option.some.inj h).symm _ rfl
    · have h := ite_f h hc
      refine CWP.skip ?_
      obtain ⟨hs27, h⟩ := ite_some h
      refine CWP.regionT ⟨[(1, .ptr 0 0), (3, .own 1 1 0 ((b1.set b3.Obj.toNat v6).length)), (5, .ptr 2 0), (7, .ptr 3 0), (39, api_Event.sl v39), (40, I v40), (41, I v41)], [(0, .box (api_Shape.cs b0)), (1, .li 1 cI 0 (b1.set b3.Obj.toNat v6)), (2, .box (api_Event.cs b2)), (3, .box (api_Event.cs b3))], 4⟩ ?_ ?_
      · refine And.intro hs27 ?_
        refine SemOp.ofT ?_
        refine And.intro (idx_lt hs27) ?_
        refine ex_arr (b1.set b3.Obj.toNat v6) (x := 1) (cell := cI) (d := 0) rfl (li_at (v := v6) rfl (by intro c hc; match c, hc with | 0, _ => rfl | _ + 1, h => exact absurd h (by omega))) ?_
        exact Le.trans (Le.trans (Le.list (x := 1) rfl (cell := cI) (d := 0) (l := b1.set b3.Obj.toNat v6) (len_set rfl) (fun _ _ _ _ => rfl)) (Le.trans (Le.rep (t := 3) rfl (RepLe.ownLen (len_set rfl).symm)) (Le.keep (live := [1, 3, 5, 7, 39, 40, 41]) (names := [0, 1, 2, 3]) (nx := 124) rfl))) (Le.keep (live := [1, 3, 5, 7, 39, 40, 41]) (names := [0, 1, 2, 3]) (nx := 4) rfl)
      exact hok _ _ _ _ _ _ _ (Option.some.inj h).symm
  · have h := ite_f h hc
    refine CWP.skipL (Le.keep (live := [1, 3, 5, 7, 39, 40, 41]) (names := [0, 1, 2, 3]) (nx := 4) rfl) (s' := ⟨[(1, .ptr 0 0), (3, .own 1 1 0 b1.length), (5, .ptr 2 0), (7, .ptr 3 0), (39, api_Event.sl v39), (40, I v40), (41, I v41)], [(0, .box (api_Shape.cs b0)), (1, .li 1 cI 0 b1), (2, .box (api_Event.cs b2)), (3, .box (api_Event.cs b3))], 4⟩) ?_
    exact hok _ _ _ _ _ _ _ (Option.some.inj h).symm
theorem t37_3 {n fuel : Nat} {b0 : api_Shape} {b1 : List Int} {b2 : api_Event} {v39 : List api_Event} {v40 : Int} {v41 : Int} {out : O37_3} (h : l37_3 n fuel b0 b1 b2 v39 v40 v41 = some out) {Q : Ex → AS → Prop} (hok : ∀ b0 b1, out = .ok b0 b1 → Q .normal ⟨[(1, .ptr 0 0), (3, .own 1 1 0 b1.length)], [(0, .box (api_Shape.cs b0)), (1, .li 1 cI 0 b1)], 2⟩) (hret : ∀ r, out = .ret r → ∀ s, E37 r s → Q .ret s) : CWP Try.prog Try.f37.ntmps code37_3 Q ⟨[(1, .ptr 0 0), (3, .own 1 1 0 b1.length), (5, .ptr 2 0), (39, api_Event.sl v39), (40, I v40), (41, I v41)], [(0, .box (api_Shape.cs b0)), (1, .li 1 cI 0 b1), (2, .box (api_Event.cs b2))], 3⟩ := by
  refine CWP.block ?_
  refine CWP.loop (fun k s => ∃ b0 : api_Shape, ∃ b1 : List Int, ∃ b2 : api_Event, ∃ v39 : List api_Event, ∃ v40 : Int, ∃ v41 : Int, s = ⟨[(1, .ptr 0 0), (3, .own 1 1 0 b1.length), (5, .ptr 2 0), (39, api_Event.sl v39), (40, I v40), (41, I v41)], [(0, .box (api_Shape.cs b0)), (1, .li 1 cI 0 b1), (2, .box (api_Event.cs b2))], 3⟩ ∧ l37_3 n k b0 b1 b2 v39 v40 v41 = some out) fuel ⟨b0, b1, b2, v39, v40, v41, rfl, h⟩ ?_
  clear h
  rintro k s ⟨b0, b1, b2, v39, v40, v41, rfl, h⟩
  cases k with
  | zero => cases h
  | succ m =>
    rw [l37_3] at h
    refine CWP.seq ?_
    refine CWP.regionT ⟨[(1, .ptr 0 0), (3, .own 1 1 0 b1.length), (5, .ptr 2 0), (39, api_Event.sl v39), (40, I v40), (41, I v41), (42, .tst (decide (v41 < v40)))], [(0, .box (api_Shape.cs b0)), (1, .li 1 cI 0 b1), (2, .box (api_Event.cs b2))], 11⟩ ?_ ?_
    · exact Le.keep (live := [1, 3, 5, 39, 40, 41, 42]) (names := [0, 1, 2]) (nx := 11) rfl
    refine CWP.seq ?_
    refine CWP.cond (And.intro (fun hc => ?_) (fun hc => ?_))
    · have h := ite_t h hc
      refine CWP.skip ?_
      refine CWP.seq ?_
      refine CWP.block ?_
      refine CWP.seq ?_
      obtain ⟨hs36, h⟩ := ite_some h
      refine CWP.regionT ⟨[(1, .ptr 0 0), (3, .own 1 1 0 b1.length), (5, .ptr 2 0), (6, I v41), (7, .ptr 35 0), (39, api_Event.sl v39), (40, I v40), (41, I v41)], [(0, .box (api_Shape.cs b0)), (1, .li 1 cI 0 b1), (2, .box (api_Event.cs b2)), (35, .box [I ((v39.getD v41.toNat default).Proc), I ((v39.getD v41.toNat default).Inst), I ((v39.getD v41.toNat default).Kind), I ((v39.getD v41.toNat default).Obj)])], 59⟩ ?_ ?_
      · refine And.intro hs36 ?_
        refine SemOp.ofT ?_
        refine ex_refl ?_
        exact Le.keep (live := [1, 3, 5, 6, 7, 39, 40, 41]) (names := [0, 1, 2, 35]) (nx := 59) rfl
      refine CWP.seq ?_
      refine CWP.seq ?_
      obtain ⟨r37, hr37, h⟩ := Option.bind_eq_some_iff.1 h
      refine CWP.regionT ⟨[(1, .ptr 0 0), (3, .own 1 1 0 b1.length), (5, .ptr 2 0), (6, I v41), (7, .ptr 35 0), (39, api_Event.sl v39), (40, I v40), (41, I v41), (74, .tst (((((decide (((v39.getD v41.toNat default).Proc) < b2.Proc)) || (decide (((v39.getD v41.toNat default).Proc) ≥ (b0.Starts.length : Int)))) || (decide (((v39.getD v41.toNat default).Kind) < 1))) || (decide (((v39.getD v41.toNat default).Kind) > 11))) || !r37))], [(0, .box (api_Shape.cs b0)), (1, .li 1 cI 0 b1), (2, .box (api_Event.cs b2)), (35, .box [I ((v39.getD v41.toNat default).Proc), I ((v39.getD v41.toNat default).Inst), I ((v39.getD v41.toNat default).Kind), I ((v39.getD v41.toNat default).Obj)])], 291⟩ ?_ ?_
      · refine And.intro (fun hg42 => ?_) (fun hg42 => ?_)
        · have hg42 : (decide (((v39.getD v41.toNat default).Proc) < b2.Proc)) = false := hg42
          refine And.intro (fun hg43 => ?_) (fun hg43 => ?_)
          · have hg43 : (decide (((v39.getD v41.toNat default).Proc) ≥ (b0.Starts.length : Int))) = false := hg43
            refine And.intro (fun hg44 => ?_) (fun hg44 => ?_)
            · have hg44 : (decide (((v39.getD v41.toNat default).Kind) < 1)) = false := hg44
              refine And.intro (fun hg45 => ?_) (fun hg45 => ?_)
              · have hg45 : (decide (((v39.getD v41.toNat default).Kind) > 11)) = false := hg45
                refine FC.semT rfl rfl rfl trivial (c50 (ite_t hr37 (by simp only [hg42, hg43, hg44, hg45, sB, reduceIte]))) (Or.inl rfl) ?_
                refine ex_refl ?_
                exact Le.trans (Le.rep (t := 74) rfl (RepLe.fr rfl (FrLe.tst2 (by simp only [hg42, hg43, hg44, hg45, sB, reduceIte])))) (Le.keep (live := [1, 3, 5, 6, 7, 39, 40, 41, 74]) (names := [0, 1, 2, 35]) (nx := 291) rfl)
              · have hg45 : (decide (((v39.getD v41.toNat default).Kind) > 11)) = true := hg45
                exact Le.trans (Le.rep (t := 74) rfl (RepLe.fr rfl (FrLe.tst (by simp only [hg42, hg43, hg44, hg45, sB, reduceIte])))) (Le.keep (live := [1, 3, 5, 6, 7, 39, 40, 41, 74]) (names := [0, 1, 2, 35]) (nx := 291) rfl)
            · have hg44 : (decide (((v39.getD v41.toNat default).Kind) < 1)) = true := hg44
              exact Le.trans (Le.rep (t := 74) rfl (RepLe.fr rfl (FrLe.tst (by simp only [hg42, hg43, hg44, sB, reduceIte])))) (Le.keep (live := [1, 3, 5, 6, 7, 39, 40, 41, 74]) (names := [0, 1, 2, 35]) (nx := 291) rfl)
          · have hg43 : (decide (((v39.getD v41.toNat default).Proc) ≥ (b0.Starts.length : Int))) = true := hg43
            exact Le.trans (Le.rep (t := 74) rfl (RepLe.fr rfl (FrLe.tst (by simp only [hg42, hg43, sB, reduceIte])))) (Le.keep (live := [1, 3, 5, 6, 7, 39, 40, 41, 74]) (names := [0, 1, 2, 35]) (nx := 291) rfl)
        · have hg42 : (decide (((v39.getD v41.toNat default).Proc) < b2.Proc)) = true := hg42
          exact Le.trans (Le.rep (t := 74) rfl (RepLe.fr rfl (FrLe.tst (by simp only [hg42, sB, reduceIte])))) (Le.keep (live := [1, 3, 5, 6, 7, 39, 40, 41, 74]) (names := [0, 1, 2, 35]) (nx := 291) rfl)
      refine CWP.cond (And.intro (fun hc => ?_) (fun hc => ?_))
      · have h := ite_t h hc
        refine CWP.seq ?_
        refine CWP.regionT ⟨[(2, I 1)], [], 299⟩ ?_ ?_
        · exact Le.keep (live := [2]) (names := []) (nx := 299) rfl
        refine CWP.ret ?_
        exact hret _ (Option.some.inj h).symm _ rfl
      · have h := ite_f h hc
        refine CWP.skip ?_
        refine CWP.seq ?_
        refine CWP.seq ?_
        refine CWP.regionT ⟨[(1, .ptr 0 0), (3, .own 1 1 0 b1.length), (5, .ptr 2 0), (6, I v41), (7, .ptr 35 0), (39, api_Event.sl v39), (40, I v40), (41, I v41), (91, .tst ((decide (((v39.getD v41.toNat default).Inst) < 0)) || ((((v39.getD v41.toNat default).Proc) == b2.Proc) && (decide (((v39.getD v41.toNat default).Inst) ≤ b2.Inst)))))], [(0, .box (api_Shape.cs b0)), (1, .li 1 cI 0 b1), (2, .box (api_Event.cs b2)), (35, .box [I ((v39.getD v41.toNat default).Proc), I ((v39.getD v41.toNat default).Inst), I ((v39.getD v41.toNat default).Kind), I ((v39.getD v41.toNat default).Obj)])], 427⟩ ?_ ?_
        · refine And.intro (fun hg40 => ?_) (fun hg40 => ?_)
          · have hg40 : (decide (((v39.getD v41.toNat default).Inst) < 0)) = false := hg40
            refine And.intro (fun hg41 => ?_) (fun hg41 => ?_)
            · have hg41 : (((v39.getD v41.toNat default).Proc) == b2.Proc) = true := hg41
              exact Le.trans (Le.rep (t := 91) rfl (RepLe.fr rfl (FrLe.tst2 (by simp only [hg40, hg41, sB, reduceIte])))) (Le.keep (live := [1, 3, 5, 6, 7, 39, 40, 41, 91]) (names := [0, 1, 2, 35]) (nx := 427) rfl)
            · have hg41 : (((v39.getD v41.toNat default).Proc) == b2.Proc) = false := hg41
              exact Le.trans (Le.rep (t := 91) rfl (RepLe.fr rfl (FrLe.tst (by simp only [hg40, hg41, sB, reduceIte])))) (Le.keep (live := [1, 3, 5, 6, 7, 39, 40, 41, 91]) (names := [0, 1, 2, 35]) (nx := 427) rfl)
          · have hg40 : (decide (((v39.getD v41.toNat default).Inst) < 0)) = true := hg40
            exact Le.trans (Le.rep (t := 91) rfl (RepLe.fr rfl (FrLe.tst (by simp only [hg40, sB, reduceIte])))) (Le.keep (live := [1, 3, 5, 6, 7, 39, 40, 41, 91]) (names := [0, 1, 2, 35]) (nx := 427) rfl)
        refine CWP.cond (And.intro (fun hc => ?_) (fun hc => ?_))
        · have h := ite_t h hc
          refine CWP.seq ?_
          refine CWP.regionT ⟨[(2, I 1)], [], 435⟩ ?_ ?_
          · exact Le.keep (live := [2]) (names := []) (nx := 435) rfl
          refine CWP.ret ?_
          exact hret _ (Option.some.inj h).symm _ rfl
        · have h := ite_f h hc
          refine CWP.skip ?_
          refine CWP.seq ?_
          generalize hn38 : l37_2 n b0 b1 b2 (v39.getD v41.toNat default) v39 v40 v41 v41 = o38 at h
          rcases o38 with _ | o38
          · cases h
          refine CWP.weaken (s' := ⟨[(1, .ptr 0 0), (3, .own 1 1 0 b1.length), (5, .ptr 2 0), (6, I v41), (7, .ptr 3 0), (39, api_Event.sl v39), (40, I v40), (41, I v41)], [(0, .box (api_Shape.cs b0)), (1, .li 1 cI 0 b1), (2, .box (api_Event.cs b2)), (3, .box [I ((v39.getD v41.toNat default).Proc), I ((v39.getD v41.toNat default).Inst), I ((v39.getD v41.toNat default).Kind), I ((v39.getD v41.toNat default).Obj)])], 4⟩) (Le.ren [(0, 0), (1, 1), (2, 2), (3, 35)] rfl ⟨rfl, rfl, rfl, rfl, rfl, rfl, rfl, rfl, trivial⟩ ⟨⟨_, rfl, rfl⟩, ⟨_, rfl, rfl⟩, ⟨_, rfl, rfl⟩, ⟨_, rfl, rfl⟩, trivial⟩) ?_
          refine t37_2 hn38 ?_ ?_
          · intro b0_39 b1_39 b2_39 b3_39 v39_39 v40_39 v41_39 e
            subst e
            dsimp only at h
            refine CWP.regionT ⟨[(1, .ptr 0 0), (3, .own 1 1 0 b1_39.length), (5, .ptr 2 0), (39, api_Event.sl v39_39), (40, I v40_39), (41, I v41_39)], [(0, .box (api_Shape.cs b0_39)), (1, .li 1 cI 0 b1_39), (2, .box (api_Event.cs b3_39))], 20⟩ ?_ ?_
            · refine SemOp.ofT ?_
              refine ex_refl ?_
              exact Le.keep (live := [1, 3, 5, 39, 40, 41]) (names := [0, 1, 2]) (nx := 20) rfl
            refine CWP.regionT ⟨[(1, .ptr 0 0), (3, .own 1 1 0 b1_39.length), (5, .ptr 2 0), (39, api_Event.sl v39_39), (40, I v40_39), (41, I (w64 (v41_39 + 1)))], [(0, .box (api_Shape.cs b0_39)), (1, .li 1 cI 0 b1_39), (2, .box (api_Event.cs b3_39))], 3⟩ ?_ ?_
            · exact Le.trans (Le.keep (live := [1, 3, 5, 39, 40, 41]) (names := [0, 1, 2]) (nx := 36) rfl) (Le.keep (live := [1, 3, 5, 39, 40, 41]) (names := [0, 1, 2]) (nx := 3) rfl)
            exact ⟨m, Nat.lt_succ_self m, _, _, _, _, _, _, rfl, h⟩
          · intro r e s hs
            subst e
            dsimp only at h
            exact hret _ (Option.some.inj h).symm _ hs
    · have h := ite_f h hc
      refine CWP.exitL (Le.keep (live := [1, 3]) (names := [0, 1]) (nx := 2) rfl) (s' := ⟨[(1, .ptr 0 0), (3, .own 1 1 0 b1.length)], [(0, .box (api_Shape.cs b0)), (1, .li 1 cI 0 b1)], 2⟩) ?_
      exact hok _ _ (Option.some.inj h).symm
theorem wf37 {n : Nat} {p0 : api_Shape} {r : Int} (h : s37 n p0 = some r) : CWP Try.prog Try.f37.ntmps code37 (AtE (E37 r)) ⟨[(0, .agg (api_Shape.cs p0))], [], 0⟩ := by
  unfold s37 at h
  refine CWP.seq ?_
  refine CWP.regionT ⟨[(1, .ptr 0 0)], [(0, .box (api_Shape.cs p0))], 16⟩ ?_ ?_
  · exact Le.keep (live := [1]) (names := [0]) (nx := 16) rfl
  refine CWP.seq ?_
  refine CWP.seq ?_
  refine CWP.regionT ⟨[(1, .ptr 0 0), (23, .tst (((decide ((p0.Events.length : Int) > 40)) || (decide ((p0.Starts.length : Int) < 1))) || (decide ((p0.Starts.length : Int) > 6))))], [(0, .box (api_Shape.cs p0))], 144⟩ ?_ ?_
  · refine And.intro (fun hg49 => ?_) (fun hg49 => ?_)
    · have hg49 : (decide ((p0.Events.length : Int) > 40)) = false := hg49
      refine And.intro (fun hg50 => ?_) (fun hg50 => ?_)
      · have hg50 : (decide ((p0.Starts.length : Int) < 1)) = false := hg50
        exact Le.trans (Le.rep (t := 23) rfl (RepLe.fr rfl (FrLe.tst2 (by simp only [hg49, hg50, sB, reduceIte])))) (Le.keep (live := [1, 23]) (names := [0]) (nx := 144) rfl)
      · have hg50 : (decide ((p0.Starts.length : Int) < 1)) = true := hg50
        exact Le.trans (Le.rep (t := 23) rfl (RepLe.fr rfl (FrLe.tst (by simp only [hg49, hg50, sB, reduceIte])))) (Le.keep (live := [1, 23]) (names := [0]) (nx := 144) rfl)
    · have hg49 : (decide ((p0.Events.length : Int) > 40)) = true := hg49
      exact Le.trans (Le.rep (t := 23) rfl (RepLe.fr rfl (FrLe.tst (by simp only [hg49, sB, reduceIte])))) (Le.keep (live := [1, 23]) (names := [0]) (nx := 144) rfl)
  refine CWP.cond (And.intro (fun hc => ?_) (fun hc => ?_))
  · have h := ite_t h hc
    refine CWP.seq ?_
    refine CWP.regionT ⟨[(2, I 1)], [], 152⟩ ?_ ?_
    · exact Le.keep (live := [2]) (names := []) (nx := 152) rfl
    refine CWP.ret ?_
    have e := Option.some.inj h
    subst e
    exact rfl
  · have h := ite_f h hc
    refine CWP.skip ?_
    refine CWP.seq ?_
    obtain ⟨hs17, h⟩ := ite_some h
    refine CWP.regionT ⟨[(1, .ptr 0 0), (3, .own 168 1 0 ((List.replicate (p0.Starts.length : Int).toNat (0 : Int)).length))], [(0, .box (api_Shape.cs p0)), (168, .li 1 cI 0 (List.replicate (p0.Starts.length : Int).toNat (0 : Int)))], 184⟩ ?_ ?_
    · refine SemOp.ofT ?_
      refine And.intro hs17 ?_
      refine ex_arr (List.replicate (p0.Starts.length : Int).toNat (0 : Int)) (x := 168) (sz := 1) (cell := cI) (d := 0) rfl (li_rep (z := (0 : Int)) (by intro _ _; rfl)) ?_
      exact Le.trans (Le.list (x := 168) rfl (cell := cI) (d := 0) (l := List.replicate (p0.Starts.length : Int).toNat (0 : Int)) List.length_replicate (fun _ _ _ _ => rfl)) (Le.trans (Le.rep (t := 3) rfl (RepLe.ownLen (List.length_replicate).symm)) (Le.keep (live := [1, 3]) (names := [0, 168]) (nx := 184) rfl))
    refine CWP.seq ?_
    refine CWP.seq ?_
    refine CWP.regionT ⟨[(1, .ptr 0 0), (3, .own 168 1 0 ((List.replicate (p0.Starts.length : Int).toNat (0 : Int)).length)), (29, I (((List.replicate (p0.Starts.length : Int).toNat (0 : Int)).length) : Int)), (30, I 0)], [(0, .box (api_Shape.cs p0)), (168, .li 1 cI 0 (List.replicate (p0.Starts.length : Int).toNat (0 : Int)))], 208⟩ ?_ ?_
    · exact Le.keep (live := [1, 3, 29, 30]) (names := [0, 168]) (nx := 208) rfl
    generalize hn20 : l37_1 n n p0 (List.replicate (p0.Starts.length : Int).toNat (0 : Int)) (((List.replicate (p0.Starts.length : Int).toNat (0 : Int)).length) : Int) 0 = o20 at h
    rcases o20 with _ | o20
    · cases h
    refine CWP.weaken (s' := ⟨[(1, .ptr 0 0), (3, .own 1 1 0 ((List.replicate (p0.Starts.length : Int).toNat (0 : Int)).length)), (29, I (((List.replicate (p0.Starts.length : Int).toNat (0 : Int)).length) : Int)), (30, I 0)], [(0, .box (api_Shape.cs p0)), (1, .li 1 cI 0 (List.replicate (p0.Starts.length : Int).toNat (0 : Int)))], 2⟩) (Le.ren [(0, 0), (1, 168)] rfl ⟨rfl, rfl, rfl, rfl, trivial⟩ ⟨⟨_, rfl, rfl⟩, ⟨_, rfl, rfl⟩, trivial⟩) ?_
    refine t37_1 hn20 ?_
    · intro b0_21 b1_21 e
      subst e
      dsimp only at h
      refine CWP.seq ?_
      refine CWP.regionT ⟨[(1, .ptr 0 0), (3, .own 1 1 0 b1_21.length), (5, .ptr 10 0)], [(0, .box (api_Shape.cs b0_21)), (1, .li 1 cI 0 b1_21), (10, .box [I 0, I (-1), I 0, I 0])], 26⟩ ?_ ?_
      · refine SemOp.ofT ?_
        refine ex_refl ?_
        exact Le.keep (live := [1, 3, 5]) (names := [0, 1, 10]) (nx := 26) rfl
      refine CWP.seq ?_
      refine CWP.seq ?_
      refine CWP.regionT ⟨[(1, .ptr 0 0), (3, .own 1 1 0 b1_21.length), (5, .ptr 10 0), (39, api_Event.sl b0_21.Events), (40, I (b0_21.Events.length : Int)), (41, I 0)], [(0, .box (api_Shape.cs b0_21)), (1, .li 1 cI 0 b1_21), (10, .box [I 0, I (-1), I 0, I 0])], 58⟩ ?_ ?_
      · exact Le.keep (live := [1, 3, 5, 39, 40, 41]) (names := [0, 1, 10]) (nx := 58) rfl
      generalize hn46 : l37_3 n n b0_21 b1_21 (⟨0, (-1), 0, 0⟩ : api_Event) b0_21.Events (b0_21.Events.length : Int) 0 = o46 at h
      rcases o46 with _ | o46
      · cases h
      refine CWP.weaken (s' := ⟨[(1, .ptr 0 0), (3, .own 1 1 0 b1_21.length), (5, .ptr 2 0), (39, api_Event.sl b0_21.Events), (40, I (b0_21.Events.length : Int)), (41, I 0)], [(0, .box (api_Shape.cs b0_21)), (1, .li 1 cI 0 b1_21), (2, .box [I 0, I (-1), I 0, I 0])], 3⟩) (Le.ren [(0, 0), (1, 1), (2, 10)] rfl ⟨rfl, rfl, rfl, rfl, rfl, rfl, trivial⟩ ⟨⟨_, rfl, rfl⟩, ⟨_, rfl, rfl⟩, ⟨_, rfl, rfl⟩, trivial⟩) ?_
      refine t37_3 hn46 ?_ ?_
      · intro b0_47 b1_47 e
        subst e
        dsimp only at h
        refine CWP.seq ?_
        refine CWP.seq ?_
        obtain ⟨r48, hr48, h⟩ := Option.bind_eq_some_iff.1 h
        refine CWP.regionT ⟨[(112, .tst !r48)], [], 42⟩ ?_ ?_
        · refine FC.semT rfl rfl rfl (Nat.le_refl _) (c51 hr48) (Or.inr (Or.inl rfl)) ?_
          refine ex_refl ?_
          exact Le.keep (live := [112]) (names := []) (nx := 42) rfl
        refine CWP.cond (And.intro (fun hc => ?_) (fun hc => ?_))
        · have h := ite_t h hc
          refine CWP.seq ?_
          refine CWP.regionT ⟨[(2, I 1)], [], 50⟩ ?_ ?_
          · exact Le.keep (live := [2]) (names := []) (nx := 50) rfl
          refine CWP.ret ?_
          have e := Option.some.inj h
          subst e
          exact rfl
        · have h := ite_f h hc
          refine CWP.skip ?_
          refine CWP.seq ?_
          refine CWP.regionT ⟨[(2, I 0)], [], 50⟩ ?_ ?_
          · exact Le.keep (live := [2]) (names := []) (nx := 50) rfl
          refine CWP.ret ?_
          have e := Option.some.inj h
          subst e
          exact rfl
      · intro r e s hs
        subst e
        dsimp only at h
        have e := Option.some.inj h
        subst e
        exact hs
theorem c37 {n : Nat} {p0 : api_Shape} {r : Int} (h : s37 n p0 = some r) : FC Try.prog 37 [.agg (api_Shape.cs p0)] (I r) [] false := FC.pureE (fn := Try.f37) (cc := code37) (res := .one 2) (by kernel_rfl) (by kernel_rfl) tr37 (by kernel_rfl) (Nat.le_of_ble_eq_true rfl) rfl (wf37 h)
theorem ev51_1 {n : Nat} {a b : List Int} (hl : a.length = b.length) (ha : a.length ≤ 1000) : ∀ m k, k ≤ a.length → a.length < m + k → (∀ i, i < k → a.getD i 0 = b.getD i 0) → Ev (l51_1 n m a b a.length k) fun o => (o = .ok ∧ ∀ i, i < a.length → a.getD i 0 = b.getD i 0) ∨ (o = .ret false ∧ ¬ ∀ i, i < a.length → a.getD i 0 = b.getD i 0) := by
  intro m
  induction m with
  | zero => intro k h1 h2 _; omega
  | succ m ih =>
    intro k h1 h2 hk
    rw [l51_1]
    refine Ev.ite (fun h => ?_) (fun h => ?_)
    · simp only [decide_eq_true_eq] at h
      refine Ev.ask ⟨by omega, h⟩ ?_
      refine Ev.ask ⟨by omega, by omega⟩ ?_
      simp only [Int.toNat_natCast]
      refine Ev.ite (fun hc => ?_) (fun hc => ?_)
      · simp only [bne_iff_ne, ne_eq] at hc
        exact Ev.some (.inr ⟨rfl, fun h' => hc (h' k (by omega))⟩)
      · simp only [bne_eq_false_iff_eq] at hc
        rw [w64_id (by omega) (by omega)]
        refine ih (k + 1) (by omega) (by omega) fun i hi => ?_
        by_cases hik : i < k
        · exact hk i hik
        · have : i = k := by omega
          subst this; exact hc
    · simp only [decide_eq_false_iff_not] at h
      have : k = a.length := by omega
      subst this
      exact Ev.some (.inl ⟨rfl, hk⟩)
theorem ev51 {n : Nat} {a b : List Int} (ha : a.length ≤ 60) (hn : 64 ≤ n) : Ev (s51 n a b) fun r => (r = true ↔ a.length = b.length ∧ ∀ i, i < a.length → a.getD i 0 = b.getD i 0) := by
  unfold s51
  refine Ev.ite (fun h => ?_) (fun h => ?_)
  · simp only [bne_iff_ne, ne_eq] at h
    exact Ev.some ⟨fun h => (by cases h), fun h' => absurd (by rw [h'.1]) h⟩
  · simp only [bne_eq_false_iff_eq] at h
    have hl : a.length = b.length := by omega
    obtain ⟨o, ho, h1⟩ := ev51_1 (n := n) hl (by omega) n 0 (Nat.zero_le _) (by omega) (fun i h => absurd h (Nat.not_lt_zero i))
    rw [show ((0 : Nat) : Int) = 0 from rfl] at ho
    rw [ho]
    rcases h1 with ⟨rfl, h1⟩ | ⟨rfl, h1⟩
    · exact Ev.some ⟨fun _ => ⟨hl, h1⟩, fun _ => rfl⟩
    · exact Ev.some ⟨fun h => (by cases h), fun h => absurd h.2 h1⟩
theorem ev37_1 {n : Nat} {s : api_Shape} : ∀ m k (b : List Int), b.length = s.Starts.length → s.Starts.length ≤ 6 → k ≤ s.Starts.length → s.Starts.length < m + k → (∀ i, i < k → b.getD i 0 = -1) → Ev (l37_1 n m s b s.Starts.length k) fun o => ∃ b', o = .ok s b' ∧ b'.length = s.Starts.length ∧ ∀ i, i < s.Starts.length → b'.getD i 0 = -1 := by
  intro m
  induction m with
  | zero => intro k b _ _ h1 h2 _; omega
  | succ m ih =>
    intro k b hb hM h1 h2 hk
    rw [l37_1]
    refine Ev.ite (fun h => ?_) (fun h => ?_)
    · simp only [decide_eq_true_eq] at h
      refine Ev.ask ⟨by omega, by omega⟩ ?_
      rw [w64_id (by omega) (by omega)]
      simp only [Int.toNat_natCast]
      refine ih (k + 1) _ (by rw [List.length_set]; exact hb) hM (by omega) (by omega) fun i hi => ?_
      simp only [List.getD_eq_getElem?_getD, List.getElem?_set]
      by_cases hik : k = i
      · subst hik; simp [show k < b.length by omega]
      · rw [if_neg hik]
        have := hk i (by omega)
        rwa [List.getD_eq_getElem?_getD] at this
    · simp only [decide_eq_false_iff_not] at h
      have : k = s.Starts.length := by omega
      subst this
      exact Ev.some ⟨b, rfl, hb, hk⟩
/-- what is asked of an event but for where goroutines begin -/
def preEv (s : api_Shape) (i : Nat) : Prop :=
  (0 ≤ (s.Events.getD i default).Proc ∧ (s.Events.getD i default).Proc < s.Starts.length ∧ 0 ≤ (s.Events.getD i default).Inst ∧ 1 ≤ (s.Events.getD i default).Kind ∧ (s.Events.getD i default).Kind ≤ 11 ∧ 0 ≤ (s.Events.getD i default).Obj) ∧
  (0 < i → (s.Events.getD (i - 1) default).Proc ≤ (s.Events.getD i default).Proc ∧ ((s.Events.getD i default).Proc = (s.Events.getD (i - 1) default).Proc → (s.Events.getD (i - 1) default).Inst < (s.Events.getD i default).Inst)) ∧
  ((s.Events.getD i default).Kind = 11 → (s.Events.getD i default).Proc < (s.Events.getD i default).Obj ∧ (s.Events.getD i default).Obj < s.Starts.length) ∧ ((s.Events.getD i default).Kind ≠ 11 → (s.Events.getD i default).Obj < 12)
theorem okEv.pre {s : api_Shape} {i : Nat} (h : okEv s i) : preEv s i := ⟨h.1, h.2.1, fun hk => ⟨(h.2.2.1 hk).1, (h.2.2.1 hk).2.1⟩, h.2.2.2⟩
/-- what is kept of where goroutines begin -/
structure InvS (s : api_Shape) (k : Nat) (b : List Int) (last : api_Event) : Prop where
  len : b.length = s.Starts.length
  pre : ∀ i, i < k → preEv s i
  last0 : k = 0 → last = ⟨0, -1, 0, 0⟩
  last : 0 < k → last = s.Events.getD (k - 1) default
  at_ : ∀ p, p < s.Starts.length → (b.getD p 0 = -1 ∧ ∀ i, i < k → (s.Events.getD i default).Kind = 11 → (s.Events.getD i default).Obj ≠ p) ∨ ∃ i, i < k ∧ (s.Events.getD i default).Kind = 11 ∧ (s.Events.getD i default).Obj = p ∧ b.getD p 0 = i
  one : ∀ i j, i < k → j < k → (s.Events.getD i default).Kind = 11 → (s.Events.getD j default).Kind = 11 → (s.Events.getD i default).Obj = (s.Events.getD j default).Obj → i = j
theorem InvS.next {s : api_Shape} {k : Nat} {b : List Int} {last : api_Event} (h : InvS s k b last) (hp : preEv s k) (hk : (s.Events.getD k default).Kind ≠ 11) : InvS s (k + 1) b (s.Events.getD k default) :=
  { len := h.len
    pre := fun i hi => by
      by_cases hik : i < k
      · exact h.pre i hik
      · have : i = k := by omega
        subst this; exact hp
    last0 := fun h => by omega
    last := fun _ => by rw [Nat.add_sub_cancel]
    at_ := fun p hp => by
      rcases h.at_ p hp with ⟨h1, h2⟩ | ⟨i, h1, h2⟩
      · refine .inl ⟨h1, fun i hi hg => ?_⟩
        by_cases hik : i < k
        · exact h2 i hik hg
        · have : i = k := by omega
          subst this; exact absurd hg hk
      · exact .inr ⟨i, by omega, h2⟩
    one := fun i j hi hj h1 h2 h3 => by
      have hi' : i < k := by
        rcases Nat.lt_or_ge i k with h | h
        · exact h
        · have : i = k := by omega
          subst this; exact absurd h1 hk
      have hj' : j < k := by
        rcases Nat.lt_or_ge j k with h | h
        · exact h
        · have : j = k := by omega
          subst this; exact absurd h2 hk
      exact h.one i j hi' hj' h1 h2 h3 }
theorem InvS.go {s : api_Shape} {k : Nat} {b : List Int} {last : api_Event} (h : InvS s k b last) (hp : preEv s k) (hk : (s.Events.getD k default).Kind = 11) (hnew : b.getD (s.Events.getD k default).Obj.toNat 0 < 0) : InvS s (k + 1) (b.set (s.Events.getD k default).Obj.toNat k) (s.Events.getD k default) := by
  obtain ⟨hb1, _, hb3, _⟩ := hp
  have hb3 := hb3 hk
  have hlt : (s.Events.getD k default).Obj.toNat < s.Starts.length := by omega
  have hno : ∀ i, i < k → (s.Events.getD i default).Kind = 11 → (s.Events.getD i default).Obj ≠ (s.Events.getD k default).Obj := fun i hi hg he => by
    rcases h.at_ _ hlt with ⟨_, h2⟩ | ⟨j, h1, h2, h3, h4⟩
    · exact h2 i hi hg (by omega)
    · omega
  have hset : ∀ p, (b.set (s.Events.getD k default).Obj.toNat (k : Int)).getD p 0 = if p = (s.Events.getD k default).Obj.toNat then (k : Int) else b.getD p 0 := fun p => by
    exact getD_set (by rw [h.len]; exact hlt)
  exact
  { len := by rw [List.length_set]; exact h.len
    pre := fun i hi => by
      by_cases hik : i < k
      · exact h.pre i hik
      · have : i = k := by omega
        subst this; exact ⟨hb1, ‹_›, fun _ => hb3, ‹_›⟩
    last0 := fun h => by omega
    last := fun _ => by rw [Nat.add_sub_cancel]
    at_ := fun p hp => by
      rw [hset]
      by_cases he : p = (s.Events.getD k default).Obj.toNat
      · rw [if_pos he]
        exact .inr ⟨k, by omega, hk, by omega, rfl⟩
      · rw [if_neg he]
        rcases h.at_ p hp with ⟨h1, h2⟩ | ⟨i, h1, h2⟩
        · refine .inl ⟨h1, fun i hi hg => ?_⟩
          by_cases hik : i < k
          · exact h2 i hik hg
          · have : i = k := by omega
            subst this; omega
        · exact .inr ⟨i, by omega, h2⟩
    one := fun i j hi hj h1 h2 h3 => by
      by_cases hik : i < k
      · by_cases hjk : j < k
        · exact h.one i j hik hjk h1 h2 h3
        · have : j = k := by omega
          subst this; exact absurd h3 (hno i hik h1)
      · have : i = k := by omega
        subst this
        by_cases hjk : j < i
        · exact absurd h3.symm (hno j hjk h2)
        · omega }
theorem ev50 {n : Nat} {s : api_Shape} {e : api_Event} : Ev (s50 n s e) fun r => (r = true ↔ (e.Kind = 11 → e.Proc < e.Obj ∧ e.Obj < s.Starts.length) ∧ (e.Kind ≠ 11 → 0 ≤ e.Obj ∧ e.Obj < 12)) := by
  unfold s50
  refine Ev.ite (fun h => Ev.some ?_) (fun h => Ev.some ?_)
  · simp only [beq_iff_eq] at h
    simp only [Bool.and_eq_true, decide_eq_true_eq]
    constructor
    · exact fun h' => ⟨fun _ => by omega, fun h' => absurd h h'⟩
    · exact fun h' => by have := h'.1 h; omega
  · simp only [beq_eq_false_iff_ne, ne_eq] at h
    simp only [Bool.and_eq_true, decide_eq_true_eq]
    constructor
    · exact fun h' => ⟨fun h'' => absurd h'' h, fun _ => by omega⟩
    · exact fun h' => by have := h'.2 h; omega
theorem ev37_3 {n : Nat} {s : api_Shape} (hN : s.Events.length ≤ 40) (hM : s.Starts.length ≤ 6) : ∀ m k (b : List Int) (last : api_Event), k ≤ s.Events.length → s.Events.length < m + k → InvS s k b last → Ev (l37_3 n m s b last s.Events s.Events.length k) fun o => (∃ b' last', o = .ok s b' ∧ InvS s s.Events.length b' last') ∨ (o = .ret 1 ∧ ¬ Good s) := by
  intro m
  induction m with
  | zero => intro k b last h1 h2 _; omega
  | succ m ih =>
    intro k b last h1 h2 hI
    rw [l37_3]
    refine Ev.ite (fun h => ?_) (fun h => ?_)
    · simp only [decide_eq_true_eq] at h
      have hlt : k < s.Events.length := by omega
      refine Ev.ask ⟨by omega, h⟩ ?_
      simp only [Int.toNat_natCast]
      change Ev (Option.bind (if _ then s50 n s (s.Events.getD k default) else some false) _) _
      have bad : ¬ preEv s k → Ev (some (O37_3.ret 1)) fun o => (∃ b' last', o = .ok s b' ∧ InvS s s.Events.length b' last') ∨ (o = .ret 1 ∧ ¬ Good s) := fun hb => Ev.some (.inr ⟨rfl, fun hg => hb (hg.ev k hlt).pre⟩)
      have hord : preEv s k → last.Proc ≤ (s.Events.getD k default).Proc ∧ ((s.Events.getD k default).Proc = last.Proc → last.Inst < (s.Events.getD k default).Inst) := fun hp => by
        obtain ⟨h3, h4, _⟩ := hp
        by_cases h0 : k = 0
        · rw [hI.last0 h0]
          exact ⟨by simp only; omega, fun _ => by simp only; omega⟩
        · rw [hI.last (by omega)]
          exact h4 (by omega)
      refine Ev.bind (Q := fun r => (((last.Proc ≤ (s.Events.getD k default).Proc ∧ (s.Events.getD k default).Proc < s.Starts.length) ∧ 1 ≤ (s.Events.getD k default).Kind) ∧ (s.Events.getD k default).Kind ≤ 11) → (r = true ↔ ((s.Events.getD k default).Kind = 11 → (s.Events.getD k default).Proc < (s.Events.getD k default).Obj ∧ (s.Events.getD k default).Obj < s.Starts.length) ∧ ((s.Events.getD k default).Kind ≠ 11 → 0 ≤ (s.Events.getD k default).Obj ∧ (s.Events.getD k default).Obj < 12))) ?_ fun r hr => ?_
      · refine Ev.ite (fun _ => ev50.mono fun r hr _ => hr) (fun hc => Ev.some fun hc' => ?_)
        exfalso
        simp only [Bool.not_eq_false', Bool.or_eq_true, decide_eq_true_eq] at hc
        omega
      refine Ev.ite (fun hc => bad fun hp => ?_) (fun hc => ?_)
      · have ho := hord hp
        obtain ⟨h3, _, h5, h6⟩ := hp
        have hr := hr ⟨⟨⟨ho.1, h3.2.1⟩, h3.2.2.2.1⟩, h3.2.2.2.2.1⟩
        have hr := hr.2 ⟨h5, fun h => ⟨h3.2.2.2.2.2, h6 h⟩⟩
        subst hr
        simp only [Bool.or_eq_true, decide_eq_true_eq, Bool.not_true, Bool.false_eq_true, or_false] at hc
        omega
      simp only [Bool.or_eq_false_iff, decide_eq_false_iff_not, Bool.not_eq_false'] at hc
      obtain ⟨hc1, rfl⟩ := hc
      have hq := (hr (by omega)).1 rfl
      refine Ev.ite (fun hc => bad fun hp => ?_) (fun hc => ?_)
      · have ho := hord hp
        obtain ⟨h3, _⟩ := hp
        simp only [Bool.or_eq_true, Bool.and_eq_true, beq_iff_eq, decide_eq_true_eq] at hc
        omega
      simp only [Bool.or_eq_false_iff, Bool.and_eq_false_iff, beq_eq_false_iff_ne, decide_eq_false_iff_not, ne_eq] at hc
      have hproc : 0 ≤ last.Proc := by
        by_cases h0 : k = 0
        · rw [hI.last0 h0]; decide
        · rw [hI.last (by omega)]; exact (hI.pre (k - 1) (by omega)).1.1
      have hp : preEv s k := by
        refine ⟨?_, fun h0 => ?_, hq.1, fun h => (hq.2 h).2⟩
        · have : 0 ≤ (s.Events.getD k default).Obj := by
            by_cases h11 : (s.Events.getD k default).Kind = 11
            · have := (hq.1 h11).1
              omega
            · exact (hq.2 h11).1
          omega
        · have e := hI.last h0
          rw [← e]
          omega
      rw [l37_2]
      by_cases h11 : (s.Events.getD k default).Kind = 11
      · rw [if_pos (by simpa using h11)]
        have hb := hq.1 h11
        have hpos : 0 ≤ (s.Events.getD k default).Proc := hp.1.1
        have hlen := hI.len
        rw [if_pos (by omega)]
        by_cases hd : 0 ≤ b.getD (s.Events.getD k default).Obj.toNat 0
        · rw [if_pos (by simpa using hd)]
          refine Ev.some (.inr ⟨rfl, fun hg => ?_⟩)
          rcases hI.at_ (s.Events.getD k default).Obj.toNat (by omega) with ⟨h4, _⟩ | ⟨i, h3, h4, h5, h6⟩
          · omega
          · have g1 := ((hg.ev i (by omega)).2.2.1 h4).2.2
            have g2 := ((hg.ev k hlt).2.2.1 h11).2.2
            have e2 : (s.Events.getD i default).Obj.toNat = (s.Events.getD k default).Obj.toNat := by omega
            rw [e2, g2] at g1
            omega
        · rw [if_neg (by simpa using hd), if_pos (by omega)]
          dsimp only
          rw [w64_id (by omega) (by omega)]
          exact ih (k + 1) _ _ (by omega) (by omega) (hI.go hp h11 (by omega))
      · rw [if_neg (by simpa using h11)]
        dsimp only
        rw [w64_id (by omega) (by omega)]
        exact ih (k + 1) _ _ (by omega) (by omega) (hI.next hp h11)
    · simp only [decide_eq_false_iff_not] at h
      have : k = s.Events.length := by omega
      subst this
      exact Ev.some (.inl ⟨b, last, rfl, hI⟩)
theorem ev37 {s : api_Shape} {n : Nat} (hn : 64 ≤ n) : Ev (s37 n s) fun r => (r = 0 ↔ Good s) ∧ (r = 0 ∨ r = 1) := by
  unfold s37
  refine Ev.ite (fun h => ?_) (fun h => ?_)
  · refine Ev.some ⟨⟨fun h => (by cases h), fun hg => ?_⟩, .inr rfl⟩
    simp only [Bool.or_eq_true, decide_eq_true_eq] at h
    have := hg.n; have := hg.m0; have := hg.m
    omega
  · simp only [Bool.or_eq_false_iff, decide_eq_false_iff_not] at h
    have hN : s.Events.length ≤ 40 := by omega
    have hM : s.Starts.length ≤ 6 := by omega
    refine Ev.ask ⟨by omega, by omega⟩ ?_
    simp only [Int.toNat_natCast, List.length_replicate]
    obtain ⟨o, ho, b, rfl, hb, hb1⟩ := ev37_1 (n := n) (s := s) n 0 (List.replicate s.Starts.length 0) (by simp) hM (Nat.zero_le _) (by omega) (fun i h => absurd h (Nat.not_lt_zero i))
    rw [show ((0 : Nat) : Int) = 0 from rfl] at ho
    rw [ho]
    dsimp only
    obtain ⟨o2, ho2, h2⟩ := ev37_3 (n := n) hN hM n 0 b ⟨0, -1, 0, 0⟩ (Nat.zero_le _) (by omega)
      { len := hb, pre := fun i h => absurd h (Nat.not_lt_zero i), last0 := fun _ => rfl, last := fun h => absurd h (Nat.lt_irrefl 0), at_ := fun p hp => .inl ⟨hb1 p hp, fun i h => absurd h (Nat.not_lt_zero i)⟩, one := fun i j h => absurd h (Nat.not_lt_zero i) }
    rw [show ((0 : Nat) : Int) = 0 from rfl] at ho2
    rw [ho2]
    rcases h2 with ⟨b', last', rfl, hI⟩ | ⟨rfl, hng⟩
    · dsimp only
      refine Ev.bind (ev51 (by rw [hI.len]; omega) hn) fun r hr => ?_
      have key : (∀ i, i < b'.length → b'.getD i 0 = s.Starts.getD i 0) ↔ Good s := by
        rw [hI.len]
        constructor
        · intro he
          refine ⟨hN, by omega, hM, fun i hi => ?_, fun p hp => ?_⟩
          · obtain ⟨g1, g2, g3, g4⟩ := hI.pre i hi
            refine ⟨g1, g2, fun h11 => ⟨(g3 h11).1, (g3 h11).2, ?_⟩, g4⟩
            have hlt : (s.Events.getD i default).Obj.toNat < s.Starts.length := by have := g3 h11; omega
            show s.Starts.getD _ 0 = _
            rw [← he _ hlt]
            rcases hI.at_ _ hlt with ⟨_, h4⟩ | ⟨j, h3, h4, h5, h6⟩
            · exact absurd (by omega) (h4 i hi h11)
            · rw [h6, hI.one i j hi h3 h11 h4 (by omega)]
          · unfold okSt
            rw [← he p hp]
            rcases hI.at_ p hp with ⟨h3, _⟩ | ⟨j, h3, h4, h5, h6⟩
            · rw [h3]; exact ⟨by omega, by omega, fun h => by omega⟩
            · rw [h6]; exact ⟨by omega, by omega, fun _ => by simp only [Int.toNat_natCast]; exact ⟨h4, h5⟩⟩
        · intro hg p hp
          have hs := hg.st p hp
          unfold okSt at hs
          rcases hI.at_ p hp with ⟨h3, h4⟩ | ⟨j, h3, h4, h5, h6⟩
          · rw [h3]
            by_cases h0 : 0 ≤ s.Starts.getD p 0
            · exact absurd (hs.2.2 h0).2 (h4 _ (by omega) (hs.2.2 h0).1)
            · omega
          · rw [h6]
            have g := ((hg.ev j h3).2.2.1 h4).2.2
            rw [show (s.Events.getD j default).Obj.toNat = p from by omega] at g
            exact g.symm
      refine Ev.ite (fun hc => Ev.some ⟨⟨fun h => (by cases h), fun hg => ?_⟩, .inr rfl⟩) (fun hc => Ev.some ⟨⟨fun _ => ?_, fun _ => rfl⟩, .inl rfl⟩)
      · simp only [Bool.not_eq_true'] at hc
        have := hr.2 ⟨hI.len, key.2 hg⟩
        rw [hc] at this; cases this
      · simp only [Bool.not_eq_false'] at hc
        exact key.1 (hr.1 hc).2
    · exact Ev.some ⟨⟨fun h => (by cases h), fun hg => absurd hg hng⟩, .inr rfl⟩
def code49_1 : CCode :=
 (.seq
  (.region [⟨(some 25), (.fad 3 (.tmp 9)), none⟩,
   ⟨(some 26), (.load false 1 (.tmp 25)), none⟩,
   ⟨(some 27), (.mv (.tmp 2)), none⟩,
   ⟨(some 28), (.bin 0 .eql (.tmp 26) (.tmp 27)), none⟩,
   ⟨(some 29), (.mv (.tmp 28)), none⟩,
   ⟨(some 30), (.fad 2 (.tmp 9)), (some (29, true))⟩,
   ⟨(some 31), (.load false 1 (.tmp 30)), (some (29, true))⟩,
   ⟨(some 32), (.bin 0 .eql (.tmp 31) (.const (.int .i64 9))), (some (29, true))⟩,
   ⟨(some 33), (.pick (.tmp 29) (.tmp 32) (.const (.bool false))), none⟩] none)
  (.cond (.tmp 33)
  (.region [⟨(some 34), (.mv (.tmp 7)), none⟩,
   ⟨(some 35), (.bin 0 .add (.tmp 34) (.const (.int .i64 1))), none⟩,
   ⟨(some 7), (.mv (.tmp 35)), none⟩] none)
  .skip))
def code49_2 : CCode :=
 (.block 1
  (.seq
  (.region [⟨(some 16), (.fad 0 (.tmp 3)), none⟩,
   ⟨(some 17), (.load false 1 (.tmp 16)), none⟩,
   ⟨(some 18), (.mv (.tmp 1)), none⟩,
   ⟨(some 19), (.mv (.tmp 8)), none⟩,
   ⟨(some 20), (.idx 3 (.tmp 18) (.tmp 19)), none⟩,
   ⟨(some 21), (.fad 0 (.tmp 20)), none⟩,
   ⟨(some 22), (.load false 1 (.tmp 21)), none⟩,
   ⟨(some 23), (.idx 4 (.tmp 17) (.tmp 22)), none⟩,
   ⟨(some 24), (.load true 4 (.tmp 23)), none⟩,
   ⟨(some 9), (.alloc [(.int .i64 0), (.int .i64 0), (.int .i64 0), (.int .i64 0)]), none⟩,
   ⟨none, (.store 4 (.tmp 9) (.tmp 24)), none⟩] (some (.take 0 (.take 1 (.take 2 (.take 3 (.take 4 (.take 5 (.take 6 (.take 7 (.take 8 (.alt 9 (.alt 10 .done .alt0) .alt0))))))))))))
  (.seq
   code49_1
   (.seq
   (.region [⟨(some 36), (.fad 3 (.tmp 9)), none⟩,
    ⟨(some 37), (.load false 1 (.tmp 36)), none⟩,
    ⟨(some 38), (.mv (.tmp 2)), none⟩,
    ⟨(some 39), (.bin 0 .eql (.tmp 37) (.tmp 38)), none⟩,
    ⟨(some 40), (.mv (.tmp 39)), none⟩,
    ⟨(some 41), (.fad 2 (.tmp 9)), (some (40, true))⟩,
    ⟨(some 42), (.load false 1 (.tmp 41)), (some (40, true))⟩,
    ⟨(some 43), (.bin 0 .eql (.tmp 42) (.const (.int .i64 10))), (some (40, true))⟩,
    ⟨(some 44), (.pick (.tmp 40) (.tmp 43) (.const (.bool false))), none⟩] none)
   (.cond (.tmp 44)
    (.region [⟨(some 45), (.mv (.tmp 7)), none⟩,
     ⟨(some 46), (.bin 0 .sub (.tmp 45) (.const (.int .i64 1))), none⟩,
     ⟨(some 7), (.mv (.tmp 46)), none⟩] none)
    .skip)))))
def code49_3 : CCode :=
 (.block 0
  (.loop
  (.seq
   (.seq
   (.region [⟨(some 10), (.mv (.tmp 8)), none⟩,
    ⟨(some 11), (.mv (.tmp 1)), none⟩,
    ⟨(some 12), (.len 1 (.tmp 11)), none⟩,
    ⟨(some 13), (.bin 0 .lss (.tmp 10) (.tmp 12)), none⟩] none)
   (.cond (.tmp 13)
    .skip
    (.exit 0)))
   (.seq
   code49_2
   (.region [⟨(some 14), (.mv (.tmp 8)), none⟩,
    ⟨(some 15), (.bin 0 .add (.tmp 14) (.const (.int .i64 1))), none⟩,
    ⟨(some 8), (.mv (.tmp 15)), none⟩] none)))))
def code49 : CCode :=
 (.seq
  (.region [⟨(some 3), (.box 2 (.tmp 0)), none⟩,
   ⟨(some 6), (.mv (.const (.int .i64 0))), none⟩] none)
  (.seq
  (.region [⟨(some 7), (.mv (.const (.int .i64 0))), none⟩] none)
  (.seq
   (.seq
   (.region [⟨(some 8), (.mv (.const (.int .i64 0))), none⟩] none)
   code49_3)
   (.seq
   (.region [⟨(some 47), (.mv (.tmp 7)), none⟩,
    ⟨(some 6), (.mv (.tmp 47)), none⟩] none)
   .ret))))
theorem tr49 : (Try.f49.body).bind (trCode Try.prog Try.f49.ntmps) = some code49 := by kernel_rfl
inductive O49_1 where
  | ok (b0 : api_Shape) (b1 : api_Event) (v1 : List api_Entry) (v2 : Int) (v7 : Int) (v8 : Int)
def l49_1 (n : Nat) (b0 : api_Shape) (b1 : api_Event) (v1 : List api_Entry) (v2 : Int) (v7 : Int) (v8 : Int) : Option O49_1 :=
  if (b1.Obj == v2) && (b1.Kind == 9) then
    some (.ok b0 b1 v1 v2 (w64 (v7 + 1)) v8)
  else
    some (.ok b0 b1 v1 v2 v7 v8)
inductive O49_2 where
  | ok (b0 : api_Shape) (v1 : List api_Entry) (v2 : Int) (v7 : Int) (v8 : Int)
def l49_2 (n : Nat) (b0 : api_Shape) (v1 : List api_Entry) (v2 : Int) (v7 : Int) (v8 : Int) : Option O49_2 :=
  if 0 ≤ v8 ∧ v8 < (v1.length : Int) then
    if 0 ≤ ((v1.getD v8.toNat default).Event) ∧ ((v1.getD v8.toNat default).Event) < (b0.Events.length : Int) then
      (match l49_1 n b0 (b0.Events.getD ((v1.getD v8.toNat default).Event).toNat default) v1 v2 v7 v8 with
      | none => none
      | some (.ok b0_129 b1_129 v1_129 v2_129 v7_129 v8_129) =>
        if (b1_129.Obj == v2_129) && (b1_129.Kind == 10) then
          some (.ok b0_129 v1_129 v2_129 (w64 (v7_129 - 1)) v8_129)
        else
          some (.ok b0_129 v1_129 v2_129 v7_129 v8_129))
    else none
  else none
inductive O49_3 where
  | ok (v7 : Int)
def l49_3 (n : Nat) : Nat → api_Shape → (List api_Entry) → Int → Int → Int → Option O49_3
  | 0, _, _, _, _, _ => none
  | m + 1, b0, v1, v2, v7, v8 =>
    if decide (v8 < (v1.length : Int)) then
      (match l49_2 n b0 v1 v2 v7 v8 with
      | none => none
      | some (.ok b0_134 v1_134 v2_134 v7_134 v8_134) =>
        l49_3 n m b0_134 v1_134 v2_134 v7_134 (w64 (v8_134 + 1)))
    else
      some (.ok v7)
def s49 (n : Nat) (p0 : api_Shape) (p1 : List api_Entry) (p2 : Int) : Option Int :=
  (match l49_3 n n p0 p1 p2 0 0 with
  | none => none
  | some (.ok v7_136) =>
    some v7_136)
def E49 (r : Int) (s : AS) : Prop := resOf s (.one 6) = some (I r)
theorem t49_1 {n : Nat} {b0 : api_Shape} {b1 : api_Event} {v1 : List api_Entry} {v2 : Int} {v7 : Int} {v8 : Int} {out : O49_1} (h : l49_1 n b0 b1 v1 v2 v7 v8 = some out) {Q : Ex → AS → Prop} (hok : ∀ b0 b1 v1 v2 v7 v8, out = .ok b0 b1 v1 v2 v7 v8 → Q .normal ⟨[(1, api_Entry.sl v1), (2, I v2), (3, .ptr 0 0), (7, I v7), (8, I v8), (9, .ptr 1 0)], [(0, .box (api_Shape.cs b0)), (1, .box (api_Event.cs b1))], 2⟩) : CWP Try.prog Try.f49.ntmps code49_1 Q ⟨[(1, api_Entry.sl v1), (2, I v2), (3, .ptr 0 0), (7, I v7), (8, I v8), (9, .ptr 1 0)], [(0, .box (api_Shape.cs b0)), (1, .box (api_Event.cs b1))], 2⟩ := by
  unfold l49_1 at h
  refine CWP.seq ?_
  refine CWP.regionT ⟨[(1, api_Entry.sl v1), (2, I v2), (3, .ptr 0 0), (7, I v7), (8, I v8), (9, .ptr 1 0), (33, .tst ((b1.Obj == v2) && (b1.Kind == 9)))], [(0, .box (api_Shape.cs b0)), (1, .box (api_Event.cs b1))], 74⟩ ?_ ?_
  · refine And.intro (fun hg122 => ?_) (fun hg122 => ?_)
    · have hg122 : (b1.Obj == v2) = true := hg122
      exact Le.trans (Le.rep (t := 33) rfl (RepLe.fr rfl (FrLe.tst2 (by simp only [hg122, sB, reduceIte])))) (Le.keep (live := [1, 2, 3, 7, 8, 9, 33]) (names := [0, 1]) (nx := 74) rfl)
    · have hg122 : (b1.Obj == v2) = false := hg122
      exact Le.trans (Le.rep (t := 33) rfl (RepLe.fr rfl (FrLe.tst (by simp only [hg122, sB, reduceIte])))) (Le.keep (live := [1, 2, 3, 7, 8, 9, 33]) (names := [0, 1]) (nx := 74) rfl)
  refine CWP.cond (And.intro (fun hc => ?_) (fun hc => ?_))
  · have h := ite_t h hc
    refine CWP.regionT ⟨[(1, api_Entry.sl v1), (2, I v2), (3, .ptr 0 0), (7, I (w64 (v7 + 1))), (8, I v8), (9, .ptr 1 0)], [(0, .box (api_Shape.cs b0)), (1, .box (api_Event.cs b1))], 2⟩ ?_ ?_
    · exact Le.trans (Le.keep (live := [1, 2, 3, 7, 8, 9]) (names := [0, 1]) (nx := 98) rfl) (Le.keep (live := [1, 2, 3, 7, 8, 9]) (names := [0, 1]) (nx := 2) rfl)
    exact hok _ _ _ _ _ _ (Option.some.inj h).symm
  · have h := ite_f h hc
    refine CWP.skipL (Le.keep (live := [1, 2, 3, 7, 8, 9]) (names := [0, 1]) (nx := 2) rfl) (s' := ⟨[(1, api_Entry.sl v1), (2, I v2), (3, .ptr 0 0), (7, I v7), (8, I v8), (9, .ptr 1 0)], [(0, .box (api_Shape.cs b0)), (1, .box (api_Event.cs b1))], 2⟩) ?_
    exact hok _ _ _ _ _ _ (Option.some.inj h).symm
theorem t49_2 {n : Nat} {b0 : api_Shape} {v1 : List api_Entry} {v2 : Int} {v7 : Int} {v8 : Int} {out : O49_2} (h : l49_2 n b0 v1 v2 v7 v8 = some out) {Q : Ex → AS → Prop} (hok : ∀ b0 v1 v2 v7 v8, out = .ok b0 v1 v2 v7 v8 → Q .normal ⟨[(1, api_Entry.sl v1), (2, I v2), (3, .ptr 0 0), (7, I v7), (8, I v8)], [(0, .box (api_Shape.cs b0))], 1⟩) : CWP Try.prog Try.f49.ntmps code49_2 Q ⟨[(1, api_Entry.sl v1), (2, I v2), (3, .ptr 0 0), (7, I v7), (8, I v8)], [(0, .box (api_Shape.cs b0))], 1⟩ := by
  unfold l49_2 at h
  refine CWP.block ?_
  refine CWP.seq ?_
  obtain ⟨hs126, h⟩ := ite_some h
  obtain ⟨hs127, h⟩ := ite_some h
  refine CWP.drawT [] [] ⟨[(1, api_Entry.sl v1), (2, I v2), (3, .ptr 0 0), (7, I v7), (8, I v8), (9, .ptr 73 0)], [(0, .box (api_Shape.cs b0)), (73, .box [I ((b0.Events.getD ((v1.getD v8.toNat default).Event).toNat default).Proc), I ((b0.Events.getD ((v1.getD v8.toNat default).Event).toNat default).Inst), I ((b0.Events.getD ((v1.getD v8.toNat default).Event).toNat default).Kind), I ((b0.Events.getD ((v1.getD v8.toNat default).Event).toNat default).Obj)])], 89⟩ ?_ ?_
  · refine And.intro rfl ?_
    iterate 4 refine And.intro rfl ?_
    refine And.intro hs126 ?_
    iterate 3 refine And.intro rfl ?_
    refine And.intro hs127 ?_
    refine And.intro rfl ?_
    refine And.intro ?_ ?_
    · refine And.intro rfl ?_
      refine And.intro ?_ ?_
      · refine And.intro rfl ?_
        refine SemOp.ofD rfl ?_
        refine ex_refl ?_
        exact Le.keep (live := [1, 2, 3, 7, 8, 9]) (names := [0, 73]) (nx := 89) rfl
      · exact trivial
    · exact trivial
  refine CWP.seq ?_
  generalize hn128 : l49_1 n b0 (b0.Events.getD ((v1.getD v8.toNat default).Event).toNat default) v1 v2 v7 v8 = o128 at h
  rcases o128 with _ | o128
  · cases h
  refine CWP.weaken (s' := ⟨[(1, api_Entry.sl v1), (2, I v2), (3, .ptr 0 0), (7, I v7), (8, I v8), (9, .ptr 1 0)], [(0, .box (api_Shape.cs b0)), (1, .box [I ((b0.Events.getD ((v1.getD v8.toNat default).Event).toNat default).Proc), I ((b0.Events.getD ((v1.getD v8.toNat default).Event).toNat default).Inst), I ((b0.Events.getD ((v1.getD v8.toNat default).Event).toNat default).Kind), I ((b0.Events.getD ((v1.getD v8.toNat default).Event).toNat default).Obj)])], 2⟩) (Le.ren [(0, 0), (1, 73)] rfl ⟨rfl, rfl, rfl, rfl, rfl, rfl, trivial⟩ ⟨⟨_, rfl, rfl⟩, ⟨_, rfl, rfl⟩, trivial⟩) ?_
  refine t49_1 hn128 ?_
  · intro b0_129 b1_129 v1_129 v2_129 v7_129 v8_129 e
    subst e
    dsimp only at h
    refine CWP.seq ?_
    refine CWP.regionT ⟨[(1, api_Entry.sl v1_129), (2, I v2_129), (3, .ptr 0 0), (7, I v7_129), (8, I v8_129), (44, .tst ((b1_129.Obj == v2_129) && (b1_129.Kind == 10)))], [(0, .box (api_Shape.cs b0_129))], 74⟩ ?_ ?_
    · refine And.intro (fun hg130 => ?_) (fun hg130 => ?_)
      · have hg130 : (b1_129.Obj == v2_129) = true := hg130
        exact Le.trans (Le.rep (t := 44) rfl (RepLe.fr rfl (FrLe.tst2 (by simp only [hg130, sB, reduceIte])))) (Le.keep (live := [1, 2, 3, 7, 8, 44]) (names := [0]) (nx := 74) rfl)
      · have hg130 : (b1_129.Obj == v2_129) = false := hg130
        exact Le.trans (Le.rep (t := 44) rfl (RepLe.fr rfl (FrLe.tst (by simp only [hg130, sB, reduceIte])))) (Le.keep (live := [1, 2, 3, 7, 8, 44]) (names := [0]) (nx := 74) rfl)
    refine CWP.cond (And.intro (fun hc => ?_) (fun hc => ?_))
    · have h := ite_t h hc
      refine CWP.regionT ⟨[(1, api_Entry.sl v1_129), (2, I v2_129), (3, .ptr 0 0), (7, I (w64 (v7_129 - 1))), (8, I v8_129)], [(0, .box (api_Shape.cs b0_129))], 1⟩ ?_ ?_
      · exact Le.trans (Le.keep (live := [1, 2, 3, 7, 8]) (names := [0]) (nx := 98) rfl) (Le.keep (live := [1, 2, 3, 7, 8]) (names := [0]) (nx := 1) rfl)
      exact hok _ _ _ _ _ (Option.some.inj h).symm
    · have h := ite_f h hc
      refine CWP.skipL (Le.keep (live := [1, 2, 3, 7, 8]) (names := [0]) (nx := 1) rfl) (s' := ⟨[(1, api_Entry.sl v1_129), (2, I v2_129), (3, .ptr 0 0), (7, I v7_129), (8, I v8_129)], [(0, .box (api_Shape.cs b0_129))], 1⟩) ?_
      exact hok _ _ _ _ _ (Option.some.inj h).symm
theorem t49_3 {n fuel : Nat} {b0 : api_Shape} {v1 : List api_Entry} {v2 : Int} {v7 : Int} {v8 : Int} {out : O49_3} (h : l49_3 n fuel b0 v1 v2 v7 v8 = some out) {Q : Ex → AS → Prop} (hok : ∀ v7, out = .ok v7 → Q .normal ⟨[(7, I v7)], [], 0⟩) : CWP Try.prog Try.f49.ntmps code49_3 Q ⟨[(1, api_Entry.sl v1), (2, I v2), (3, .ptr 0 0), (7, I v7), (8, I v8)], [(0, .box (api_Shape.cs b0))], 1⟩ := by
  refine CWP.block ?_
  refine CWP.loop (fun k s => ∃ b0 : api_Shape, ∃ v1 : List api_Entry, ∃ v2 : Int, ∃ v7 : Int, ∃ v8 : Int, s = ⟨[(1, api_Entry.sl v1), (2, I v2), (3, .ptr 0 0), (7, I v7), (8, I v8)], [(0, .box (api_Shape.cs b0))], 1⟩ ∧ l49_3 n k b0 v1 v2 v7 v8 = some out) fuel ⟨b0, v1, v2, v7, v8, rfl, h⟩ ?_
  clear h
  rintro k s ⟨b0, v1, v2, v7, v8, rfl, h⟩
  cases k with
  | zero => cases h
  | succ m =>
    rw [l49_3] at h
    refine CWP.seq ?_
    refine CWP.seq ?_
    refine CWP.regionT ⟨[(1, api_Entry.sl v1), (2, I v2), (3, .ptr 0 0), (7, I v7), (8, I v8), (13, .tst (decide (v8 < (v1.length : Int))))], [(0, .box (api_Shape.cs b0))], 33⟩ ?_ ?_
    · exact Le.keep (live := [1, 2, 3, 7, 8, 13]) (names := [0]) (nx := 33) rfl
    refine CWP.cond (And.intro (fun hc => ?_) (fun hc => ?_))
    · have h := ite_t h hc
      refine CWP.skip ?_
      refine CWP.seq ?_
      generalize hn133 : l49_2 n b0 v1 v2 v7 v8 = o133 at h
      rcases o133 with _ | o133
      · cases h
      refine CWP.weaken (s' := ⟨[(1, api_Entry.sl v1), (2, I v2), (3, .ptr 0 0), (7, I v7), (8, I v8)], [(0, .box (api_Shape.cs b0))], 1⟩) (Le.keep (live := [1, 2, 3, 7, 8]) (names := [0]) (nx := 1) rfl) ?_
      refine t49_2 hn133 ?_
      · intro b0_134 v1_134 v2_134 v7_134 v8_134 e
        subst e
        dsimp only at h
        refine CWP.regionT ⟨[(1, api_Entry.sl v1_134), (2, I v2_134), (3, .ptr 0 0), (7, I v7_134), (8, I (w64 (v8_134 + 1)))], [(0, .box (api_Shape.cs b0_134))], 1⟩ ?_ ?_
        · exact Le.trans (Le.keep (live := [1, 2, 3, 7, 8]) (names := [0]) (nx := 25) rfl) (Le.keep (live := [1, 2, 3, 7, 8]) (names := [0]) (nx := 1) rfl)
        exact ⟨m, Nat.lt_succ_self m, _, _, _, _, _, rfl, h⟩
    · have h := ite_f h hc
      refine CWP.exitL (Le.keep (live := [7]) (names := []) (nx := 0) rfl) (s' := ⟨[(7, I v7)], [], 0⟩) ?_
      exact hok _ (Option.some.inj h).symm
theorem wf49 {n : Nat} {p0 : api_Shape} {p1 : List api_Entry} {p2 : Int} {r : Int} (h : s49 n p0 p1 p2 = some r) : CWP Try.prog Try.f49.ntmps code49 (AtE (E49 r)) ⟨[(0, .agg (api_Shape.cs p0)), (1, api_Entry.sl p1), (2, I p2)], [], 0⟩ := by
  unfold s49 at h
  refine CWP.seq ?_
  refine CWP.regionT ⟨[(1, api_Entry.sl p1), (2, I p2), (3, .ptr 0 0)], [(0, .box (api_Shape.cs p0))], 16⟩ ?_ ?_
  · exact Le.keep (live := [1, 2, 3]) (names := [0]) (nx := 16) rfl
  refine CWP.seq ?_
  refine CWP.regionT ⟨[(1, api_Entry.sl p1), (2, I p2), (3, .ptr 0 0), (7, I 0)], [(0, .box (api_Shape.cs p0))], 24⟩ ?_ ?_
  · exact Le.keep (live := [1, 2, 3, 7]) (names := [0]) (nx := 24) rfl
  refine CWP.seq ?_
  refine CWP.seq ?_
  refine CWP.regionT ⟨[(1, api_Entry.sl p1), (2, I p2), (3, .ptr 0 0), (7, I 0), (8, I 0)], [(0, .box (api_Shape.cs p0))], 32⟩ ?_ ?_
  · exact Le.keep (live := [1, 2, 3, 7, 8]) (names := [0]) (nx := 32) rfl
  generalize hn135 : l49_3 n n p0 p1 p2 0 0 = o135 at h
  rcases o135 with _ | o135
  · cases h
  refine CWP.weaken (s' := ⟨[(1, api_Entry.sl p1), (2, I p2), (3, .ptr 0 0), (7, I 0), (8, I 0)], [(0, .box (api_Shape.cs p0))], 1⟩) (Le.keep (live := [1, 2, 3, 7, 8]) (names := [0]) (nx := 1) rfl) ?_
  refine t49_3 hn135 ?_
  · intro v7_136 e
    subst e
    dsimp only at h
    refine CWP.seq ?_
    refine CWP.regionT ⟨[(6, I v7_136)], [], 16⟩ ?_ ?_
    · exact Le.keep (live := [6]) (names := []) (nx := 16) rfl
    refine CWP.ret ?_
    have e := Option.some.inj h
    subst e
    exact rfl
theorem c49 {n : Nat} {p0 : api_Shape} {p1 : List api_Entry} {p2 : Int} {r : Int} (h : s49 n p0 p1 p2 = some r) : FC Try.prog 49 [.agg (api_Shape.cs p0), api_Entry.sl p1, I p2] (I r) [] false := FC.pureE (fn := Try.f49) (cc := code49) (res := .one 6) (by kernel_rfl) (by kernel_rfl) tr49 (by kernel_rfl) (Nat.le_of_ble_eq_true rfl) rfl (wf49 h)
def code34 : CCode :=
 (.seq
  (.region [⟨(some 2), (.mv (.const (.int .i64 0))), none⟩] none)
  (.seq
  (.seq
   (.region [⟨(some 3), (.mv (.tmp 0)), none⟩,
    ⟨(some 4), (.bin 0 .leq (.tmp 3) (.const (.int .i64 2))), none⟩] none)
   (.cond (.tmp 4)
   (.seq
    (.region [⟨(some 2), (.mv (.const (.int .i64 1))), none⟩] none)
    .ret)
   .skip))
  (.seq
   (.seq
   (.region [⟨(some 5), (.mv (.tmp 0)), none⟩,
    ⟨(some 6), (.bin 0 .leq (.tmp 5) (.const (.int .i64 6))), none⟩] none)
   (.cond (.tmp 6)
    (.seq
    (.region [⟨(some 2), (.mv (.const (.int .i64 2))), none⟩] none)
    .ret)
    .skip))
   (.seq
   (.seq
    (.region [⟨(some 7), (.mv (.tmp 0)), none⟩,
     ⟨(some 8), (.bin 0 .leq (.tmp 7) (.const (.int .i64 8))), none⟩] none)
    (.cond (.tmp 8)
    (.seq
     (.region [⟨(some 2), (.mv (.const (.int .i64 3))), none⟩] none)
     .ret)
    .skip))
   (.seq
    (.seq
    (.region [⟨(some 9), (.mv (.tmp 0)), none⟩,
     ⟨(some 10), (.bin 0 .leq (.tmp 9) (.const (.int .i64 10))), none⟩] none)
    (.cond (.tmp 10)
     (.seq
     (.region [⟨(some 2), (.mv (.const (.int .i64 4))), none⟩] none)
     .ret)
     .skip))
    (.seq
    (.region [⟨(some 2), (.mv (.const (.int .i64 0))), none⟩] none)
    .ret))))))
theorem tr34 : (Try.f34.body).bind (trCode Try.prog Try.f34.ntmps) = some code34 := by kernel_rfl
def s34 (n : Nat) (p0 : Int) : Option Int :=
  if decide (p0 ≤ 2) then
    some 1
  else
    if decide (p0 ≤ 6) then
      some 2
    else
      if decide (p0 ≤ 8) then
        some 3
      else
        if decide (p0 ≤ 10) then
          some 4
        else
          some 0
def E34 (r : Int) (s : AS) : Prop := resOf s (.one 2) = some (I r)
theorem wf34 {n : Nat} {p0 : Int} {r : Int} (h : s34 n p0 = some r) : CWP Try.prog Try.f34.ntmps code34 (AtE (E34 r)) ⟨[(0, I p0)], [], 0⟩ := by
  unfold s34 at h
  refine CWP.seq ?_
  refine CWP.regionT ⟨[(0, I p0)], [], 8⟩ ?_ ?_
  · exact Le.keep (live := [0]) (names := []) (nx := 8) rfl
  refine CWP.seq ?_
  refine CWP.seq ?_
  refine CWP.regionT ⟨[(0, I p0), (4, .tst (decide (p0 ≤ 2)))], [], 24⟩ ?_ ?_
  · exact Le.keep (live := [0, 4]) (names := []) (nx := 24) rfl
  refine CWP.cond (And.intro (fun hc => ?_) (fun hc => ?_))
  · have h := ite_t h hc
    refine CWP.seq ?_
    refine CWP.regionT ⟨[(2, I 1)], [], 32⟩ ?_ ?_
    · exact Le.keep (live := [2]) (names := []) (nx := 32) rfl
    refine CWP.ret ?_
    have e := Option.some.inj h
    subst e
    exact rfl
  · have h := ite_f h hc
    refine CWP.skip ?_
    refine CWP.seq ?_
    refine CWP.seq ?_
    refine CWP.regionT ⟨[(0, I p0), (6, .tst (decide (p0 ≤ 6)))], [], 40⟩ ?_ ?_
    · exact Le.keep (live := [0, 6]) (names := []) (nx := 40) rfl
    refine CWP.cond (And.intro (fun hc => ?_) (fun hc => ?_))
    · have h := ite_t h hc
      refine CWP.seq ?_
      refine CWP.regionT ⟨[(2, I 2)], [], 48⟩ ?_ ?_
      · exact Le.keep (live := [2]) (names := []) (nx := 48) rfl
      refine CWP.ret ?_
      have e := Option.some.inj h
      subst e
      exact rfl
    · have h := ite_f h hc
      refine CWP.skip ?_
      refine CWP.seq ?_
      refine CWP.seq ?_
      refine CWP.regionT ⟨[(0, I p0), (8, .tst (decide (p0 ≤ 8)))], [], 56⟩ ?_ ?_
      · exact Le.keep (live := [0, 8]) (names := []) (nx := 56) rfl
      refine CWP.cond (And.intro (fun hc => ?_) (fun hc => ?_))
      · have h := ite_t h hc
        refine CWP.seq ?_
        refine CWP.regionT ⟨[(2, I 3)], [], 64⟩ ?_ ?_
        · exact Le.keep (live := [2]) (names := []) (nx := 64) rfl
        refine CWP.ret ?_
        have e := Option.some.inj h
        subst e
        exact rfl
      · have h := ite_f h hc
        refine CWP.skip ?_
        refine CWP.seq ?_
        refine CWP.seq ?_
        refine CWP.regionT ⟨[(10, .tst (decide (p0 ≤ 10)))], [], 72⟩ ?_ ?_
        · exact Le.keep (live := [10]) (names := []) (nx := 72) rfl
        refine CWP.cond (And.intro (fun hc => ?_) (fun hc => ?_))
        · have h := ite_t h hc
          refine CWP.seq ?_
          refine CWP.regionT ⟨[(2, I 4)], [], 80⟩ ?_ ?_
          · exact Le.keep (live := [2]) (names := []) (nx := 80) rfl
          refine CWP.ret ?_
          have e := Option.some.inj h
          subst e
          exact rfl
        · have h := ite_f h hc
          refine CWP.skip ?_
          refine CWP.seq ?_
          refine CWP.regionT ⟨[(2, I 0)], [], 80⟩ ?_ ?_
          · exact Le.keep (live := [2]) (names := []) (nx := 80) rfl
          refine CWP.ret ?_
          have e := Option.some.inj h
          subst e
          exact rfl
theorem c34 {n : Nat} {p0 : Int} {r : Int} (h : s34 n p0 = some r) : FC Try.prog 34 [I p0] (I r) [] false := FC.pureE (fn := Try.f34) (cc := code34) (res := .one 2) (by kernel_rfl) (by kernel_rfl) tr34 (by kernel_rfl) (Nat.le_of_ble_eq_true rfl) rfl (wf34 h)
def code12_1 : CCode :=
 (.block 0
  (.loop
  (.seq
   (.seq
   (.region [⟨(some 6), (.mv (.tmp 5)), none⟩,
    ⟨(some 7), (.mv (.tmp 0)), none⟩,
    ⟨(some 8), (.len 1 (.tmp 7)), none⟩,
    ⟨(some 9), (.bin 0 .lss (.tmp 6) (.tmp 8)), none⟩] none)
   (.cond (.tmp 9)
    .skip
    (.exit 0)))
   (.seq
   (.block 1
    (.seq
    (.region [⟨(some 12), (.mv (.tmp 0)), none⟩,
     ⟨(some 13), (.mv (.tmp 5)), none⟩,
     ⟨(some 14), (.idx 3 (.tmp 12) (.tmp 13)), none⟩,
     ⟨(some 15), (.fad 0 (.tmp 14)), none⟩,
     ⟨(some 16), (.load false 1 (.tmp 15)), none⟩,
     ⟨(some 17), (.mv (.tmp 1)), none⟩,
     ⟨(some 18), (.bin 0 .eql (.tmp 16) (.tmp 17)), none⟩,
     ⟨(some 19), (.mv (.tmp 18)), none⟩,
     ⟨(some 20), (.mv (.tmp 0)), (some (19, false))⟩,
     ⟨(some 21), (.mv (.tmp 5)), (some (19, false))⟩,
     ⟨(some 22), (.idx 3 (.tmp 20) (.tmp 21)), (some (19, false))⟩,
     ⟨(some 23), (.fad 1 (.tmp 22)), (some (19, false))⟩,
     ⟨(some 24), (.load false 1 (.tmp 23)), (some (19, false))⟩,
     ⟨(some 25), (.mv (.tmp 1)), (some (19, false))⟩,
     ⟨(some 26), (.bin 0 .eql (.tmp 24) (.tmp 25)), (some (19, false))⟩,
     ⟨(some 27), (.pick (.tmp 19) (.const (.bool true)) (.tmp 26)), none⟩] none)
    (.cond (.tmp 27)
     (.seq
     (.region [⟨(some 28), (.mv (.tmp 5)), none⟩,
      ⟨(some 4), (.mv (.tmp 28)), none⟩] none)
     .ret)
     .skip)))
   (.region [⟨(some 10), (.mv (.tmp 5)), none⟩,
    ⟨(some 11), (.bin 0 .add (.tmp 10) (.const (.int .i64 1))), none⟩,
    ⟨(some 5), (.mv (.tmp 11)), none⟩] none)))))
def code12 : CCode :=
 (.seq
  (.region [⟨(some 4), (.mv (.const (.int .i64 0))), none⟩] none)
  (.seq
  (.seq
   (.region [⟨(some 5), (.mv (.const (.int .i64 0))), none⟩] none)
   code12_1)
  (.seq
   (.region [⟨(some 4), (.mv (.const (.int .i64 (-1)))), none⟩] none)
   .ret)))
theorem tr12 : (Try.f12.body).bind (trCode Try.prog Try.f12.ntmps) = some code12 := by kernel_rfl
inductive O12_1 where
  | ok
  | ret (r : Int)
def l12_1 (n : Nat) : Nat → (List api_Entry) → Int → Int → Option O12_1
  | 0, _, _, _ => none
  | m + 1, v0, v1, v5 =>
    if decide (v5 < (v0.length : Int)) then
      if 0 ≤ v5 ∧ v5 < (v0.length : Int) then
        if (((v0.getD v5.toNat default).Event) == v1) = false → 0 ≤ v5 ∧ v5 < (v0.length : Int) then
          if (((v0.getD v5.toNat default).Event) == v1) || (((v0.getD v5.toNat default).With) == v1) then
            some (.ret v5)
          else
            l12_1 n m v0 v1 (w64 (v5 + 1))
        else none
      else none
    else
      some (.ok)
def s12 (n : Nat) (p0 : List api_Entry) (p1 : Int) : Option Int :=
  (match l12_1 n n p0 p1 0 with
  | none => none
  | some (.ok) =>
    some (-1)
  | some (.ret r) =>
    some r)
def E12 (r : Int) (s : AS) : Prop := resOf s (.one 4) = some (I r)
theorem t12_1 {n fuel : Nat} {v0 : List api_Entry} {v1 : Int} {v5 : Int} {out : O12_1} (h : l12_1 n fuel v0 v1 v5 = some out) {Q : Ex → AS → Prop} (hok : out = .ok → Q .normal ⟨[], [], 0⟩) (hret : ∀ r, out = .ret r → ∀ s, E12 r s → Q .ret s) : CWP Try.prog Try.f12.ntmps code12_1 Q ⟨[(0, api_Entry.sl v0), (1, I v1), (5, I v5)], [], 0⟩ := by
  refine CWP.block ?_
  refine CWP.loop (fun k s => ∃ v0 : List api_Entry, ∃ v1 : Int, ∃ v5 : Int, s = ⟨[(0, api_Entry.sl v0), (1, I v1), (5, I v5)], [], 0⟩ ∧ l12_1 n k v0 v1 v5 = some out) fuel ⟨v0, v1, v5, rfl, h⟩ ?_
  clear h
  rintro k s ⟨v0, v1, v5, rfl, h⟩
  cases k with
  | zero => cases h
  | succ m =>
    rw [l12_1] at h
    refine CWP.seq ?_
    refine CWP.seq ?_
    refine CWP.regionT ⟨[(0, api_Entry.sl v0), (1, I v1), (5, I v5), (9, .tst (decide (v5 < (v0.length : Int))))], [], 32⟩ ?_ ?_
    · exact Le.keep (live := [0, 1, 5, 9]) (names := []) (nx := 32) rfl
    refine CWP.cond (And.intro (fun hc => ?_) (fun hc => ?_))
    · have h := ite_t h hc
      refine CWP.skip ?_
      refine CWP.seq ?_
      refine CWP.block ?_
      refine CWP.seq ?_
      obtain ⟨hs88, h⟩ := ite_some h
      obtain ⟨hs89, h⟩ := ite_some h
      refine CWP.regionT ⟨[(0, api_Entry.sl v0), (1, I v1), (5, I v5), (27, .tst ((((v0.getD v5.toNat default).Event) == v1) || (((v0.getD v5.toNat default).With) == v1)))], [], 160⟩ ?_ ?_
      · refine And.intro hs88 ?_
        refine And.intro (fun hg90 => ?_) (fun hg90 => ?_)
        · have hg90 : (((v0.getD v5.toNat default).Event) == v1) = false := hg90
          refine And.intro (hs89 (by simp only [hg90, sB, reduceIte])) ?_
          exact Le.trans (Le.rep (t := 27) rfl (RepLe.fr rfl (FrLe.tst2 (by simp only [hg90, sB, reduceIte])))) (Le.keep (live := [0, 1, 5, 27]) (names := []) (nx := 160) rfl)
        · have hg90 : (((v0.getD v5.toNat default).Event) == v1) = true := hg90
          exact Le.trans (Le.rep (t := 27) rfl (RepLe.fr rfl (FrLe.tst (by simp only [hg90, sB, reduceIte])))) (Le.keep (live := [0, 1, 5, 27]) (names := []) (nx := 160) rfl)
      refine CWP.cond (And.intro (fun hc => ?_) (fun hc => ?_))
      · have h := ite_t h hc
        refine CWP.seq ?_
        refine CWP.regionT ⟨[(4, I v5)], [], 176⟩ ?_ ?_
        · exact Le.keep (live := [4]) (names := []) (nx := 176) rfl
        refine CWP.ret ?_
        exact hret _ (Option.some.inj h).symm _ rfl
      · have h := ite_f h hc
        refine CWP.skip ?_
        refine CWP.regionT ⟨[(0, api_Entry.sl v0), (1, I v1), (5, I (w64 (v5 + 1)))], [], 0⟩ ?_ ?_
        · exact Le.trans (Le.keep (live := [0, 1, 5]) (names := []) (nx := 184) rfl) (Le.keep (live := [0, 1, 5]) (names := []) (nx := 0) rfl)
        exact ⟨m, Nat.lt_succ_self m, _, _, _, rfl, h⟩
    · have h := ite_f h hc
      refine CWP.exitL (Le.keep (live := []) (names := []) (nx := 0) rfl) (s' := ⟨[], [], 0⟩) ?_
      exact hok (Option.some.inj h).symm
theorem wf12 {n : Nat} {p0 : List api_Entry} {p1 : Int} {r : Int} (h : s12 n p0 p1 = some r) : CWP Try.prog Try.f12.ntmps code12 (AtE (E12 r)) ⟨[(0, api_Entry.sl p0), (1, I p1)], [], 0⟩ := by
  unfold s12 at h
  refine CWP.seq ?_
  refine CWP.regionT ⟨[(0, api_Entry.sl p0), (1, I p1)], [], 8⟩ ?_ ?_
  · exact Le.keep (live := [0, 1]) (names := []) (nx := 8) rfl
  refine CWP.seq ?_
  refine CWP.seq ?_
  refine CWP.regionT ⟨[(0, api_Entry.sl p0), (1, I p1), (5, I 0)], [], 16⟩ ?_ ?_
  · exact Le.keep (live := [0, 1, 5]) (names := []) (nx := 16) rfl
  generalize hn91 : l12_1 n n p0 p1 0 = o91 at h
  rcases o91 with _ | o91
  · cases h
  refine CWP.weaken (s' := ⟨[(0, api_Entry.sl p0), (1, I p1), (5, I 0)], [], 0⟩) (Le.keep (live := [0, 1, 5]) (names := []) (nx := 0) rfl) ?_
  refine t12_1 hn91 ?_ ?_
  · intro e
    subst e
    dsimp only at h
    refine CWP.seq ?_
    refine CWP.regionT ⟨[(4, I (-1))], [], 8⟩ ?_ ?_
    · exact Le.keep (live := [4]) (names := []) (nx := 8) rfl
    refine CWP.ret ?_
    have e := Option.some.inj h
    subst e
    exact rfl
  · intro r e s hs
    subst e
    dsimp only at h
    have e := Option.some.inj h
    subst e
    exact hs
theorem c12 {n : Nat} {p0 : List api_Entry} {p1 : Int} {r : Int} (h : s12 n p0 p1 = some r) : FC Try.prog 12 [api_Entry.sl p0, I p1] (I r) [] false := FC.pureE (fn := Try.f12) (cc := code12) (res := .one 4) (by kernel_rfl) (by kernel_rfl) tr12 (by kernel_rfl) (Nat.le_of_ble_eq_true rfl) rfl (wf12 h)
def code46_1 : CCode :=
 (.block 0
  (.loop
  (.seq
   (.seq
   (.region [⟨(some 41), (.mv (.tmp 8)), none⟩,
    ⟨(some 42), (.fad 0 (.tmp 3)), none⟩,
    ⟨(some 43), (.load false 1 (.tmp 42)), none⟩,
    ⟨(some 44), (.len 1 (.tmp 43)), none⟩,
    ⟨(some 45), (.bin 0 .lss (.tmp 41) (.tmp 44)), none⟩] none)
   (.cond (.tmp 45)
    .skip
    (.exit 0)))
   (.seq
   (.block 1
    (.seq
    (.region [⟨(some 48), (.fad 0 (.tmp 3)), none⟩,
     ⟨(some 49), (.load false 1 (.tmp 48)), none⟩,
     ⟨(some 50), (.mv (.tmp 8)), none⟩,
     ⟨(some 51), (.idx 4 (.tmp 49) (.tmp 50)), none⟩,
     ⟨(some 52), (.fad 0 (.tmp 51)), none⟩,
     ⟨(some 53), (.load false 1 (.tmp 52)), none⟩,
     ⟨(some 54), (.mv (.tmp 7)), none⟩,
     ⟨(some 55), (.bin 0 .eql (.tmp 53) (.tmp 54)), none⟩,
     ⟨(some 56), (.mv (.tmp 55)), none⟩,
     ⟨(some 57), (.mv (.tmp 1)), (some (56, true))⟩,
     ⟨(some 58), (.mv (.tmp 8)), (some (56, true))⟩,
     ⟨(some 59), (.call (.func 12) [(.tmp 57), (.tmp 58)]), (some (56, true))⟩,
     ⟨(some 60), (.bin 0 .geq (.tmp 59) (.const (.int .i64 0))), (some (56, true))⟩,
     ⟨(some 61), (.pick (.tmp 56) (.tmp 60) (.const (.bool false))), none⟩] none)
    (.cond (.tmp 61)
     (.seq
     (.region [⟨(some 6), (.mv (.const (.bool false))), none⟩] none)
     .ret)
     .skip)))
   (.region [⟨(some 46), (.mv (.tmp 8)), none⟩,
    ⟨(some 47), (.bin 0 .add (.tmp 46) (.const (.int .i64 1))), none⟩,
    ⟨(some 8), (.mv (.tmp 47)), none⟩] none)))))
def code46 : CCode :=
 (.seq
  (.region [⟨(some 3), (.box 2 (.tmp 0)), none⟩,
   ⟨(some 6), (.mv (.const (.bool false))), none⟩] none)
  (.seq
  (.seq
   (.region [⟨(some 9), (.mv (.tmp 1)), none⟩,
    ⟨(some 10), (.mv (.tmp 2)), none⟩,
    ⟨(some 11), (.call (.func 12) [(.tmp 9), (.tmp 10)]), none⟩,
    ⟨(some 12), (.bin 0 .geq (.tmp 11) (.const (.int .i64 0))), none⟩] none)
   (.cond (.tmp 12)
   (.seq
    (.region [⟨(some 6), (.mv (.const (.bool false))), none⟩] none)
    .ret)
   .skip))
  (.seq
   (.region [⟨(some 13), (.fad 0 (.tmp 3)), none⟩,
    ⟨(some 14), (.load false 1 (.tmp 13)), none⟩,
    ⟨(some 15), (.mv (.tmp 2)), none⟩,
    ⟨(some 16), (.idx 4 (.tmp 14) (.tmp 15)), none⟩,
    ⟨(some 17), (.fad 0 (.tmp 16)), none⟩,
    ⟨(some 18), (.load false 1 (.tmp 17)), none⟩,
    ⟨(some 7), (.mv (.tmp 18)), none⟩] none)
   (.seq
   (.seq
    (.region [⟨(some 19), (.mv (.tmp 7)), none⟩,
     ⟨(some 20), (.bin 0 .gtr (.tmp 19) (.const (.int .i64 0))), none⟩,
     ⟨(some 21), (.mv (.tmp 20)), none⟩,
     ⟨(some 22), (.fad 1 (.tmp 3)), (some (21, true))⟩,
     ⟨(some 23), (.load false 1 (.tmp 22)), (some (21, true))⟩,
     ⟨(some 24), (.mv (.tmp 7)), (some (21, true))⟩,
     ⟨(some 25), (.idx 1 (.tmp 23) (.tmp 24)), (some (21, true))⟩,
     ⟨(some 26), (.load false 1 (.tmp 25)), (some (21, true))⟩,
     ⟨(some 27), (.bin 0 .lss (.tmp 26) (.const (.int .i64 0))), (some (21, true))⟩,
     ⟨(some 28), (.mv (.tmp 27)), (some (21, true))⟩,
     ⟨(some 29), (.mv (.tmp 1)), (some (28, false))⟩,
     ⟨(some 30), (.fad 1 (.tmp 3)), (some (28, false))⟩,
     ⟨(some 31), (.load false 1 (.tmp 30)), (some (28, false))⟩,
     ⟨(some 32), (.mv (.tmp 7)), (some (28, false))⟩,
     ⟨(some 33), (.idx 1 (.tmp 31) (.tmp 32)), (some (28, false))⟩,
     ⟨(some 34), (.load false 1 (.tmp 33)), (some (28, false))⟩,
     ⟨(some 35), (.call (.func 12) [(.tmp 29), (.tmp 34)]), (some (28, false))⟩,
     ⟨(some 36), (.bin 0 .lss (.tmp 35) (.const (.int .i64 0))), (some (28, false))⟩,
     ⟨(some 37), (.pick (.tmp 28) (.const (.bool true)) (.tmp 36)), (some (21, true))⟩,
     ⟨(some 38), (.pick (.tmp 21) (.tmp 37) (.const (.bool false))), none⟩] none)
    (.cond (.tmp 38)
    (.seq
     (.region [⟨(some 6), (.mv (.const (.bool false))), none⟩] none)
     .ret)
    .skip))
   (.seq
    (.seq
    (.region [⟨(some 39), (.mv (.tmp 2)), none⟩,
     ⟨(some 40), (.bin 0 .add (.tmp 39) (.const (.int .i64 1))), none⟩,
     ⟨(some 8), (.mv (.tmp 40)), none⟩] none)
    code46_1)
    (.seq
    (.region [⟨(some 6), (.mv (.const (.bool true))), none⟩] none)
    .ret))))))
theorem tr46 : (Try.f46.body).bind (trCode Try.prog Try.f46.ntmps) = some code46 := by kernel_rfl
inductive O46_1 where
  | ok
  | ret (r : Bool)
def l46_1 (n : Nat) : Nat → api_Shape → (List api_Entry) → Int → Int → Option O46_1
  | 0, _, _, _, _ => none
  | m + 1, b0, v1, v7, v8 =>
    if decide (v8 < (b0.Events.length : Int)) then
      if 0 ≤ v8 ∧ v8 < (b0.Events.length : Int) then
        (if (((b0.Events.getD v8.toNat default).Proc) == v7) then s12 n v1 v8 else some 0).bind fun r93 =>
        if (((b0.Events.getD v8.toNat default).Proc) == v7) && (decide (r93 ≥ 0)) then
          some (.ret false)
        else
          l46_1 n m b0 v1 v7 (w64 (v8 + 1))
      else none
    else
      some (.ok)
def s46 (n : Nat) (p0 : api_Shape) (p1 : List api_Entry) (p2 : Int) : Option Bool :=
  (s12 n p1 p2).bind fun r84 =>
  if decide (r84 ≥ 0) then
    some false
  else
    if 0 ≤ p2 ∧ p2 < (p0.Events.length : Int) then
      if (decide (((p0.Events.getD p2.toNat default).Proc) > 0)) = true → 0 ≤ ((p0.Events.getD p2.toNat default).Proc) ∧ ((p0.Events.getD p2.toNat default).Proc) < (p0.Starts.length : Int) then
        if (decide (((p0.Events.getD p2.toNat default).Proc) > 0)) = true → (decide ((p0.Starts.getD ((p0.Events.getD p2.toNat default).Proc).toNat 0) < 0)) = false → 0 ≤ ((p0.Events.getD p2.toNat default).Proc) ∧ ((p0.Events.getD p2.toNat default).Proc) < (p0.Starts.length : Int) then
          (if (decide (((p0.Events.getD p2.toNat default).Proc) > 0)) && !(decide ((p0.Starts.getD ((p0.Events.getD p2.toNat default).Proc).toNat 0) < 0)) then s12 n p1 (p0.Starts.getD ((p0.Events.getD p2.toNat default).Proc).toNat 0) else some 0).bind fun r88 =>
          if (decide (((p0.Events.getD p2.toNat default).Proc) > 0)) && ((decide ((p0.Starts.getD ((p0.Events.getD p2.toNat default).Proc).toNat 0) < 0)) || (decide (r88 < 0))) then
            some false
          else
            (match l46_1 n n p0 p1 ((p0.Events.getD p2.toNat default).Proc) (w64 (p2 + 1)) with
            | none => none
            | some (.ok) =>
              some true
            | some (.ret r) =>
              some r)
        else none
      else none
    else none
def E46 (r : Bool) (s : AS) : Prop := resOf s (.one 6) = some (.tst r)
theorem t46_1 {n fuel : Nat} {b0 : api_Shape} {v1 : List api_Entry} {v7 : Int} {v8 : Int} {out : O46_1} (h : l46_1 n fuel b0 v1 v7 v8 = some out) {Q : Ex → AS → Prop} (hok : out = .ok → Q .normal ⟨[], [], 0⟩) (hret : ∀ r, out = .ret r → ∀ s, E46 r s → Q .ret s) : CWP Try.prog Try.f46.ntmps code46_1 Q ⟨[(1, api_Entry.sl v1), (3, .ptr 0 0), (7, I v7), (8, I v8)], [(0, .box (api_Shape.cs b0))], 1⟩ := by
  refine CWP.block ?_
  refine CWP.loop (fun k s => ∃ b0 : api_Shape, ∃ v1 : List api_Entry, ∃ v7 : Int, ∃ v8 : Int, s = ⟨[(1, api_Entry.sl v1), (3, .ptr 0 0), (7, I v7), (8, I v8)], [(0, .box (api_Shape.cs b0))], 1⟩ ∧ l46_1 n k b0 v1 v7 v8 = some out) fuel ⟨b0, v1, v7, v8, rfl, h⟩ ?_
  clear h
  rintro k s ⟨b0, v1, v7, v8, rfl, h⟩
  cases k with
  | zero => cases h
  | succ m =>
    rw [l46_1] at h
    refine CWP.seq ?_
    refine CWP.seq ?_
    refine CWP.regionT ⟨[(1, api_Entry.sl v1), (3, .ptr 0 0), (7, I v7), (8, I v8), (45, .tst (decide (v8 < (b0.Events.length : Int))))], [(0, .box (api_Shape.cs b0))], 41⟩ ?_ ?_
    · exact Le.keep (live := [1, 3, 7, 8, 45]) (names := [0]) (nx := 41) rfl
    refine CWP.cond (And.intro (fun hc => ?_) (fun hc => ?_))
    · have h := ite_t h hc
      refine CWP.skip ?_
      refine CWP.seq ?_
      refine CWP.block ?_
      refine CWP.seq ?_
      obtain ⟨hs92, h⟩ := ite_some h
      obtain ⟨r93, hr93, h⟩ := Option.bind_eq_some_iff.1 h
      refine CWP.regionT ⟨[(1, api_Entry.sl v1), (3, .ptr 0 0), (7, I v7), (8, I v8), (61, .tst ((((b0.Events.getD v8.toNat default).Proc) == v7) && (decide (r93 ≥ 0))))], [(0, .box (api_Shape.cs b0))], 153⟩ ?_ ?_
      · refine And.intro hs92 ?_
        refine And.intro (fun hg94 => ?_) (fun hg94 => ?_)
        · have hg94 : (((b0.Events.getD v8.toNat default).Proc) == v7) = true := hg94
          refine FC.semT rfl rfl rfl trivial (c12 (ite_t hr93 (by simp only [hg94, sB, reduceIte]))) (Or.inl rfl) ?_
          refine ex_refl ?_
          exact Le.trans (Le.rep (t := 61) rfl (RepLe.fr rfl (FrLe.tst2 (by simp only [hg94, sB, reduceIte])))) (Le.keep (live := [1, 3, 7, 8, 61]) (names := [0]) (nx := 153) rfl)
        · have hg94 : (((b0.Events.getD v8.toNat default).Proc) == v7) = false := hg94
          exact Le.trans (Le.rep (t := 61) rfl (RepLe.fr rfl (FrLe.tst (by simp only [hg94, sB, reduceIte])))) (Le.keep (live := [1, 3, 7, 8, 61]) (names := [0]) (nx := 153) rfl)
      refine CWP.cond (And.intro (fun hc => ?_) (fun hc => ?_))
      · have h := ite_t h hc
        refine CWP.seq ?_
        refine CWP.regionT ⟨[(6, .raw (.bool false))], [], 161⟩ ?_ ?_
        · exact Le.keep (live := [6]) (names := []) (nx := 161) rfl
        refine CWP.weaken (Le.rep (t := 6) rfl (RepLe.fr rfl (FrLe.tst rfl))) ?_
        refine CWP.ret ?_
        exact hret _ (Option.some.inj h).symm _ rfl
      · have h := ite_f h hc
        refine CWP.skip ?_
        refine CWP.regionT ⟨[(1, api_Entry.sl v1), (3, .ptr 0 0), (7, I v7), (8, I (w64 (v8 + 1)))], [(0, .box (api_Shape.cs b0))], 1⟩ ?_ ?_
        · exact Le.trans (Le.keep (live := [1, 3, 7, 8]) (names := [0]) (nx := 177) rfl) (Le.keep (live := [1, 3, 7, 8]) (names := [0]) (nx := 1) rfl)
        exact ⟨m, Nat.lt_succ_self m, _, _, _, _, rfl, h⟩
    · have h := ite_f h hc
      refine CWP.exitL (Le.keep (live := []) (names := []) (nx := 0) rfl) (s' := ⟨[], [], 0⟩) ?_
      exact hok (Option.some.inj h).symm
theorem wf46 {n : Nat} {p0 : api_Shape} {p1 : List api_Entry} {p2 : Int} {r : Bool} (h : s46 n p0 p1 p2 = some r) : CWP Try.prog Try.f46.ntmps code46 (AtE (E46 r)) ⟨[(0, .agg (api_Shape.cs p0)), (1, api_Entry.sl p1), (2, I p2)], [], 0⟩ := by
  unfold s46 at h
  refine CWP.seq ?_
  refine CWP.regionT ⟨[(1, api_Entry.sl p1), (2, I p2), (3, .ptr 0 0)], [(0, .box (api_Shape.cs p0))], 16⟩ ?_ ?_
  · exact Le.keep (live := [1, 2, 3]) (names := [0]) (nx := 16) rfl
  refine CWP.seq ?_
  refine CWP.seq ?_
  obtain ⟨r84, hr84, h⟩ := Option.bind_eq_some_iff.1 h
  refine CWP.regionT ⟨[(1, api_Entry.sl p1), (2, I p2), (3, .ptr 0 0), (12, .tst (decide (r84 ≥ 0)))], [(0, .box (api_Shape.cs p0))], 48⟩ ?_ ?_
  · refine FC.semT rfl rfl rfl trivial (c12 hr84) (Or.inl rfl) ?_
    refine ex_refl ?_
    exact Le.keep (live := [1, 2, 3, 12]) (names := [0]) (nx := 48) rfl
  refine CWP.cond (And.intro (fun hc => ?_) (fun hc => ?_))
  · have h := ite_t h hc
    refine CWP.seq ?_
    refine CWP.regionT ⟨[(6, .raw (.bool false))], [], 56⟩ ?_ ?_
    · exact Le.keep (live := [6]) (names := []) (nx := 56) rfl
    refine CWP.weaken (Le.rep (t := 6) rfl (RepLe.fr rfl (FrLe.tst rfl))) ?_
    refine CWP.ret ?_
    have e := Option.some.inj h
    subst e
    exact rfl
  · have h := ite_f h hc
    refine CWP.skip ?_
    refine CWP.seq ?_
    obtain ⟨hs85, h⟩ := ite_some h
    refine CWP.regionT ⟨[(1, api_Entry.sl p1), (2, I p2), (3, .ptr 0 0), (7, I ((p0.Events.getD p2.toNat default).Proc))], [(0, .box (api_Shape.cs p0))], 104⟩ ?_ ?_
    · refine And.intro hs85 ?_
      exact Le.keep (live := [1, 2, 3, 7]) (names := [0]) (nx := 104) rfl
    refine CWP.seq ?_
    refine CWP.seq ?_
    obtain ⟨hs86, h⟩ := ite_some h
    obtain ⟨hs87, h⟩ := ite_some h
    obtain ⟨r88, hr88, h⟩ := Option.bind_eq_some_iff.1 h
    refine CWP.regionT ⟨[(1, api_Entry.sl p1), (2, I p2), (3, .ptr 0 0), (7, I ((p0.Events.getD p2.toNat default).Proc)), (38, .tst ((decide (((p0.Events.getD p2.toNat default).Proc) > 0)) && ((decide ((p0.Starts.getD ((p0.Events.getD p2.toNat default).Proc).toNat 0) < 0)) || (decide (r88 < 0)))))], [(0, .box (api_Shape.cs p0))], 264⟩ ?_ ?_
    · refine And.intro (fun hg97 => ?_) (fun hg97 => ?_)
      · have hg97 : (decide (((p0.Events.getD p2.toNat default).Proc) > 0)) = true := hg97
        refine And.intro (hs86 (by simp only [hg97, sB, reduceIte])) ?_
        refine And.intro (fun hg98 => ?_) (fun hg98 => ?_)
        · have hg98 : (decide ((p0.Starts.getD ((p0.Events.getD p2.toNat default).Proc).toNat 0) < 0)) = false := hg98
          refine And.intro (hs87 (by simp only [hg97, hg98, sB, reduceIte]) (by simp only [hg97, hg98, sB, reduceIte])) ?_
          refine FC.semT rfl rfl rfl trivial (c12 (ite_t hr88 (by simp only [hg97, hg98, sB, reduceIte]))) (Or.inl rfl) ?_
          refine ex_refl ?_
          exact Le.trans (Le.rep (t := 38) rfl (RepLe.fr rfl (FrLe.tst2 (by simp only [hg97, hg98, sB, reduceIte])))) (Le.keep (live := [1, 2, 3, 7, 38]) (names := [0]) (nx := 264) rfl)
        · have hg98 : (decide ((p0.Starts.getD ((p0.Events.getD p2.toNat default).Proc).toNat 0) < 0)) = true := hg98
          exact Le.trans (Le.rep (t := 38) rfl (RepLe.fr rfl (FrLe.tst (by simp only [hg97, hg98, sB, reduceIte])))) (Le.keep (live := [1, 2, 3, 7, 38]) (names := [0]) (nx := 264) rfl)
      · have hg97 : (decide (((p0.Events.getD p2.toNat default).Proc) > 0)) = false := hg97
        exact Le.trans (Le.rep (t := 38) rfl (RepLe.fr rfl (FrLe.tst (by simp only [hg97, sB, reduceIte])))) (Le.keep (live := [1, 2, 3, 7, 38]) (names := [0]) (nx := 264) rfl)
    refine CWP.cond (And.intro (fun hc => ?_) (fun hc => ?_))
    · have h := ite_t h hc
      refine CWP.seq ?_
      refine CWP.regionT ⟨[(6, .raw (.bool false))], [], 272⟩ ?_ ?_
      · exact Le.keep (live := [6]) (names := []) (nx := 272) rfl
      refine CWP.weaken (Le.rep (t := 6) rfl (RepLe.fr rfl (FrLe.tst rfl))) ?_
      refine CWP.ret ?_
      have e := Option.some.inj h
      subst e
      exact rfl
    · have h := ite_f h hc
      refine CWP.skip ?_
      refine CWP.seq ?_
      refine CWP.seq ?_
      refine CWP.regionT ⟨[(1, api_Entry.sl p1), (3, .ptr 0 0), (7, I ((p0.Events.getD p2.toNat default).Proc)), (8, I (w64 (p2 + 1)))], [(0, .box (api_Shape.cs p0))], 288⟩ ?_ ?_
      · exact Le.keep (live := [1, 3, 7, 8]) (names := [0]) (nx := 288) rfl
      generalize hn95 : l46_1 n n p0 p1 ((p0.Events.getD p2.toNat default).Proc) (w64 (p2 + 1)) = o95 at h
      rcases o95 with _ | o95
      · cases h
      refine CWP.weaken (s' := ⟨[(1, api_Entry.sl p1), (3, .ptr 0 0), (7, I ((p0.Events.getD p2.toNat default).Proc)), (8, I (w64 (p2 + 1)))], [(0, .box (api_Shape.cs p0))], 1⟩) (Le.keep (live := [1, 3, 7, 8]) (names := [0]) (nx := 1) rfl) ?_
      refine t46_1 hn95 ?_ ?_
      · intro e
        subst e
        dsimp only at h
        refine CWP.seq ?_
        refine CWP.regionT ⟨[(6, .raw (.bool true))], [], 8⟩ ?_ ?_
        · exact Le.keep (live := [6]) (names := []) (nx := 8) rfl
        refine CWP.weaken (Le.rep (t := 6) rfl (RepLe.fr rfl (FrLe.tst rfl))) ?_
        refine CWP.ret ?_
        have e := Option.some.inj h
        subst e
        exact rfl
      · intro r e s hs
        subst e
        dsimp only at h
        have e := Option.some.inj h
        subst e
        exact hs
theorem c46 {n : Nat} {p0 : api_Shape} {p1 : List api_Entry} {p2 : Int} {r : Bool} (h : s46 n p0 p1 p2 = some r) : FC Try.prog 46 [.agg (api_Shape.cs p0), api_Entry.sl p1, I p2] (.tst r) [] false := FC.pureE (fn := Try.f46) (cc := code46) (res := .one 6) (by kernel_rfl) (by kernel_rfl) tr46 (by kernel_rfl) (Nat.le_of_ble_eq_true rfl) rfl (wf46 h)
def code62 : CCode :=
 (.seq
  (.region [⟨(some 4), (.mv (.const (.bool false))), none⟩] none)
  (.seq
  (.seq
   (.region [⟨(some 6), (.mv (.tmp 1)), none⟩,
    ⟨(some 7), (.bin 0 .eql (.tmp 6) (.const (.int .i64 1))), none⟩] none)
   (.cond (.tmp 7)
   (.seq
    (.region [⟨(some 8), (.mv (.tmp 0)), none⟩,
     ⟨(some 9), (.bin 0 .eql (.tmp 8) (.const (.int .i64 2))), none⟩,
     ⟨(some 4), (.mv (.tmp 9)), none⟩] none)
    .ret)
   .skip))
  (.seq
   (.seq
   (.region [⟨(some 10), (.mv (.tmp 1)), none⟩,
    ⟨(some 11), (.bin 0 .eql (.tmp 10) (.const (.int .i64 10))), none⟩] none)
   (.cond (.tmp 11)
    (.seq
    (.region [⟨(some 12), (.mv (.tmp 0)), none⟩,
     ⟨(some 13), (.bin 0 .eql (.tmp 12) (.const (.int .i64 9))), none⟩,
     ⟨(some 4), (.mv (.tmp 13)), none⟩] none)
    .ret)
    .skip))
   (.seq
   (.region [⟨(some 14), (.mv (.tmp 1)), none⟩,
    ⟨(some 15), (.bin 0 .eql (.tmp 14) (.const (.int .i64 3))), none⟩,
    ⟨(some 16), (.mv (.tmp 15)), none⟩,
    ⟨(some 17), (.mv (.tmp 1)), (some (16, false))⟩,
    ⟨(some 18), (.bin 0 .eql (.tmp 17) (.const (.int .i64 5))), (some (16, false))⟩,
    ⟨(some 19), (.pick (.tmp 16) (.const (.bool true)) (.tmp 18)), none⟩,
    ⟨(some 20), (.mv (.tmp 19)), none⟩,
    ⟨(some 21), (.mv (.tmp 1)), (some (20, false))⟩,
    ⟨(some 22), (.bin 0 .eql (.tmp 21) (.const (.int .i64 6))), (some (20, false))⟩,
    ⟨(some 23), (.pick (.tmp 20) (.const (.bool true)) (.tmp 22)), none⟩,
    ⟨(some 5), (.mv (.tmp 23)), none⟩] none)
   (.seq
    (.region [⟨(some 24), (.mv (.tmp 5)), none⟩,
     ⟨(some 25), (.mv (.tmp 24)), none⟩,
     ⟨(some 26), (.mv (.tmp 0)), (some (25, true))⟩,
     ⟨(some 27), (.bin 0 .eql (.tmp 26) (.const (.int .i64 4))), (some (25, true))⟩,
     ⟨(some 28), (.mv (.tmp 27)), (some (25, true))⟩,
     ⟨(some 29), (.mv (.tmp 0)), (some (28, false))⟩,
     ⟨(some 30), (.bin 0 .eql (.tmp 29) (.const (.int .i64 5))), (some (28, false))⟩,
     ⟨(some 31), (.pick (.tmp 28) (.const (.bool true)) (.tmp 30)), (some (25, true))⟩,
     ⟨(some 32), (.mv (.tmp 31)), (some (25, true))⟩,
     ⟨(some 33), (.mv (.tmp 0)), (some (32, false))⟩,
     ⟨(some 34), (.bin 0 .eql (.tmp 33) (.const (.int .i64 6))), (some (32, false))⟩,
     ⟨(some 35), (.pick (.tmp 32) (.const (.bool true)) (.tmp 34)), (some (25, true))⟩,
     ⟨(some 36), (.pick (.tmp 25) (.tmp 35) (.const (.bool false))), none⟩,
     ⟨(some 4), (.mv (.tmp 36)), none⟩] none)
    .ret)))))
theorem tr62 : (Try.f62.body).bind (trCode Try.prog Try.f62.ntmps) = some code62 := by kernel_rfl
def s62 (n : Nat) (p0 : Int) (p1 : Int) : Option Bool :=
  if p1 == 1 then
    some (p0 == 2)
  else
    if p1 == 10 then
      some (p0 == 9)
    else
      some ((((p1 == 3) || (p1 == 5)) || (p1 == 6)) && (((p0 == 4) || (p0 == 5)) || (p0 == 6)))
def E62 (r : Bool) (s : AS) : Prop := resOf s (.one 4) = some (.tst r)
theorem wf62 {n : Nat} {p0 : Int} {p1 : Int} {r : Bool} (h : s62 n p0 p1 = some r) : CWP Try.prog Try.f62.ntmps code62 (AtE (E62 r)) ⟨[(0, I p0), (1, I p1)], [], 0⟩ := by
  unfold s62 at h
  refine CWP.seq ?_
  refine CWP.regionT ⟨[(0, I p0), (1, I p1)], [], 8⟩ ?_ ?_
  · exact Le.keep (live := [0, 1]) (names := []) (nx := 8) rfl
  refine CWP.seq ?_
  refine CWP.seq ?_
  refine CWP.regionT ⟨[(0, I p0), (1, I p1), (7, .tst (p1 == 1))], [], 24⟩ ?_ ?_
  · exact Le.keep (live := [0, 1, 7]) (names := []) (nx := 24) rfl
  refine CWP.cond (And.intro (fun hc => ?_) (fun hc => ?_))
  · have h := ite_t h hc
    refine CWP.seq ?_
    refine CWP.regionT ⟨[(4, .tst (p0 == 2))], [], 48⟩ ?_ ?_
    · exact Le.keep (live := [4]) (names := []) (nx := 48) rfl
    refine CWP.ret ?_
    have e := Option.some.inj h
    subst e
    exact rfl
  · have h := ite_f h hc
    refine CWP.skip ?_
    refine CWP.seq ?_
    refine CWP.seq ?_
    refine CWP.regionT ⟨[(0, I p0), (1, I p1), (11, .tst (p1 == 10))], [], 40⟩ ?_ ?_
    · exact Le.keep (live := [0, 1, 11]) (names := []) (nx := 40) rfl
    refine CWP.cond (And.intro (fun hc => ?_) (fun hc => ?_))
    · have h := ite_t h hc
      refine CWP.seq ?_
      refine CWP.regionT ⟨[(4, .tst (p0 == 9))], [], 64⟩ ?_ ?_
      · exact Le.keep (live := [4]) (names := []) (nx := 64) rfl
      refine CWP.ret ?_
      have e := Option.some.inj h
      subst e
      exact rfl
    · have h := ite_f h hc
      refine CWP.skip ?_
      refine CWP.seq ?_
      refine CWP.regionT ⟨[(0, I p0), (5, .tst (((p1 == 3) || (p1 == 5)) || (p1 == 6)))], [], 128⟩ ?_ ?_
      · refine And.intro (fun hg109 => ?_) (fun hg109 => ?_)
        · have hg109 : (p1 == 3) = false := hg109
          refine And.intro (fun hg110 => ?_) (fun hg110 => ?_)
          · have hg110 : (p1 == 5) = false := hg110
            exact Le.trans (Le.rep (t := 5) rfl (RepLe.fr rfl (FrLe.tst2 (by simp only [hg109, hg110, sB, reduceIte])))) (Le.keep (live := [0, 5]) (names := []) (nx := 128) rfl)
          · have hg110 : (p1 == 5) = true := hg110
            exact Le.trans (Le.rep (t := 5) rfl (RepLe.fr rfl (FrLe.tst (by simp only [hg109, hg110, sB, reduceIte])))) (Le.keep (live := [0, 5]) (names := []) (nx := 128) rfl)
        · have hg109 : (p1 == 3) = true := hg109
          exact Le.trans (Le.rep (t := 5) rfl (RepLe.fr rfl (FrLe.tst (by simp only [hg109, sB, reduceIte])))) (Le.keep (live := [0, 5]) (names := []) (nx := 128) rfl)
      refine CWP.seq ?_
      refine CWP.regionT ⟨[(4, .tst ((((p1 == 3) || (p1 == 5)) || (p1 == 6)) && (((p0 == 4) || (p0 == 5)) || (p0 == 6))))], [], 240⟩ ?_ ?_
      · refine And.intro (fun hg106 => ?_) (fun hg106 => ?_)
        · have hg106 : (((p1 == 3) || (p1 == 5)) || (p1 == 6)) = true := hg106
          refine And.intro (fun hg107 => ?_) (fun hg107 => ?_)
          · have hg107 : (p0 == 4) = false := hg107
            refine And.intro (fun hg108 => ?_) (fun hg108 => ?_)
            · have hg108 : (p0 == 5) = false := hg108
              exact Le.trans (Le.rep (t := 4) rfl (RepLe.fr rfl (FrLe.tst2 (by simp only [hg106, hg107, hg108, sB, reduceIte])))) (Le.keep (live := [4]) (names := []) (nx := 240) rfl)
            · have hg108 : (p0 == 5) = true := hg108
              exact Le.trans (Le.rep (t := 4) rfl (RepLe.fr rfl (FrLe.tst (by simp only [hg106, hg107, hg108, sB, reduceIte])))) (Le.keep (live := [4]) (names := []) (nx := 240) rfl)
          · have hg107 : (p0 == 4) = true := hg107
            exact Le.trans (Le.rep (t := 4) rfl (RepLe.fr rfl (FrLe.tst (by simp only [hg106, hg107, sB, reduceIte])))) (Le.keep (live := [4]) (names := []) (nx := 240) rfl)
        · have hg106 : (((p1 == 3) || (p1 == 5)) || (p1 == 6)) = false := hg106
          exact Le.trans (Le.rep (t := 4) rfl (RepLe.fr rfl (FrLe.tst (by simp only [hg106, sB, reduceIte])))) (Le.keep (live := [4]) (names := []) (nx := 240) rfl)
      refine CWP.ret ?_
      have e := Option.some.inj h
      subst e
      exact rfl
theorem c62 {n : Nat} {p0 : Int} {p1 : Int} {r : Bool} (h : s62 n p0 p1 = some r) : FC Try.prog 62 [I p0, I p1] (.tst r) [] false := FC.pureE (fn := Try.f62) (cc := code62) (res := .one 4) (by kernel_rfl) (by kernel_rfl) tr62 (by kernel_rfl) (Nat.le_of_ble_eq_true rfl) rfl (wf62 h)
def code33 : CCode :=
 (.seq
  (.region [⟨(some 3), (.box 2 (.tmp 0)), none⟩,
   ⟨(some 6), (.mv (.const (.bool false))), none⟩] none)
  (.seq
  (.seq
   (.region [⟨(some 8), (.fad 0 (.tmp 3)), none⟩,
    ⟨(some 9), (.load false 1 (.tmp 8)), none⟩,
    ⟨(some 10), (.mv (.tmp 1)), none⟩,
    ⟨(some 11), (.idx 4 (.tmp 9) (.tmp 10)), none⟩,
    ⟨(some 12), (.fad 0 (.tmp 11)), none⟩,
    ⟨(some 13), (.load false 1 (.tmp 12)), none⟩,
    ⟨(some 14), (.fad 0 (.tmp 3)), none⟩,
    ⟨(some 15), (.load false 1 (.tmp 14)), none⟩,
    ⟨(some 16), (.mv (.tmp 2)), none⟩,
    ⟨(some 17), (.idx 4 (.tmp 15) (.tmp 16)), none⟩,
    ⟨(some 18), (.fad 0 (.tmp 17)), none⟩,
    ⟨(some 19), (.load false 1 (.tmp 18)), none⟩,
    ⟨(some 20), (.bin 0 .eql (.tmp 13) (.tmp 19)), none⟩] (some (.take 0 (.take 1 (.take 2 (.take 3 (.take 4 (.take 5 (.take 6 (.take 7 (.take 8 (.take 9 (.take 10 (.take 11 (.take 12 .done)))))))))))))))
   (.cond (.tmp 20)
   (.seq
    (.region [⟨(some 21), (.mv (.tmp 1)), none⟩,
     ⟨(some 22), (.mv (.tmp 2)), none⟩,
     ⟨(some 23), (.bin 0 .lss (.tmp 21) (.tmp 22)), none⟩,
     ⟨(some 6), (.mv (.tmp 23)), none⟩] none)
    .ret)
   .skip))
  (.seq
   (.region [⟨(some 24), (.fad 1 (.tmp 3)), none⟩,
    ⟨(some 25), (.load false 1 (.tmp 24)), none⟩,
    ⟨(some 26), (.fad 0 (.tmp 3)), none⟩,
    ⟨(some 27), (.load false 1 (.tmp 26)), none⟩,
    ⟨(some 28), (.mv (.tmp 2)), none⟩,
    ⟨(some 29), (.idx 4 (.tmp 27) (.tmp 28)), none⟩,
    ⟨(some 30), (.fad 0 (.tmp 29)), none⟩,
    ⟨(some 31), (.load false 1 (.tmp 30)), none⟩,
    ⟨(some 32), (.idx 1 (.tmp 25) (.tmp 31)), none⟩,
    ⟨(some 33), (.load false 1 (.tmp 32)), none⟩,
    ⟨(some 7), (.mv (.tmp 33)), none⟩] (some (.take 0 (.take 1 (.take 2 (.take 3 (.take 4 (.take 5 (.take 6 (.take 7 (.take 8 (.take 9 (.take 10 .done)))))))))))))
   (.seq
   (.region [⟨(some 34), (.mv (.tmp 7)), none⟩,
    ⟨(some 35), (.bin 0 .geq (.tmp 34) (.const (.int .i64 0))), none⟩,
    ⟨(some 36), (.mv (.tmp 35)), none⟩,
    ⟨(some 37), (.mv (.tmp 7)), (some (36, true))⟩,
    ⟨(some 38), (.mv (.tmp 1)), (some (36, true))⟩,
    ⟨(some 39), (.bin 0 .eql (.tmp 37) (.tmp 38)), (some (36, true))⟩,
    ⟨(some 40), (.mv (.tmp 39)), (some (36, true))⟩,
    ⟨(some 41), (.load true 2 (.tmp 3)), (some (40, false))⟩,
    ⟨(some 42), (.mv (.tmp 1)), (some (40, false))⟩,
    ⟨(some 43), (.mv (.tmp 7)), (some (40, false))⟩,
    ⟨(some 44), (.call (.func 33) [(.tmp 41), (.tmp 42), (.tmp 43)]), (some (40, false))⟩,
    ⟨(some 45), (.pick (.tmp 40) (.const (.bool true)) (.tmp 44)), (some (36, true))⟩,
    ⟨(some 46), (.pick (.tmp 36) (.tmp 45) (.const (.bool false))), none⟩,
    ⟨(some 6), (.mv (.tmp 46)), none⟩] none)
   .ret))))
theorem tr33 : (Try.f33.body).bind (trCode Try.prog Try.f33.ntmps) = some code33 := by kernel_rfl
def b33 (n : Nat) (R33 : api_Shape → Int → Int → Option Bool) (p0 : api_Shape) (p1 : Int) (p2 : Int) : Option Bool :=
  if 0 ≤ p1 ∧ p1 < (p0.Events.length : Int) then
    if 0 ≤ p2 ∧ p2 < (p0.Events.length : Int) then
      if ((p0.Events.getD p1.toNat default).Proc) == ((p0.Events.getD p2.toNat default).Proc) then
        some (decide (p1 < p2))
      else
        if 0 ≤ p2 ∧ p2 < (p0.Events.length : Int) then
          if 0 ≤ ((p0.Events.getD p2.toNat default).Proc) ∧ ((p0.Events.getD p2.toNat default).Proc) < (p0.Starts.length : Int) then
            (if (decide ((p0.Starts.getD ((p0.Events.getD p2.toNat default).Proc).toNat 0) ≥ 0)) && !((p0.Starts.getD ((p0.Events.getD p2.toNat default).Proc).toNat 0) == p1) then R33 p0 p1 (p0.Starts.getD ((p0.Events.getD p2.toNat default).Proc).toNat 0) else some false).bind fun r116 =>
            some ((decide ((p0.Starts.getD ((p0.Events.getD p2.toNat default).Proc).toNat 0) ≥ 0)) && (((p0.Starts.getD ((p0.Events.getD p2.toNat default).Proc).toNat 0) == p1) || r116))
          else none
        else none
    else none
  else none
def E33 (r : Bool) (s : AS) : Prop := resOf s (.one 6) = some (.tst r)
theorem wf33 {n : Nat} (R33 : api_Shape → Int → Int → Option Bool) (H33 : ∀ (a0 : api_Shape) (a1 : Int) (a2 : Int) (r : Bool), R33 a0 a1 a2 = some r → FC Try.prog 33 [.agg (api_Shape.cs a0), I a1, I a2] (.tst r) [] false) {p0 : api_Shape} {p1 : Int} {p2 : Int} {r : Bool} (h : b33 n R33 p0 p1 p2 = some r) : CWP Try.prog Try.f33.ntmps code33 (AtE (E33 r)) ⟨[(0, .agg (api_Shape.cs p0)), (1, I p1), (2, I p2)], [], 0⟩ := by
  unfold b33 at h
  refine CWP.seq ?_
  refine CWP.regionT ⟨[(1, I p1), (2, I p2), (3, .ptr 0 0)], [(0, .box (api_Shape.cs p0))], 16⟩ ?_ ?_
  · exact Le.keep (live := [1, 2, 3]) (names := [0]) (nx := 16) rfl
  refine CWP.seq ?_
  refine CWP.seq ?_
  obtain ⟨hs112, h⟩ := ite_some h
  obtain ⟨hs113, h⟩ := ite_some h
  refine CWP.drawT [] [] ⟨[(1, I p1), (2, I p2), (3, .ptr 0 0), (20, .tst (((p0.Events.getD p1.toNat default).Proc) == ((p0.Events.getD p2.toNat default).Proc)))], [(0, .box (api_Shape.cs p0))], 120⟩ ?_ ?_
  · refine And.intro rfl ?_
    iterate 3 refine And.intro rfl ?_
    refine And.intro hs112 ?_
    iterate 6 refine And.intro rfl ?_
    refine And.intro hs113 ?_
    iterate 3 refine And.intro rfl ?_
    exact Le.keep (live := [1, 2, 3, 20]) (names := [0]) (nx := 120) rfl
  refine CWP.cond (And.intro (fun hc => ?_) (fun hc => ?_))
  · have h := ite_t h hc
    refine CWP.seq ?_
    refine CWP.regionT ⟨[(6, .tst (decide (p1 < p2)))], [], 152⟩ ?_ ?_
    · exact Le.keep (live := [6]) (names := []) (nx := 152) rfl
    refine CWP.ret ?_
    have e := Option.some.inj h
    subst e
    exact rfl
  · have h := ite_f h hc
    refine CWP.skip ?_
    refine CWP.seq ?_
    obtain ⟨hs114, h⟩ := ite_some h
    obtain ⟨hs115, h⟩ := ite_some h
    refine CWP.drawT [] [] ⟨[(1, I p1), (3, .ptr 0 0), (7, I (p0.Starts.getD ((p0.Events.getD p2.toNat default).Proc).toNat 0))], [(0, .box (api_Shape.cs p0))], 208⟩ ?_ ?_
    · refine And.intro rfl ?_
      iterate 5 refine And.intro rfl ?_
      refine And.intro hs114 ?_
      iterate 3 refine And.intro rfl ?_
      refine And.intro hs115 ?_
      iterate 2 refine And.intro rfl ?_
      exact Le.keep (live := [1, 3, 7]) (names := [0]) (nx := 208) rfl
    refine CWP.seq ?_
    obtain ⟨r116, hr116, h⟩ := Option.bind_eq_some_iff.1 h
    refine CWP.regionT ⟨[(6, .tst ((decide ((p0.Starts.getD ((p0.Events.getD p2.toNat default).Proc).toNat 0) ≥ 0)) && (((p0.Starts.getD ((p0.Events.getD p2.toNat default).Proc).toNat 0) == p1) || r116)))], [], 320⟩ ?_ ?_
    · refine And.intro (fun hg117 => ?_) (fun hg117 => ?_)
      · have hg117 : (decide ((p0.Starts.getD ((p0.Events.getD p2.toNat default).Proc).toNat 0) ≥ 0)) = true := hg117
        refine And.intro (fun hg118 => ?_) (fun hg118 => ?_)
        · have hg118 : ((p0.Starts.getD ((p0.Events.getD p2.toNat default).Proc).toNat 0) == p1) = false := hg118
          refine FC.semT rfl rfl rfl trivial (H33 _ _ _ _ (ite_t hr116 (by simp only [hg117, hg118, sB, reduceIte]))) (Or.inl rfl) ?_
          refine ex_refl ?_
          exact Le.trans (Le.rep (t := 6) rfl (RepLe.fr rfl (FrLe.tst2 (by simp only [hg117, hg118, sB, reduceIte])))) (Le.keep (live := [6]) (names := []) (nx := 320) rfl)
        · have hg118 : ((p0.Starts.getD ((p0.Events.getD p2.toNat default).Proc).toNat 0) == p1) = true := hg118
          exact Le.trans (Le.rep (t := 6) rfl (RepLe.fr rfl (FrLe.tst (by simp only [hg117, hg118, sB, reduceIte])))) (Le.keep (live := [6]) (names := []) (nx := 320) rfl)
      · have hg117 : (decide ((p0.Starts.getD ((p0.Events.getD p2.toNat default).Proc).toNat 0) ≥ 0)) = false := hg117
        exact Le.trans (Le.rep (t := 6) rfl (RepLe.fr rfl (FrLe.tst (by simp only [hg117, sB, reduceIte])))) (Le.keep (live := [6]) (names := []) (nx := 320) rfl)
    refine CWP.ret ?_
    have e := Option.some.inj h
    subst e
    exact rfl
theorem cb33 {n : Nat} (R33 : api_Shape → Int → Int → Option Bool) (H33 : ∀ (a0 : api_Shape) (a1 : Int) (a2 : Int) (r : Bool), R33 a0 a1 a2 = some r → FC Try.prog 33 [.agg (api_Shape.cs a0), I a1, I a2] (.tst r) [] false) {p0 : api_Shape} {p1 : Int} {p2 : Int} {r : Bool} (h : b33 n R33 p0 p1 p2 = some r) : FC Try.prog 33 [.agg (api_Shape.cs p0), I p1, I p2] (.tst r) [] false := FC.pureE (fn := Try.f33) (cc := code33) (res := .one 6) (by kernel_rfl) (by kernel_rfl) tr33 (by kernel_rfl) (Nat.le_of_ble_eq_true rfl) rfl (wf33 R33 H33 h)
def g33 (n : Nat) : Nat → (api_Shape → Int → Int → Option Bool)
  | 0 => fun _ _ _ => none
  | d + 1 => b33 n (g33 n d)
def s33 (n : Nat) (p0 : api_Shape) (p1 : Int) (p2 : Int) : Option Bool := g33 n n p0 p1 p2
theorem cg33 {n : Nat} : ∀ d : Nat, (∀ (a0 : api_Shape) (a1 : Int) (a2 : Int) (r : Bool), g33 n d a0 a1 a2 = some r → FC Try.prog 33 [.agg (api_Shape.cs a0), I a1, I a2] (.tst r) [] false)
  | 0 => (fun _ _ _ _ h => by cases h)
  | d + 1 => (fun _ _ _ _ h => cb33 _ ((cg33 d)) h)
theorem c33 {n : Nat} {p0 : api_Shape} {p1 : Int} {p2 : Int} {r : Bool} (h : s33 n p0 p1 p2 = some r) : FC Try.prog 33 [.agg (api_Shape.cs p0), I p1, I p2] (.tst r) [] false := (cg33 n) _ _ _ _ h
def code47 : CCode :=
 (.seq
  (.region [⟨(some 3), (.box 2 (.tmp 0)), none⟩,
   ⟨(some 6), (.mv (.const (.bool false))), none⟩] none)
  (.seq
  (.region [⟨(some 7), (.mv (.tmp 1)), none⟩,
   ⟨(some 8), (.mv (.tmp 2)), none⟩,
   ⟨(some 9), (.bin 0 .neq (.tmp 7) (.tmp 8)), none⟩,
   ⟨(some 10), (.mv (.tmp 9)), none⟩,
   ⟨(some 11), (.fad 0 (.tmp 3)), (some (10, true))⟩,
   ⟨(some 12), (.load false 1 (.tmp 11)), (some (10, true))⟩,
   ⟨(some 13), (.mv (.tmp 1)), (some (10, true))⟩,
   ⟨(some 14), (.idx 4 (.tmp 12) (.tmp 13)), (some (10, true))⟩,
   ⟨(some 15), (.fad 3 (.tmp 14)), (some (10, true))⟩,
   ⟨(some 16), (.load false 1 (.tmp 15)), (some (10, true))⟩,
   ⟨(some 17), (.fad 0 (.tmp 3)), (some (10, true))⟩,
   ⟨(some 18), (.load false 1 (.tmp 17)), (some (10, true))⟩,
   ⟨(some 19), (.mv (.tmp 2)), (some (10, true))⟩,
   ⟨(some 20), (.idx 4 (.tmp 18) (.tmp 19)), (some (10, true))⟩,
   ⟨(some 21), (.fad 3 (.tmp 20)), (some (10, true))⟩,
   ⟨(some 22), (.load false 1 (.tmp 21)), (some (10, true))⟩,
   ⟨(some 23), (.bin 0 .eql (.tmp 16) (.tmp 22)), (some (10, true))⟩,
   ⟨(some 24), (.pick (.tmp 10) (.tmp 23) (.const (.bool false))), none⟩,
   ⟨(some 25), (.mv (.tmp 24)), none⟩,
   ⟨(some 26), (.fad 0 (.tmp 3)), (some (25, true))⟩,
   ⟨(some 27), (.load false 1 (.tmp 26)), (some (25, true))⟩,
   ⟨(some 28), (.mv (.tmp 2)), (some (25, true))⟩,
   ⟨(some 29), (.idx 4 (.tmp 27) (.tmp 28)), (some (25, true))⟩,
   ⟨(some 30), (.fad 2 (.tmp 29)), (some (25, true))⟩,
   ⟨(some 31), (.load false 1 (.tmp 30)), (some (25, true))⟩,
   ⟨(some 32), (.fad 0 (.tmp 3)), (some (25, true))⟩,
   ⟨(some 33), (.load false 1 (.tmp 32)), (some (25, true))⟩,
   ⟨(some 34), (.mv (.tmp 1)), (some (25, true))⟩,
   ⟨(some 35), (.idx 4 (.tmp 33) (.tmp 34)), (some (25, true))⟩,
   ⟨(some 36), (.fad 2 (.tmp 35)), (some (25, true))⟩,
   ⟨(some 37), (.load false 1 (.tmp 36)), (some (25, true))⟩,
   ⟨(some 38), (.call (.func 62) [(.tmp 31), (.tmp 37)]), (some (25, true))⟩,
   ⟨(some 39), (.pick (.tmp 25) (.tmp 38) (.const (.bool false))), none⟩,
   ⟨(some 40), (.mv (.tmp 39)), none⟩,
   ⟨(some 41), (.load true 2 (.tmp 3)), (some (40, true))⟩,
   ⟨(some 42), (.mv (.tmp 1)), (some (40, true))⟩,
   ⟨(some 43), (.mv (.tmp 2)), (some (40, true))⟩,
   ⟨(some 44), (.call (.func 33) [(.tmp 41), (.tmp 42), (.tmp 43)]), (some (40, true))⟩,
   ⟨(some 45), (.un .not (.tmp 44)), (some (40, true))⟩,
   ⟨(some 46), (.pick (.tmp 40) (.tmp 45) (.const (.bool false))), none⟩,
   ⟨(some 6), (.mv (.tmp 46)), none⟩] (some (.take 0 (.take 1 (.take 2 (.take 3 (.take 4 (.take 5 (.take 6 (.take 7 (.take 8 (.take 9 (.take 10 (.take 11 (.take 12 (.take 13 (.take 14 (.take 15 (.take 16 (.take 17 (.take 18 (.take 19 (.take 20 (.take 21 (.take 22 (.take 23 (.take 24 (.take 25 (.take 26 (.take 27 (.take 28 (.take 29 (.take 30 (.alt 31 (.take 32 (.take 33 (.take 35 (.take 36 (.alt 34 (.alt 37 (.take 38 (.take 39 (.take 40 .done))) .alt0) .alt0))))) .alt0))))))))))))))))))))))))))))))))))
  .ret))
theorem tr47 : (Try.f47.body).bind (trCode Try.prog Try.f47.ntmps) = some code47 := by kernel_rfl
def s47 (n : Nat) (p0 : api_Shape) (p1 : Int) (p2 : Int) : Option Bool :=
  if (p1 != p2) = true → 0 ≤ p1 ∧ p1 < (p0.Events.length : Int) then
    if (p1 != p2) = true → 0 ≤ p2 ∧ p2 < (p0.Events.length : Int) then
      if ((p1 != p2) && (((p0.Events.getD p1.toNat default).Obj) == ((p0.Events.getD p2.toNat default).Obj))) = true → 0 ≤ p2 ∧ p2 < (p0.Events.length : Int) then
        if ((p1 != p2) && (((p0.Events.getD p1.toNat default).Obj) == ((p0.Events.getD p2.toNat default).Obj))) = true → 0 ≤ p1 ∧ p1 < (p0.Events.length : Int) then
          (if ((p1 != p2) && (((p0.Events.getD p1.toNat default).Obj) == ((p0.Events.getD p2.toNat default).Obj))) then s62 n ((p0.Events.getD p2.toNat default).Kind) ((p0.Events.getD p1.toNat default).Kind) else some false).bind fun r105 =>
          (if (((p1 != p2) && (((p0.Events.getD p1.toNat default).Obj) == ((p0.Events.getD p2.toNat default).Obj))) && r105) then s33 n p0 p1 p2 else some false).bind fun r106 =>
          some ((((p1 != p2) && (((p0.Events.getD p1.toNat default).Obj) == ((p0.Events.getD p2.toNat default).Obj))) && r105) && !r106)
        else none
      else none
    else none
  else none
def E47 (r : Bool) (s : AS) : Prop := resOf s (.one 6) = some (.tst r)
theorem wf47 {n : Nat} {p0 : api_Shape} {p1 : Int} {p2 : Int} {r : Bool} (h : s47 n p0 p1 p2 = some r) : CWP Try.prog Try.f47.ntmps code47 (AtE (E47 r)) ⟨[(0, .agg (api_Shape.cs p0)), (1, I p1), (2, I p2)], [], 0⟩ := by
  unfold s47 at h
  refine CWP.seq ?_
  refine CWP.regionT ⟨[(1, I p1), (2, I p2), (3, .ptr 0 0)], [(0, .box (api_Shape.cs p0))], 16⟩ ?_ ?_
  · exact Le.keep (live := [1, 2, 3]) (names := [0]) (nx := 16) rfl
  refine CWP.seq ?_
  obtain ⟨hs101, h⟩ := ite_some h
  obtain ⟨hs102, h⟩ := ite_some h
  obtain ⟨hs103, h⟩ := ite_some h
  obtain ⟨hs104, h⟩ := ite_some h
  obtain ⟨r105, hr105, h⟩ := Option.bind_eq_some_iff.1 h
  obtain ⟨r106, hr106, h⟩ := Option.bind_eq_some_iff.1 h
  refine CWP.drawT [] [] ⟨[(6, .tst ((((p1 != p2) && (((p0.Events.getD p1.toNat default).Obj) == ((p0.Events.getD p2.toNat default).Obj))) && r105) && !r106))], [], 344⟩ ?_ ?_
  · refine And.intro rfl ?_
    iterate 3 refine And.intro rfl ?_
    refine And.intro (fun hg107 => ?_) (fun hg107 => ?_)
    · have hg107 : (p1 != p2) = true := hg107
      iterate 4 refine And.intro rfl ?_
      refine And.intro (hs101 (by simp only [hg107, sB, reduceIte])) ?_
      iterate 6 refine And.intro rfl ?_
      refine And.intro (hs102 (by simp only [hg107, sB, reduceIte])) ?_
      iterate 5 refine And.intro rfl ?_
      refine And.intro (fun hg108 => ?_) (fun hg108 => ?_)
      · have hg108 : (((p0.Events.getD p1.toNat default).Obj) == ((p0.Events.getD p2.toNat default).Obj)) = true := hg108
        iterate 4 refine And.intro rfl ?_
        refine And.intro (hs103 (by simp only [hg107, hg108, sB, reduceIte])) ?_
        iterate 6 refine And.intro rfl ?_
        refine And.intro (hs104 (by simp only [hg107, hg108, sB, reduceIte])) ?_
        iterate 2 refine And.intro rfl ?_
        refine And.intro ?_ ?_
        · refine And.intro rfl ?_
          refine FC.semT rfl rfl rfl trivial (c62 (ite_t hr105 (by simp only [hg107, hg108, sB, reduceIte]))) (Or.inl rfl) ?_
          refine ex_refl ?_
          iterate 2 refine And.intro rfl ?_
          refine And.intro (fun hg109 => ?_) (fun hg109 => ?_)
          · have hg109 : (r105) = true := hg109
            iterate 2 refine And.intro rfl ?_
            refine And.intro ?_ ?_
            · refine And.intro rfl ?_
              refine And.intro ?_ ?_
              · refine And.intro rfl ?_
                refine FC.semT rfl rfl rfl trivial (c33 (ite_t hr106 (by simp only [hg107, hg108, hg109, sB, reduceIte]))) (Or.inl rfl) ?_
                refine ex_refl ?_
                iterate 3 refine And.intro rfl ?_
                exact Le.trans (Le.rep (t := 6) rfl (RepLe.fr rfl (FrLe.tst2 (by simp only [hg107, hg108, hg109, sB, reduceIte])))) (Le.keep (live := [6]) (names := []) (nx := 344) rfl)
              · exact trivial
            · exact trivial
          · have hg109 : (r105) = false := hg109
            refine And.intro ?_ ?_
            · refine And.intro ?_ ?_
              · refine And.intro rfl ?_
                refine And.intro rfl ?_
                exact Le.trans (Le.rep (t := 6) rfl (RepLe.fr rfl (FrLe.tst (by simp only [hg107, hg108, hg109, sB, reduceIte])))) (Le.keep (live := [6]) (names := []) (nx := 344) rfl)
              · exact trivial
            · exact trivial
        · exact trivial
      · have hg108 : (((p0.Events.getD p1.toNat default).Obj) == ((p0.Events.getD p2.toNat default).Obj)) = false := hg108
        refine And.intro ?_ ?_
        · refine And.intro rfl ?_
          refine And.intro rfl ?_
          refine And.intro ?_ ?_
          · refine And.intro ?_ ?_
            · refine And.intro rfl ?_
              refine And.intro rfl ?_
              exact Le.trans (Le.rep (t := 6) rfl (RepLe.fr rfl (FrLe.tst (by simp only [hg107, hg108, sB, reduceIte])))) (Le.keep (live := [6]) (names := []) (nx := 344) rfl)
            · exact trivial
          · exact trivial
        · exact trivial
    · have hg107 : (p1 != p2) = false := hg107
      iterate 2 refine And.intro rfl ?_
      refine And.intro ?_ ?_
      · refine And.intro rfl ?_
        refine And.intro rfl ?_
        refine And.intro ?_ ?_
        · refine And.intro ?_ ?_
          · refine And.intro rfl ?_
            refine And.intro rfl ?_
            exact Le.trans (Le.rep (t := 6) rfl (RepLe.fr rfl (FrLe.tst (by simp only [hg107, sB, reduceIte])))) (Le.keep (live := [6]) (names := []) (nx := 344) rfl)
          · exact trivial
        · exact trivial
      · exact trivial
  refine CWP.ret ?_
  have e := Option.some.inj h
  subst e
  exact rfl
theorem c47 {n : Nat} {p0 : api_Shape} {p1 : Int} {p2 : Int} {r : Bool} (h : s47 n p0 p1 p2 = some r) : FC Try.prog 47 [.agg (api_Shape.cs p0), I p1, I p2] (.tst r) [] false := FC.pureE (fn := Try.f47) (cc := code47) (res := .one 6) (by kernel_rfl) (by kernel_rfl) tr47 (by kernel_rfl) (Nat.le_of_ble_eq_true rfl) rfl (wf47 h)
def code48 : CCode :=
 (.seq
  (.region [⟨(some 3), (.box 2 (.tmp 0)), none⟩,
   ⟨(some 6), (.mv (.const (.bool false))), none⟩] none)
  (.seq
  (.region [⟨(some 8), (.fad 0 (.tmp 3)), none⟩,
   ⟨(some 9), (.load false 1 (.tmp 8)), none⟩,
   ⟨(some 10), (.mv (.tmp 2)), none⟩,
   ⟨(some 11), (.idx 4 (.tmp 9) (.tmp 10)), none⟩,
   ⟨(some 12), (.load true 4 (.tmp 11)), none⟩,
   ⟨(some 7), (.alloc [(.int .i64 0), (.int .i64 0), (.int .i64 0), (.int .i64 0)]), none⟩,
   ⟨none, (.store 4 (.tmp 7) (.tmp 12)), none⟩] none)
  (.seq
   (.region [⟨(some 13), (.fad 2 (.tmp 7)), none⟩,
    ⟨(some 14), (.load false 1 (.tmp 13)), none⟩,
    ⟨(some 15), (.call (.func 34) [(.tmp 14)]), none⟩,
    ⟨(some 16), (.bin 0 .eql (.tmp 15) (.const (.int .i64 4))), none⟩,
    ⟨(some 17), (.mv (.tmp 16)), none⟩,
    ⟨(some 18), (.mv (.tmp 1)), (some (17, true))⟩,
    ⟨(some 19), (.fad 3 (.tmp 7)), (some (17, true))⟩,
    ⟨(some 20), (.load false 1 (.tmp 19)), (some (17, true))⟩,
    ⟨(some 21), (.idx 4 (.tmp 18) (.tmp 20)), (some (17, true))⟩,
    ⟨(some 22), (.fad 2 (.tmp 21)), (some (17, true))⟩,
    ⟨(some 23), (.load false 1 (.tmp 22)), (some (17, true))⟩,
    ⟨(some 24), (.bin 0 .eql (.tmp 23) (.const (.int .i64 0))), (some (17, true))⟩,
    ⟨(some 25), (.pick (.tmp 17) (.tmp 24) (.const (.bool false))), none⟩,
    ⟨(some 6), (.mv (.tmp 25)), none⟩] none)
   .ret)))
theorem tr48 : (Try.f48.body).bind (trCode Try.prog Try.f48.ntmps) = some code48 := by kernel_rfl
def s48 (n : Nat) (p0 : api_Shape) (p1 : List api_Decl) (p2 : Int) : Option Bool :=
  if 0 ≤ p2 ∧ p2 < (p0.Events.length : Int) then
    (s34 n ((p0.Events.getD p2.toNat default).Kind)).bind fun r113 =>
    if (r113 == 4) = true → 0 ≤ ((p0.Events.getD p2.toNat default).Obj) ∧ ((p0.Events.getD p2.toNat default).Obj) < (p1.length : Int) then
      some ((r113 == 4) && (((p1.getD ((p0.Events.getD p2.toNat default).Obj).toNat default).Num) == 0))
    else none
  else none
def E48 (r : Bool) (s : AS) : Prop := resOf s (.one 6) = some (.tst r)
theorem wf48 {n : Nat} {p0 : api_Shape} {p1 : List api_Decl} {p2 : Int} {r : Bool} (h : s48 n p0 p1 p2 = some r) : CWP Try.prog Try.f48.ntmps code48 (AtE (E48 r)) ⟨[(0, .agg (api_Shape.cs p0)), (1, api_Decl.sl p1), (2, I p2)], [], 0⟩ := by
  unfold s48 at h
  refine CWP.seq ?_
  refine CWP.regionT ⟨[(1, api_Decl.sl p1), (2, I p2), (3, .ptr 0 0)], [(0, .box (api_Shape.cs p0))], 16⟩ ?_ ?_
  · exact Le.keep (live := [1, 2, 3]) (names := [0]) (nx := 16) rfl
  refine CWP.seq ?_
  obtain ⟨hs112, h⟩ := ite_some h
  refine CWP.regionT ⟨[(1, api_Decl.sl p1), (7, .ptr 56 0)], [(56, .box [I ((p0.Events.getD p2.toNat default).Proc), I ((p0.Events.getD p2.toNat default).Inst), I ((p0.Events.getD p2.toNat default).Kind), I ((p0.Events.getD p2.toNat default).Obj)])], 72⟩ ?_ ?_
  · refine And.intro hs112 ?_
    refine SemOp.ofT ?_
    refine ex_refl ?_
    exact Le.keep (live := [1, 7]) (names := [56]) (nx := 72) rfl
  refine CWP.seq ?_
  obtain ⟨r113, hr113, h⟩ := Option.bind_eq_some_iff.1 h
  obtain ⟨hs114, h⟩ := ite_some h
  refine CWP.regionT ⟨[(6, .tst ((r113 == 4) && (((p1.getD ((p0.Events.getD p2.toNat default).Obj).toNat default).Num) == 0)))], [], 184⟩ ?_ ?_
  · refine FC.semT rfl rfl rfl trivial (c34 hr113) (Or.inl rfl) ?_
    refine ex_refl ?_
    refine And.intro (fun hg115 => ?_) (fun hg115 => ?_)
    · have hg115 : (r113 == 4) = true := hg115
      refine And.intro (hs114 (by simp only [hg115, sB, reduceIte])) ?_
      exact Le.trans (Le.rep (t := 6) rfl (RepLe.fr rfl (FrLe.tst2 (by simp only [hg115, sB, reduceIte])))) (Le.keep (live := [6]) (names := []) (nx := 184) rfl)
    · have hg115 : (r113 == 4) = false := hg115
      exact Le.trans (Le.rep (t := 6) rfl (RepLe.fr rfl (FrLe.tst (by simp only [hg115, sB, reduceIte])))) (Le.keep (live := [6]) (names := []) (nx := 184) rfl)
  refine CWP.ret ?_
  have e := Option.some.inj h
  subst e
  exact rfl
theorem c48 {n : Nat} {p0 : api_Shape} {p1 : List api_Decl} {p2 : Int} {r : Bool} (h : s48 n p0 p1 p2 = some r) : FC Try.prog 48 [.agg (api_Shape.cs p0), api_Decl.sl p1, I p2] (.tst r) [] false := FC.pureE (fn := Try.f48) (cc := code48) (res := .one 6) (by kernel_rfl) (by kernel_rfl) tr48 (by kernel_rfl) (Nat.le_of_ble_eq_true rfl) rfl (wf48 h)
def code36 : CCode :=
 (.seq
  (.region [⟨(some 4), (.box 2 (.tmp 0)), none⟩,
   ⟨(some 7), (.box 3 (.tmp 3)), none⟩,
   ⟨(some 8), (.mv (.const (.bool false))), none⟩] none)
  (.seq
  (.region [⟨(some 13), (.fad 0 (.tmp 4)), none⟩,
   ⟨(some 14), (.load false 1 (.tmp 13)), none⟩,
   ⟨(some 15), (.len 1 (.tmp 14)), none⟩,
   ⟨(some 9), (.mv (.tmp 15)), none⟩] none)
  (.seq
   (.seq
   (.region [⟨(some 16), (.fad 0 (.tmp 7)), none⟩,
    ⟨(some 17), (.load false 1 (.tmp 16)), none⟩,
    ⟨(some 18), (.bin 0 .lss (.tmp 17) (.const (.int .i64 0))), none⟩,
    ⟨(some 19), (.mv (.tmp 18)), none⟩,
    ⟨(some 20), (.fad 0 (.tmp 7)), (some (19, false))⟩,
    ⟨(some 21), (.load false 1 (.tmp 20)), (some (19, false))⟩,
    ⟨(some 22), (.mv (.tmp 9)), (some (19, false))⟩,
    ⟨(some 23), (.bin 0 .geq (.tmp 21) (.tmp 22)), (some (19, false))⟩,
    ⟨(some 24), (.pick (.tmp 19) (.const (.bool true)) (.tmp 23)), none⟩,
    ⟨(some 25), (.mv (.tmp 24)), none⟩,
    ⟨(some 26), (.fad 1 (.tmp 7)), (some (25, false))⟩,
    ⟨(some 27), (.load false 1 (.tmp 26)), (some (25, false))⟩,
    ⟨(some 28), (.bin 0 .lss (.tmp 27) (.const (.int .i64 (-1)))), (some (25, false))⟩,
    ⟨(some 29), (.pick (.tmp 25) (.const (.bool true)) (.tmp 28)), none⟩,
    ⟨(some 30), (.mv (.tmp 29)), none⟩,
    ⟨(some 31), (.fad 1 (.tmp 7)), (some (30, false))⟩,
    ⟨(some 32), (.load false 1 (.tmp 31)), (some (30, false))⟩,
    ⟨(some 33), (.mv (.tmp 9)), (some (30, false))⟩,
    ⟨(some 34), (.bin 0 .geq (.tmp 32) (.tmp 33)), (some (30, false))⟩,
    ⟨(some 35), (.pick (.tmp 30) (.const (.bool true)) (.tmp 34)), none⟩,
    ⟨(some 36), (.mv (.tmp 35)), none⟩,
    ⟨(some 37), (.fad 2 (.tmp 7)), (some (36, false))⟩,
    ⟨(some 38), (.load false 1 (.tmp 37)), (some (36, false))⟩,
    ⟨(some 39), (.bin 0 .lss (.tmp 38) (.const (.int .i64 (-1)))), (some (36, false))⟩,
    ⟨(some 40), (.pick (.tmp 36) (.const (.bool true)) (.tmp 39)), none⟩,
    ⟨(some 41), (.mv (.tmp 40)), none⟩,
    ⟨(some 42), (.fad 2 (.tmp 7)), (some (41, false))⟩,
    ⟨(some 43), (.load false 1 (.tmp 42)), (some (41, false))⟩,
    ⟨(some 44), (.mv (.tmp 9)), (some (41, false))⟩,
    ⟨(some 45), (.bin 0 .geq (.tmp 43) (.tmp 44)), (some (41, false))⟩,
    ⟨(some 46), (.pick (.tmp 41) (.const (.bool true)) (.tmp 45)), none⟩,
    ⟨(some 47), (.mv (.tmp 46)), none⟩,
    ⟨(some 48), (.load true 2 (.tmp 4)), (some (47, false))⟩,
    ⟨(some 49), (.mv (.tmp 2)), (some (47, false))⟩,
    ⟨(some 50), (.fad 0 (.tmp 7)), (some (47, false))⟩,
    ⟨(some 51), (.load false 1 (.tmp 50)), (some (47, false))⟩,
    ⟨(some 52), (.call (.func 46) [(.tmp 48), (.tmp 49), (.tmp 51)]), (some (47, false))⟩,
    ⟨(some 53), (.un .not (.tmp 52)), (some (47, false))⟩,
    ⟨(some 54), (.pick (.tmp 47) (.const (.bool true)) (.tmp 53)), none⟩] none)
   (.cond (.tmp 54)
    (.seq
    (.region [⟨(some 8), (.mv (.const (.bool false))), none⟩] none)
    .ret)
    .skip))
   (.seq
   (.region [⟨(some 55), (.fad 0 (.tmp 4)), none⟩,
    ⟨(some 56), (.load false 1 (.tmp 55)), none⟩,
    ⟨(some 57), (.fad 0 (.tmp 7)), none⟩,
    ⟨(some 58), (.load false 1 (.tmp 57)), none⟩,
    ⟨(some 59), (.idx 4 (.tmp 56) (.tmp 58)), none⟩,
    ⟨(some 60), (.load true 4 (.tmp 59)), none⟩,
    ⟨(some 10), (.alloc [(.int .i64 0), (.int .i64 0), (.int .i64 0), (.int .i64 0)]), none⟩,
    ⟨none, (.store 4 (.tmp 10) (.tmp 60)), none⟩] none)
   (.seq
    (.seq
    (.region [⟨(some 61), (.fad 2 (.tmp 7)), none⟩,
     ⟨(some 62), (.load false 1 (.tmp 61)), none⟩,
     ⟨(some 63), (.bin 0 .geq (.tmp 62) (.const (.int .i64 0))), none⟩,
     ⟨(some 64), (.mv (.tmp 63)), none⟩,
     ⟨(some 65), (.fad 2 (.tmp 10)), (some (64, true))⟩,
     ⟨(some 66), (.load false 1 (.tmp 65)), (some (64, true))⟩,
     ⟨(some 67), (.bin 0 .eql (.tmp 66) (.const (.int .i64 10))), (some (64, true))⟩,
     ⟨(some 68), (.mv (.tmp 67)), (some (64, true))⟩,
     ⟨(some 69), (.load true 2 (.tmp 4)), (some (68, false))⟩,
     ⟨(some 70), (.fad 0 (.tmp 7)), (some (68, false))⟩,
     ⟨(some 71), (.load false 1 (.tmp 70)), (some (68, false))⟩,
     ⟨(some 72), (.fad 2 (.tmp 7)), (some (68, false))⟩,
     ⟨(some 73), (.load false 1 (.tmp 72)), (some (68, false))⟩,
     ⟨(some 74), (.call (.func 47) [(.tmp 69), (.tmp 71), (.tmp 73)]), (some (68, false))⟩,
     ⟨(some 75), (.un .not (.tmp 74)), (some (68, false))⟩,
     ⟨(some 76), (.pick (.tmp 68) (.const (.bool true)) (.tmp 75)), (some (64, true))⟩,
     ⟨(some 77), (.mv (.tmp 76)), (some (64, true))⟩,
     ⟨(some 78), (.mv (.tmp 2)), (some (77, false))⟩,
     ⟨(some 79), (.fad 2 (.tmp 7)), (some (77, false))⟩,
     ⟨(some 80), (.load false 1 (.tmp 79)), (some (77, false))⟩,
     ⟨(some 81), (.call (.func 12) [(.tmp 78), (.tmp 80)]), (some (77, false))⟩,
     ⟨(some 82), (.bin 0 .lss (.tmp 81) (.const (.int .i64 0))), (some (77, false))⟩,
     ⟨(some 83), (.pick (.tmp 77) (.const (.bool true)) (.tmp 82)), (some (64, true))⟩,
     ⟨(some 84), (.pick (.tmp 64) (.tmp 83) (.const (.bool false))), none⟩] none)
    (.cond (.tmp 84)
     (.seq
     (.region [⟨(some 8), (.mv (.const (.bool false))), none⟩] none)
     .ret)
     .skip))
    (.seq
    (.seq
     (.region [⟨(some 85), (.load true 2 (.tmp 4)), none⟩,
      ⟨(some 86), (.mv (.tmp 1)), none⟩,
      ⟨(some 87), (.fad 0 (.tmp 7)), none⟩,
      ⟨(some 88), (.load false 1 (.tmp 87)), none⟩,
      ⟨(some 89), (.call (.func 48) [(.tmp 85), (.tmp 86), (.tmp 88)]), none⟩,
      ⟨(some 90), (.un .not (.tmp 89)), none⟩] none)
     (.cond (.tmp 90)
     (.seq
      (.region [⟨(some 91), (.load true 2 (.tmp 4)), none⟩,
       ⟨(some 92), (.lit 0 3 0 []), none⟩,
       ⟨(some 93), (.mv (.tmp 2)), none⟩,
       ⟨(some 94), (.app 3 24 (.tmp 92) (.tmp 93)), none⟩,
       ⟨(some 95), (.load true 3 (.tmp 7)), none⟩,
       ⟨(some 96), (.lit 0 3 1 [(0, (.tmp 95))]), none⟩,
       ⟨(some 97), (.app 3 24 (.tmp 94) (.tmp 96)), none⟩,
       ⟨(some 98), (.fad 3 (.tmp 10)), none⟩,
       ⟨(some 99), (.load false 1 (.tmp 98)), none⟩,
       ⟨(some 100), (.call (.func 49) [(.tmp 91), (.tmp 97), (.tmp 99)]), none⟩,
       ⟨(some 11), (.mv (.tmp 100)), none⟩] (some (.take 0 (.take 2 (.take 4 (.take 7 (.take 8 (.alt 1 (.alt 3 (.alt 5 (.alt 6 (.alt 9 (.take 10 .done) .alt0) .alt0) .alt0) (.alt 5 (.alt 3 (.alt 6 (.alt 9 (.take 10 .done) .alt0) .alt0) .alt0) .alt0)) (.alt 5 (.alt 1 (.alt 3 (.alt 6 (.alt 9 (.take 10 .done) .alt0) .alt0) .alt0) .alt0) .alt0)))))))))
      (.seq
      (.region [⟨(some 101), (.fad 1 (.tmp 7)), none⟩,
       ⟨(some 102), (.load false 1 (.tmp 101)), none⟩,
       ⟨(some 103), (.bin 0 .eql (.tmp 102) (.const (.int .i64 (-1)))), none⟩,
       ⟨(some 104), (.mv (.tmp 103)), none⟩,
       ⟨(some 105), (.fad 2 (.tmp 10)), (some (104, true))⟩,
       ⟨(some 106), (.load false 1 (.tmp 105)), (some (104, true))⟩,
       ⟨(some 107), (.call (.func 34) [(.tmp 106)]), (some (104, true))⟩,
       ⟨(some 108), (.bin 0 .neq (.tmp 107) (.const (.int .i64 4))), (some (104, true))⟩,
       ⟨(some 109), (.mv (.tmp 108)), (some (104, true))⟩,
       ⟨(some 110), (.mv (.tmp 11)), (some (109, false))⟩,
       ⟨(some 111), (.bin 0 .geq (.tmp 110) (.const (.int .i64 0))), (some (109, false))⟩,
       ⟨(some 112), (.mv (.tmp 111)), (some (109, false))⟩,
       ⟨(some 113), (.mv (.tmp 11)), (some (112, true))⟩,
       ⟨(some 114), (.mv (.tmp 1)), (some (112, true))⟩,
       ⟨(some 115), (.fad 3 (.tmp 10)), (some (112, true))⟩,
       ⟨(some 116), (.load false 1 (.tmp 115)), (some (112, true))⟩,
       ⟨(some 117), (.idx 4 (.tmp 114) (.tmp 116)), (some (112, true))⟩,
       ⟨(some 118), (.fad 2 (.tmp 117)), (some (112, true))⟩,
       ⟨(some 119), (.load false 1 (.tmp 118)), (some (112, true))⟩,
       ⟨(some 120), (.bin 0 .leq (.tmp 113) (.tmp 119)), (some (112, true))⟩,
       ⟨(some 121), (.pick (.tmp 112) (.tmp 120) (.const (.bool false))), (some (109, false))⟩,
       ⟨(some 122), (.pick (.tmp 109) (.const (.bool true)) (.tmp 121)), (some (104, true))⟩,
       ⟨(some 123), (.pick (.tmp 104) (.tmp 122) (.const (.bool false))), none⟩,
       ⟨(some 8), (.mv (.tmp 123)), none⟩] none)
      .ret))
     .skip))
    (.seq
     (.seq
     (.region [⟨(some 124), (.fad 2 (.tmp 10)), none⟩,
      ⟨(some 125), (.load false 1 (.tmp 124)), none⟩,
      ⟨(some 126), (.bin 0 .neq (.tmp 125) (.const (.int .i64 9))), none⟩,
      ⟨(some 127), (.mv (.tmp 126)), none⟩,
      ⟨(some 128), (.fad 1 (.tmp 7)), (some (127, false))⟩,
      ⟨(some 129), (.load false 1 (.tmp 128)), (some (127, false))⟩,
      ⟨(some 130), (.bin 0 .lss (.tmp 129) (.const (.int .i64 0))), (some (127, false))⟩,
      ⟨(some 131), (.pick (.tmp 127) (.const (.bool true)) (.tmp 130)), none⟩] none)
     (.cond (.tmp 131)
      (.seq
      (.region [⟨(some 8), (.mv (.const (.bool false))), none⟩] none)
      .ret)
      .skip))
     (.seq
     (.region [⟨(some 132), (.fad 0 (.tmp 4)), none⟩,
      ⟨(some 133), (.load false 1 (.tmp 132)), none⟩,
      ⟨(some 134), (.fad 1 (.tmp 7)), none⟩,
      ⟨(some 135), (.load false 1 (.tmp 134)), none⟩,
      ⟨(some 136), (.idx 4 (.tmp 133) (.tmp 135)), none⟩,
      ⟨(some 137), (.load true 4 (.tmp 136)), none⟩,
      ⟨(some 12), (.alloc [(.int .i64 0), (.int .i64 0), (.int .i64 0), (.int .i64 0)]), none⟩,
      ⟨none, (.store 4 (.tmp 12) (.tmp 137)), none⟩] none)
     (.seq
      (.region [⟨(some 138), (.fad 2 (.tmp 12)), none⟩,
       ⟨(some 139), (.load false 1 (.tmp 138)), none⟩,
       ⟨(some 140), (.bin 0 .eql (.tmp 139) (.const (.int .i64 10))), none⟩,
       ⟨(some 141), (.mv (.tmp 140)), none⟩,
       ⟨(some 142), (.fad 3 (.tmp 12)), (some (141, true))⟩,
       ⟨(some 143), (.load false 1 (.tmp 142)), (some (141, true))⟩,
       ⟨(some 144), (.fad 3 (.tmp 10)), (some (141, true))⟩,
       ⟨(some 145), (.load false 1 (.tmp 144)), (some (141, true))⟩,
       ⟨(some 146), (.bin 0 .eql (.tmp 143) (.tmp 145)), (some (141, true))⟩,
       ⟨(some 147), (.pick (.tmp 141) (.tmp 146) (.const (.bool false))), none⟩,
       ⟨(some 148), (.mv (.tmp 147)), none⟩,
       ⟨(some 149), (.fad 0 (.tmp 12)), (some (148, true))⟩,
       ⟨(some 150), (.load false 1 (.tmp 149)), (some (148, true))⟩,
       ⟨(some 151), (.fad 0 (.tmp 10)), (some (148, true))⟩,
       ⟨(some 152), (.load false 1 (.tmp 151)), (some (148, true))⟩,
       ⟨(some 153), (.bin 0 .neq (.tmp 150) (.tmp 152)), (some (148, true))⟩,
       ⟨(some 154), (.pick (.tmp 148) (.tmp 153) (.const (.bool false))), none⟩,
       ⟨(some 155), (.mv (.tmp 154)), none⟩,
       ⟨(some 156), (.load true 2 (.tmp 4)), (some (155, true))⟩,
       ⟨(some 157), (.mv (.tmp 2)), (some (155, true))⟩,
       ⟨(some 158), (.fad 1 (.tmp 7)), (some (155, true))⟩,
       ⟨(some 159), (.load false 1 (.tmp 158)), (some (155, true))⟩,
       ⟨(some 160), (.call (.func 46) [(.tmp 156), (.tmp 157), (.tmp 159)]), (some (155, true))⟩,
       ⟨(some 161), (.pick (.tmp 155) (.tmp 160) (.const (.bool false))), none⟩,
       ⟨(some 8), (.mv (.tmp 161)), none⟩] none)
      .ret)))))))))
theorem tr36 : (Try.f36.body).bind (trCode Try.prog Try.f36.ntmps) = some code36 := by kernel_rfl
def s36 (n : Nat) (p0 : api_Shape) (p1 : List api_Decl) (p2 : List api_Entry) (p3 : api_Entry) : Option Bool :=
  (if !((((((decide (p3.Event < 0)) || (decide (p3.Event ≥ (p0.Events.length : Int)))) || (decide (p3.With < (-1)))) || (decide (p3.With ≥ (p0.Events.length : Int)))) || (decide (p3.From < (-1)))) || (decide (p3.From ≥ (p0.Events.length : Int)))) then s46 n p0 p2 p3.Event else some false).bind fun r83 =>
  if ((((((decide (p3.Event < 0)) || (decide (p3.Event ≥ (p0.Events.length : Int)))) || (decide (p3.With < (-1)))) || (decide (p3.With ≥ (p0.Events.length : Int)))) || (decide (p3.From < (-1)))) || (decide (p3.From ≥ (p0.Events.length : Int)))) || !r83 then
    some false
  else
    if 0 ≤ p3.Event ∧ p3.Event < (p0.Events.length : Int) then
      (if (decide (p3.From ≥ 0)) && !(((p0.Events.getD p3.Event.toNat default).Kind) == 10) then s47 n p0 p3.Event p3.From else some false).bind fun r85 =>
      (if (decide (p3.From ≥ 0)) && !((((p0.Events.getD p3.Event.toNat default).Kind) == 10) || !r85) then s12 n p2 p3.From else some 0).bind fun r86 =>
      if (decide (p3.From ≥ 0)) && (((((p0.Events.getD p3.Event.toNat default).Kind) == 10) || !r85) || (decide (r86 < 0))) then
        some false
      else
        (s48 n p0 p1 p3.Event).bind fun r87 =>
        if !r87 then
          if (0 + p2.length) * 24 ≤ 140737488355328 then
            if ((0 + p2.length) + 1) * 24 ≤ 140737488355328 then
              (s49 n p0 ((([] : List api_Entry) ++ p2) ++ ([p3] : List api_Entry)) ((p0.Events.getD p3.Event.toNat default).Obj)).bind fun r90 =>
              (if (p3.With == (-1)) then s34 n ((p0.Events.getD p3.Event.toNat default).Kind) else some 0).bind fun r91 =>
              if (p3.With == (-1)) = true → (r91 != 4) = false → (decide (r90 ≥ 0)) = true → 0 ≤ ((p0.Events.getD p3.Event.toNat default).Obj) ∧ ((p0.Events.getD p3.Event.toNat default).Obj) < (p1.length : Int) then
                some ((p3.With == (-1)) && ((r91 != 4) || ((decide (r90 ≥ 0)) && (decide (r90 ≤ ((p1.getD ((p0.Events.getD p3.Event.toNat default).Obj).toNat default).Num))))))
              else none
            else none
          else none
        else
          if (((p0.Events.getD p3.Event.toNat default).Kind) != 9) || (decide (p3.With < 0)) then
            some false
          else
            if 0 ≤ p3.With ∧ p3.With < (p0.Events.length : Int) then
              (if (((((p0.Events.getD p3.With.toNat default).Kind) == 10) && (((p0.Events.getD p3.With.toNat default).Obj) == ((p0.Events.getD p3.Event.toNat default).Obj))) && (((p0.Events.getD p3.With.toNat default).Proc) != ((p0.Events.getD p3.Event.toNat default).Proc))) then s46 n p0 p2 p3.With else some false).bind fun r97 =>
              some ((((((p0.Events.getD p3.With.toNat default).Kind) == 10) && (((p0.Events.getD p3.With.toNat default).Obj) == ((p0.Events.getD p3.Event.toNat default).Obj))) && (((p0.Events.getD p3.With.toNat default).Proc) != ((p0.Events.getD p3.Event.toNat default).Proc))) && r97)
            else none
    else none
def E36 (r : Bool) (s : AS) : Prop := resOf s (.one 8) = some (.tst r)
theorem wf36 {n : Nat} {p0 : api_Shape} {p1 : List api_Decl} {p2 : List api_Entry} {p3 : api_Entry} {r : Bool} (h : s36 n p0 p1 p2 p3 = some r) : CWP Try.prog Try.f36.ntmps code36 (AtE (E36 r)) ⟨[(0, .agg (api_Shape.cs p0)), (1, api_Decl.sl p1), (2, api_Entry.sl p2), (3, .agg (api_Entry.cs p3))], [], 0⟩ := by
  unfold s36 at h
  refine CWP.seq ?_
  refine CWP.regionT ⟨[(1, api_Decl.sl p1), (2, api_Entry.sl p2), (4, .ptr 0 0), (7, .ptr 8 0)], [(0, .box (api_Shape.cs p0)), (8, .box (api_Entry.cs p3))], 24⟩ ?_ ?_
  · exact Le.keep (live := [1, 2, 4, 7]) (names := [0, 8]) (nx := 24) rfl
  refine CWP.seq ?_
  refine CWP.regionT ⟨[(1, api_Decl.sl p1), (2, api_Entry.sl p2), (4, .ptr 0 0), (7, .ptr 8 0), (9, I (p0.Events.length : Int))], [(0, .box (api_Shape.cs p0)), (8, .box (api_Entry.cs p3))], 56⟩ ?_ ?_
  · exact Le.keep (live := [1, 2, 4, 7, 9]) (names := [0, 8]) (nx := 56) rfl
  refine CWP.seq ?_
  refine CWP.seq ?_
  obtain ⟨r83, hr83, h⟩ := Option.bind_eq_some_iff.1 h
  refine CWP.regionT ⟨[(1, api_Decl.sl p1), (2, api_Entry.sl p2), (4, .ptr 0 0), (7, .ptr 8 0), (54, .tst (((((((decide (p3.Event < 0)) || (decide (p3.Event ≥ (p0.Events.length : Int)))) || (decide (p3.With < (-1)))) || (decide (p3.With ≥ (p0.Events.length : Int)))) || (decide (p3.From < (-1)))) || (decide (p3.From ≥ (p0.Events.length : Int)))) || !r83))], [(0, .box (api_Shape.cs p0)), (8, .box (api_Entry.cs p3))], 368⟩ ?_ ?_
  · refine And.intro (fun hg105 => ?_) (fun hg105 => ?_)
    · have hg105 : (decide (p3.Event < 0)) = false := hg105
      refine And.intro (fun hg106 => ?_) (fun hg106 => ?_)
      · have hg106 : (decide (p3.Event ≥ (p0.Events.length : Int))) = false := hg106
        refine And.intro (fun hg107 => ?_) (fun hg107 => ?_)
        · have hg107 : (decide (p3.With < (-1))) = false := hg107
          refine And.intro (fun hg108 => ?_) (fun hg108 => ?_)
          · have hg108 : (decide (p3.With ≥ (p0.Events.length : Int))) = false := hg108
            refine And.intro (fun hg109 => ?_) (fun hg109 => ?_)
            · have hg109 : (decide (p3.From < (-1))) = false := hg109
              refine And.intro (fun hg110 => ?_) (fun hg110 => ?_)
              · have hg110 : (decide (p3.From ≥ (p0.Events.length : Int))) = false := hg110
                refine FC.semT rfl rfl rfl trivial (c46 (ite_t hr83 (by simp only [hg105, hg106, hg107, hg108, hg109, hg110, sB, reduceIte]))) (Or.inl rfl) ?_
                refine ex_refl ?_
                exact Le.trans (Le.rep (t := 54) rfl (RepLe.fr rfl (FrLe.tst2 (by simp only [hg105, hg106, hg107, hg108, hg109, hg110, sB, reduceIte])))) (Le.keep (live := [1, 2, 4, 7, 54]) (names := [0, 8]) (nx := 368) rfl)
              · have hg110 : (decide (p3.From ≥ (p0.Events.length : Int))) = true := hg110
                exact Le.trans (Le.rep (t := 54) rfl (RepLe.fr rfl (FrLe.tst (by simp only [hg105, hg106, hg107, hg108, hg109, hg110, sB, reduceIte])))) (Le.keep (live := [1, 2, 4, 7, 54]) (names := [0, 8]) (nx := 368) rfl)
            · have hg109 : (decide (p3.From < (-1))) = true := hg109
              exact Le.trans (Le.rep (t := 54) rfl (RepLe.fr rfl (FrLe.tst (by simp only [hg105, hg106, hg107, hg108, hg109, sB, reduceIte])))) (Le.keep (live := [1, 2, 4, 7, 54]) (names := [0, 8]) (nx := 368) rfl)
          · have hg108 : (decide (p3.With ≥ (p0.Events.length : Int))) = true := hg108
            exact Le.trans (Le.rep (t := 54) rfl (RepLe.fr rfl (FrLe.tst (by simp only [hg105, hg106, hg107, hg108, sB, reduceIte])))) (Le.keep (live := [1, 2, 4, 7, 54]) (names := [0, 8]) (nx := 368) rfl)
        · have hg107 : (decide (p3.With < (-1))) = true := hg107
          exact Le.trans (Le.rep (t := 54) rfl (RepLe.fr rfl (FrLe.tst (by simp only [hg105, hg106, hg107, sB, reduceIte])))) (Le.keep (live := [1, 2, 4, 7, 54]) (names := [0, 8]) (nx := 368) rfl)
      · have hg106 : (decide (p3.Event ≥ (p0.Events.length : Int))) = true := hg106
        exact Le.trans (Le.rep (t := 54) rfl (RepLe.fr rfl (FrLe.tst (by simp only [hg105, hg106, sB, reduceIte])))) (Le.keep (live := [1, 2, 4, 7, 54]) (names := [0, 8]) (nx := 368) rfl)
    · have hg105 : (decide (p3.Event < 0)) = true := hg105
      exact Le.trans (Le.rep (t := 54) rfl (RepLe.fr rfl (FrLe.tst (by simp only [hg105, sB, reduceIte])))) (Le.keep (live := [1, 2, 4, 7, 54]) (names := [0, 8]) (nx := 368) rfl)
  refine CWP.cond (And.intro (fun hc => ?_) (fun hc => ?_))
  · have h := ite_t h hc
    refine CWP.seq ?_
    refine CWP.regionT ⟨[(8, .raw (.bool false))], [], 376⟩ ?_ ?_
    · exact Le.keep (live := [8]) (names := []) (nx := 376) rfl
    refine CWP.weaken (Le.rep (t := 8) rfl (RepLe.fr rfl (FrLe.tst rfl))) ?_
    refine CWP.ret ?_
    have e := Option.some.inj h
    subst e
    exact rfl
  · have h := ite_f h hc
    refine CWP.skip ?_
    refine CWP.seq ?_
    obtain ⟨hs84, h⟩ := ite_some h
    refine CWP.regionT ⟨[(1, api_Decl.sl p1), (2, api_Entry.sl p2), (4, .ptr 0 0), (7, .ptr 8 0), (10, .ptr 416 0)], [(0, .box (api_Shape.cs p0)), (8, .box (api_Entry.cs p3)), (416, .box [I ((p0.Events.getD p3.Event.toNat default).Proc), I ((p0.Events.getD p3.Event.toNat default).Inst), I ((p0.Events.getD p3.Event.toNat default).Kind), I ((p0.Events.getD p3.Event.toNat default).Obj)])], 432⟩ ?_ ?_
    · refine And.intro hs84 ?_
      refine SemOp.ofT ?_
      refine ex_refl ?_
      exact Le.keep (live := [1, 2, 4, 7, 10]) (names := [0, 8, 416]) (nx := 432) rfl
    refine CWP.seq ?_
    refine CWP.seq ?_
    obtain ⟨r85, hr85, h⟩ := Option.bind_eq_some_iff.1 h
    obtain ⟨r86, hr86, h⟩ := Option.bind_eq_some_iff.1 h
    refine CWP.regionT ⟨[(1, api_Decl.sl p1), (2, api_Entry.sl p2), (4, .ptr 0 0), (7, .ptr 8 0), (10, .ptr 416 0), (84, .tst ((decide (p3.From ≥ 0)) && (((((p0.Events.getD p3.Event.toNat default).Kind) == 10) || !r85) || (decide (r86 < 0)))))], [(0, .box (api_Shape.cs p0)), (8, .box (api_Entry.cs p3)), (416, .box [I ((p0.Events.getD p3.Event.toNat default).Proc), I ((p0.Events.getD p3.Event.toNat default).Inst), I ((p0.Events.getD p3.Event.toNat default).Kind), I ((p0.Events.getD p3.Event.toNat default).Obj)])], 624⟩ ?_ ?_
    · refine And.intro (fun hg102 => ?_) (fun hg102 => ?_)
      · have hg102 : (decide (p3.From ≥ 0)) = true := hg102
        refine And.intro (fun hg103 => ?_) (fun hg103 => ?_)
        · have hg103 : (((p0.Events.getD p3.Event.toNat default).Kind) == 10) = false := hg103
          refine FC.semT rfl rfl rfl trivial (c47 (ite_t hr85 (by simp only [hg102, hg103, sB, reduceIte]))) (Or.inl rfl) ?_
          refine ex_refl ?_
          refine And.intro (fun hg104 => ?_) (fun hg104 => ?_)
          · have hg104 : (!r85) = false := hg104
            refine FC.semT rfl rfl rfl trivial (c12 (ite_t hr86 (by simp only [hg102, hg103, hg104, sB, reduceIte]))) (Or.inl rfl) ?_
            refine ex_refl ?_
            exact Le.trans (Le.rep (t := 84) rfl (RepLe.fr rfl (FrLe.tst2 (by simp only [hg102, hg103, hg104, sB, reduceIte])))) (Le.keep (live := [1, 2, 4, 7, 10, 84]) (names := [0, 8, 416]) (nx := 624) rfl)
          · have hg104 : (!r85) = true := hg104
            exact Le.trans (Le.rep (t := 84) rfl (RepLe.fr rfl (FrLe.tst (by simp only [hg102, hg103, hg104, sB, reduceIte])))) (Le.keep (live := [1, 2, 4, 7, 10, 84]) (names := [0, 8, 416]) (nx := 624) rfl)
        · have hg103 : (((p0.Events.getD p3.Event.toNat default).Kind) == 10) = true := hg103
          exact Le.trans (Le.rep (t := 84) rfl (RepLe.fr rfl (FrLe.tst (by simp only [hg102, hg103, sB, reduceIte])))) (Le.keep (live := [1, 2, 4, 7, 10, 84]) (names := [0, 8, 416]) (nx := 624) rfl)
      · have hg102 : (decide (p3.From ≥ 0)) = false := hg102
        exact Le.trans (Le.rep (t := 84) rfl (RepLe.fr rfl (FrLe.tst (by simp only [hg102, sB, reduceIte])))) (Le.keep (live := [1, 2, 4, 7, 10, 84]) (names := [0, 8, 416]) (nx := 624) rfl)
    refine CWP.cond (And.intro (fun hc => ?_) (fun hc => ?_))
    · have h := ite_t h hc
      refine CWP.seq ?_
      refine CWP.regionT ⟨[(8, .raw (.bool false))], [], 632⟩ ?_ ?_
      · exact Le.keep (live := [8]) (names := []) (nx := 632) rfl
      refine CWP.weaken (Le.rep (t := 8) rfl (RepLe.fr rfl (FrLe.tst rfl))) ?_
      refine CWP.ret ?_
      have e := Option.some.inj h
      subst e
      exact rfl
    · have h := ite_f h hc
      refine CWP.skip ?_
      refine CWP.seq ?_
      refine CWP.seq ?_
      obtain ⟨r87, hr87, h⟩ := Option.bind_eq_some_iff.1 h
      refine CWP.regionT ⟨[(1, api_Decl.sl p1), (2, api_Entry.sl p2), (4, .ptr 0 0), (7, .ptr 8 0), (10, .ptr 416 0), (90, .tst !r87)], [(0, .box (api_Shape.cs p0)), (8, .box (api_Entry.cs p3)), (416, .box [I ((p0.Events.getD p3.Event.toNat default).Proc), I ((p0.Events.getD p3.Event.toNat default).Inst), I ((p0.Events.getD p3.Event.toNat default).Kind), I ((p0.Events.getD p3.Event.toNat default).Obj)])], 672⟩ ?_ ?_
      · refine FC.semT rfl rfl rfl trivial (c48 hr87) (Or.inl rfl) ?_
        refine ex_refl ?_
        exact Le.keep (live := [1, 2, 4, 7, 10, 90]) (names := [0, 8, 416]) (nx := 672) rfl
      refine CWP.cond (And.intro (fun hc => ?_) (fun hc => ?_))
      · have h := ite_t h hc
        refine CWP.seq ?_
        obtain ⟨hs88, h⟩ := ite_some h
        obtain ⟨hs89, h⟩ := ite_some h
        obtain ⟨r90, hr90, h⟩ := Option.bind_eq_some_iff.1 h
        refine CWP.drawT [] [] ⟨[(1, api_Decl.sl p1), (7, .ptr 8 0), (10, .ptr 416 0), (11, I r90)], [(8, .box (api_Entry.cs p3)), (416, .box [I ((p0.Events.getD p3.Event.toNat default).Proc), I ((p0.Events.getD p3.Event.toNat default).Inst), I ((p0.Events.getD p3.Event.toNat default).Kind), I ((p0.Events.getD p3.Event.toNat default).Obj)])], 760⟩ ?_ ?_
        · refine And.intro rfl ?_
          iterate 4 refine And.intro rfl ?_
          refine And.intro ?_ ?_
          · refine And.intro rfl ?_
            refine SemOp.ofD rfl ?_
            refine ex_arr ([] : List api_Entry) (x := 680) (sz := 3) (n := 0) (cell := api_Entry.cell) (d := default) rfl (fun j _ hj _ => absurd hj (Nat.not_lt_zero j)) ?_
            refine And.intro ?_ ?_
            · refine And.intro rfl ?_
              refine SemOp.ofD rfl ?_
              refine And.intro ⟨trivial, hs88, Nat.le_refl _⟩ ?_
              refine ex_arr (([] : List api_Entry) ++ p2) (x := 680) (cell := api_Entry.cell) (d := default) rfl (li_ap rfl rfl) ?_
              refine And.intro ?_ ?_
              · refine And.intro rfl ?_
                refine SemOp.ofD rfl ?_
                refine ex_arr ([p3] : List api_Entry) (x := 712) (sz := 3) (n := 1) (cell := api_Entry.cell) (d := default) rfl (by intro j c hj hc; match j, hj with | 0, _ => (match c, hc with | 0, _ => rfl | 1, _ => rfl | 2, _ => rfl | _ + 3, h => exact absurd h (by omega)) | _ + 1, h => exact absurd h (by omega)) ?_
                refine And.intro ?_ ?_
                · refine And.intro rfl ?_
                  refine SemOp.ofD rfl ?_
                  refine And.intro ⟨Nat.le_refl _, hs89, Nat.le_refl _⟩ ?_
                  refine ex_arr ((([] : List api_Entry) ++ p2) ++ ([p3] : List api_Entry)) (x := 680) (cell := api_Entry.cell) (d := default) rfl (li_ap (len_app (l := ([] : List api_Entry)) (k := p2) (n := 0) (m := p2.length) rfl rfl) rfl) ?_
                  refine And.intro ?_ ?_
                  · refine And.intro rfl ?_
                    refine FC.semT rfl rfl rfl (Nat.le_refl _) (FC.args (FrLes.cons (FrLe.refl _) (FrLes.cons (FrLe.fro (len_app (l := ([] : List api_Entry) ++ p2) (k := ([p3] : List api_Entry)) (n := 0 + p2.length) (m := 1) (len_app (l := ([] : List api_Entry)) (k := p2) (n := 0) (m := p2.length) rfl rfl) rfl) (fun _ _ _ _ => FrLe.refl _)) (FrLes.cons (FrLe.refl _) (FrLes.nil)))) (c49 hr90)) (Or.inr (Or.inl rfl)) ?_
                    refine ex_refl ?_
                    refine And.intro rfl ?_
                    exact Le.keep (live := [1, 7, 10, 11]) (names := [8, 416]) (nx := 760) rfl
                  · exact trivial
                · exact trivial
              · exact trivial
            · refine And.intro ?_ ?_
              · refine And.intro rfl ?_
                refine SemOp.ofD rfl ?_
                refine ex_arr ([p3] : List api_Entry) (x := 712) (sz := 3) (n := 1) (cell := api_Entry.cell) (d := default) rfl (by intro j c hj hc; match j, hj with | 0, _ => (match c, hc with | 0, _ => rfl | 1, _ => rfl | 2, _ => rfl | _ + 3, h => exact absurd h (by omega)) | _ + 1, h => exact absurd h (by omega)) ?_
                refine And.intro ?_ ?_
                · refine And.intro rfl ?_
                  refine SemOp.ofD rfl ?_
                  refine And.intro ⟨trivial, hs88, Nat.le_refl _⟩ ?_
                  refine ex_arr (([] : List api_Entry) ++ p2) (x := 680) (cell := api_Entry.cell) (d := default) rfl (li_ap rfl rfl) ?_
                  refine And.intro ?_ ?_
                  · refine And.intro rfl ?_
                    refine SemOp.ofD rfl ?_
                    refine And.intro ⟨Nat.le_refl _, hs89, Nat.le_refl _⟩ ?_
                    refine ex_arr ((([] : List api_Entry) ++ p2) ++ ([p3] : List api_Entry)) (x := 680) (cell := api_Entry.cell) (d := default) rfl (li_ap (len_app (l := ([] : List api_Entry)) (k := p2) (n := 0) (m := p2.length) rfl rfl) rfl) ?_
                    refine And.intro ?_ ?_
                    · refine And.intro rfl ?_
                      refine FC.semT rfl rfl rfl (Nat.le_refl _) (FC.args (FrLes.cons (FrLe.refl _) (FrLes.cons (FrLe.fro (len_app (l := ([] : List api_Entry) ++ p2) (k := ([p3] : List api_Entry)) (n := 0 + p2.length) (m := 1) (len_app (l := ([] : List api_Entry)) (k := p2) (n := 0) (m := p2.length) rfl rfl) rfl) (fun _ _ _ _ => FrLe.refl _)) (FrLes.cons (FrLe.refl _) (FrLes.nil)))) (c49 hr90)) (Or.inr (Or.inl rfl)) ?_
                      refine ex_refl ?_
                      refine And.intro rfl ?_
                      exact Le.keep (live := [1, 7, 10, 11]) (names := [8, 416]) (nx := 760) rfl
                    · exact trivial
                  · exact trivial
                · exact trivial
              · exact trivial
          · refine And.intro ?_ ?_
            · refine And.intro rfl ?_
              refine SemOp.ofD rfl ?_
              refine ex_arr ([p3] : List api_Entry) (x := 712) (sz := 3) (n := 1) (cell := api_Entry.cell) (d := default) rfl (by intro j c hj hc; match j, hj with | 0, _ => (match c, hc with | 0, _ => rfl | 1, _ => rfl | 2, _ => rfl | _ + 3, h => exact absurd h (by omega)) | _ + 1, h => exact absurd h (by omega)) ?_
              refine And.intro ?_ ?_
              · refine And.intro rfl ?_
                refine SemOp.ofD rfl ?_
                refine ex_arr ([] : List api_Entry) (x := 680) (sz := 3) (n := 0) (cell := api_Entry.cell) (d := default) rfl (fun j _ hj _ => absurd hj (Nat.not_lt_zero j)) ?_
                refine And.intro ?_ ?_
                · refine And.intro rfl ?_
                  refine SemOp.ofD rfl ?_
                  refine And.intro ⟨trivial, hs88, Nat.le_refl _⟩ ?_
                  refine ex_arr (([] : List api_Entry) ++ p2) (x := 680) (cell := api_Entry.cell) (d := default) rfl (li_ap rfl rfl) ?_
                  refine And.intro ?_ ?_
                  · refine And.intro rfl ?_
                    refine SemOp.ofD rfl ?_
                    refine And.intro ⟨Nat.le_refl _, hs89, Nat.le_refl _⟩ ?_
                    refine ex_arr ((([] : List api_Entry) ++ p2) ++ ([p3] : List api_Entry)) (x := 680) (cell := api_Entry.cell) (d := default) rfl (li_ap (len_app (l := ([] : List api_Entry)) (k := p2) (n := 0) (m := p2.length) rfl rfl) rfl) ?_
                    refine And.intro ?_ ?_
                    · refine And.intro rfl ?_
                      refine FC.semT rfl rfl rfl (Nat.le_refl _) (FC.args (FrLes.cons (FrLe.refl _) (FrLes.cons (FrLe.fro (len_app (l := ([] : List api_Entry) ++ p2) (k := ([p3] : List api_Entry)) (n := 0 + p2.length) (m := 1) (len_app (l := ([] : List api_Entry)) (k := p2) (n := 0) (m := p2.length) rfl rfl) rfl) (fun _ _ _ _ => FrLe.refl _)) (FrLes.cons (FrLe.refl _) (FrLes.nil)))) (c49 hr90)) (Or.inr (Or.inl rfl)) ?_
                      refine ex_refl ?_
                      refine And.intro rfl ?_
                      exact Le.keep (live := [1, 7, 10, 11]) (names := [8, 416]) (nx := 760) rfl
                    · exact trivial
                  · exact trivial
                · exact trivial
              · exact trivial
            · exact trivial
        refine CWP.seq ?_
        obtain ⟨r91, hr91, h⟩ := Option.bind_eq_some_iff.1 h
        obtain ⟨hs92, h⟩ := ite_some h
        refine CWP.regionT ⟨[(8, .tst ((p3.With == (-1)) && ((r91 != 4) || ((decide (r90 ≥ 0)) && (decide (r90 ≤ ((p1.getD ((p0.Events.getD p3.Event.toNat default).Obj).toNat default).Num)))))))], [], 952⟩ ?_ ?_
        · refine And.intro (fun hg93 => ?_) (fun hg93 => ?_)
          · have hg93 : (p3.With == (-1)) = true := hg93
            refine FC.semT rfl rfl rfl trivial (c34 (ite_t hr91 (by simp only [hg93, sB, reduceIte]))) (Or.inl rfl) ?_
            refine ex_refl ?_
            refine And.intro (fun hg94 => ?_) (fun hg94 => ?_)
            · have hg94 : (r91 != 4) = false := hg94
              refine And.intro (fun hg95 => ?_) (fun hg95 => ?_)
              · have hg95 : (decide (r90 ≥ 0)) = true := hg95
                refine And.intro (hs92 (by simp only [hg93, hg94, hg95, sB, reduceIte]) (by simp only [hg93, hg94, hg95, sB, reduceIte]) (by simp only [hg93, hg94, hg95, sB, reduceIte])) ?_
                exact Le.trans (Le.rep (t := 8) rfl (RepLe.fr rfl (FrLe.tst2 (by simp only [hg93, hg94, hg95, sB, reduceIte])))) (Le.keep (live := [8]) (names := []) (nx := 952) rfl)
              · have hg95 : (decide (r90 ≥ 0)) = false := hg95
                exact Le.trans (Le.rep (t := 8) rfl (RepLe.fr rfl (FrLe.tst (by simp only [hg93, hg94, hg95, sB, reduceIte])))) (Le.keep (live := [8]) (names := []) (nx := 952) rfl)
            · have hg94 : (r91 != 4) = true := hg94
              exact Le.trans (Le.rep (t := 8) rfl (RepLe.fr rfl (FrLe.tst (by simp only [hg93, hg94, sB, reduceIte])))) (Le.keep (live := [8]) (names := []) (nx := 952) rfl)
          · have hg93 : (p3.With == (-1)) = false := hg93
            exact Le.trans (Le.rep (t := 8) rfl (RepLe.fr rfl (FrLe.tst (by simp only [hg93, sB, reduceIte])))) (Le.keep (live := [8]) (names := []) (nx := 952) rfl)
        refine CWP.ret ?_
        have e := Option.some.inj h
        subst e
        exact rfl
      · have h := ite_f h hc
        refine CWP.skip ?_
        refine CWP.seq ?_
        refine CWP.seq ?_
        refine CWP.regionT ⟨[(2, api_Entry.sl p2), (4, .ptr 0 0), (7, .ptr 8 0), (10, .ptr 416 0), (131, .tst ((((p0.Events.getD p3.Event.toNat default).Kind) != 9) || (decide (p3.With < 0))))], [(0, .box (api_Shape.cs p0)), (8, .box (api_Entry.cs p3)), (416, .box [I ((p0.Events.getD p3.Event.toNat default).Proc), I ((p0.Events.getD p3.Event.toNat default).Inst), I ((p0.Events.getD p3.Event.toNat default).Kind), I ((p0.Events.getD p3.Event.toNat default).Obj)])], 736⟩ ?_ ?_
        · refine And.intro (fun hg101 => ?_) (fun hg101 => ?_)
          · have hg101 : (((p0.Events.getD p3.Event.toNat default).Kind) != 9) = false := hg101
            exact Le.trans (Le.rep (t := 131) rfl (RepLe.fr rfl (FrLe.tst2 (by simp only [hg101, sB, reduceIte])))) (Le.keep (live := [2, 4, 7, 10, 131]) (names := [0, 8, 416]) (nx := 736) rfl)
          · have hg101 : (((p0.Events.getD p3.Event.toNat default).Kind) != 9) = true := hg101
            exact Le.trans (Le.rep (t := 131) rfl (RepLe.fr rfl (FrLe.tst (by simp only [hg101, sB, reduceIte])))) (Le.keep (live := [2, 4, 7, 10, 131]) (names := [0, 8, 416]) (nx := 736) rfl)
        refine CWP.cond (And.intro (fun hc => ?_) (fun hc => ?_))
        · have h := ite_t h hc
          refine CWP.seq ?_
          refine CWP.regionT ⟨[(8, .raw (.bool false))], [], 744⟩ ?_ ?_
          · exact Le.keep (live := [8]) (names := []) (nx := 744) rfl
          refine CWP.weaken (Le.rep (t := 8) rfl (RepLe.fr rfl (FrLe.tst rfl))) ?_
          refine CWP.ret ?_
          have e := Option.some.inj h
          subst e
          exact rfl
        · have h := ite_f h hc
          refine CWP.skip ?_
          refine CWP.seq ?_
          obtain ⟨hs96, h⟩ := ite_some h
          refine CWP.regionT ⟨[(2, api_Entry.sl p2), (4, .ptr 0 0), (7, .ptr 8 0), (10, .ptr 416 0), (12, .ptr 784 0)], [(0, .box (api_Shape.cs p0)), (8, .box (api_Entry.cs p3)), (416, .box [I ((p0.Events.getD p3.Event.toNat default).Proc), I ((p0.Events.getD p3.Event.toNat default).Inst), I ((p0.Events.getD p3.Event.toNat default).Kind), I ((p0.Events.getD p3.Event.toNat default).Obj)]), (784, .box [I ((p0.Events.getD p3.With.toNat default).Proc), I ((p0.Events.getD p3.With.toNat default).Inst), I ((p0.Events.getD p3.With.toNat default).Kind), I ((p0.Events.getD p3.With.toNat default).Obj)])], 800⟩ ?_ ?_
          · refine And.intro hs96 ?_
            refine SemOp.ofT ?_
            refine ex_refl ?_
            exact Le.keep (live := [2, 4, 7, 10, 12]) (names := [0, 8, 416, 784]) (nx := 800) rfl
          refine CWP.seq ?_
          obtain ⟨r97, hr97, h⟩ := Option.bind_eq_some_iff.1 h
          refine CWP.regionT ⟨[(8, .tst ((((((p0.Events.getD p3.With.toNat default).Kind) == 10) && (((p0.Events.getD p3.With.toNat default).Obj) == ((p0.Events.getD p3.Event.toNat default).Obj))) && (((p0.Events.getD p3.With.toNat default).Proc) != ((p0.Events.getD p3.Event.toNat default).Proc))) && r97))], [], 1000⟩ ?_ ?_
          · refine And.intro (fun hg98 => ?_) (fun hg98 => ?_)
            · have hg98 : (((p0.Events.getD p3.With.toNat default).Kind) == 10) = true := hg98
              refine And.intro (fun hg99 => ?_) (fun hg99 => ?_)
              · have hg99 : (((p0.Events.getD p3.With.toNat default).Obj) == ((p0.Events.getD p3.Event.toNat default).Obj)) = true := hg99
                refine And.intro (fun hg100 => ?_) (fun hg100 => ?_)
                · have hg100 : (((p0.Events.getD p3.With.toNat default).Proc) != ((p0.Events.getD p3.Event.toNat default).Proc)) = true := hg100
                  refine FC.semT rfl rfl rfl trivial (c46 (ite_t hr97 (by simp only [hg98, hg99, hg100, sB, reduceIte]))) (Or.inl rfl) ?_
                  refine ex_refl ?_
                  exact Le.trans (Le.rep (t := 8) rfl (RepLe.fr rfl (FrLe.tst2 (by simp only [hg98, hg99, hg100, sB, reduceIte])))) (Le.keep (live := [8]) (names := []) (nx := 1000) rfl)
                · have hg100 : (((p0.Events.getD p3.With.toNat default).Proc) != ((p0.Events.getD p3.Event.toNat default).Proc)) = false := hg100
                  exact Le.trans (Le.rep (t := 8) rfl (RepLe.fr rfl (FrLe.tst (by simp only [hg98, hg99, hg100, sB, reduceIte])))) (Le.keep (live := [8]) (names := []) (nx := 1000) rfl)
              · have hg99 : (((p0.Events.getD p3.With.toNat default).Obj) == ((p0.Events.getD p3.Event.toNat default).Obj)) = false := hg99
                exact Le.trans (Le.rep (t := 8) rfl (RepLe.fr rfl (FrLe.tst (by simp only [hg98, hg99, sB, reduceIte])))) (Le.keep (live := [8]) (names := []) (nx := 1000) rfl)
            · have hg98 : (((p0.Events.getD p3.With.toNat default).Kind) == 10) = false := hg98
              exact Le.trans (Le.rep (t := 8) rfl (RepLe.fr rfl (FrLe.tst (by simp only [hg98, sB, reduceIte])))) (Le.keep (live := [8]) (names := []) (nx := 1000) rfl)
          refine CWP.ret ?_
          have e := Option.some.inj h
          subst e
          exact rfl
theorem c36 {n : Nat} {p0 : api_Shape} {p1 : List api_Decl} {p2 : List api_Entry} {p3 : api_Entry} {r : Bool} (h : s36 n p0 p1 p2 p3 = some r) : FC Try.prog 36 [.agg (api_Shape.cs p0), api_Decl.sl p1, api_Entry.sl p2, .agg (api_Entry.cs p3)] (.tst r) [] false := FC.pureE (fn := Try.f36) (cc := code36) (res := .one 8) (by kernel_rfl) (by kernel_rfl) tr36 (by kernel_rfl) (Nat.le_of_ble_eq_true rfl) rfl (wf36 h)
end Go.AM
