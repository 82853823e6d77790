/- Part 5 of the proof. HbChecks holds: at every shape of events and every log the law answers true and leaves its arguments as they were. -/
import Derived.Test.YtomhajfgokkbfaaC74
set_option linter.unusedVariables false
set_option linter.unusedSimpArgs false
set_option maxHeartbeats 4000000
set_option maxRecDepth 20000
namespace Go.AM
open Go.RowKit Go.Proofs
def code39 : CCode :=
 (.seq
  (.region [⟨(some 5), (.box 3 (.tmp 2)), none⟩,
   ⟨(some 6), (.mv (.const (.bool false))), none⟩] none)
  (.seq
  (.seq
   (.region [⟨(some 10), (.fad 0 (.tmp 5)), none⟩,
    ⟨(some 11), (.load false 1 (.tmp 10)), none⟩,
    ⟨(some 12), (.bin 0 .lss (.tmp 11) (.const (.int .i64 0))), none⟩,
    ⟨(some 13), (.mv (.tmp 12)), none⟩,
    ⟨(some 14), (.fad 0 (.tmp 5)), (some (13, false))⟩,
    ⟨(some 15), (.load false 1 (.tmp 14)), (some (13, false))⟩,
    ⟨(some 16), (.mv (.tmp 0)), (some (13, false))⟩,
    ⟨(some 17), (.nilck (.tmp 16)), (some (13, false))⟩,
    ⟨(some 18), (.fad 0 (.tmp 17)), (some (13, false))⟩,
    ⟨(some 19), (.fad 0 (.tmp 18)), (some (13, false))⟩,
    ⟨(some 20), (.load false 1 (.tmp 19)), (some (13, false))⟩,
    ⟨(some 21), (.len 1 (.tmp 20)), (some (13, false))⟩,
    ⟨(some 22), (.bin 0 .geq (.tmp 15) (.tmp 21)), (some (13, false))⟩,
    ⟨(some 23), (.pick (.tmp 13) (.const (.bool true)) (.tmp 22)), none⟩,
    ⟨(some 24), (.mv (.tmp 23)), none⟩,
    ⟨(some 25), (.fad 1 (.tmp 5)), (some (24, false))⟩,
    ⟨(some 26), (.load false 1 (.tmp 25)), (some (24, false))⟩,
    ⟨(some 27), (.bin 0 .lss (.tmp 26) (.const (.int .i64 (-1)))), (some (24, false))⟩,
    ⟨(some 28), (.pick (.tmp 24) (.const (.bool true)) (.tmp 27)), none⟩,
    ⟨(some 29), (.mv (.tmp 28)), none⟩,
    ⟨(some 30), (.fad 1 (.tmp 5)), (some (29, false))⟩,
    ⟨(some 31), (.load false 1 (.tmp 30)), (some (29, false))⟩,
    ⟨(some 32), (.mv (.tmp 0)), (some (29, false))⟩,
    ⟨(some 33), (.nilck (.tmp 32)), (some (29, false))⟩,
    ⟨(some 34), (.fad 0 (.tmp 33)), (some (29, false))⟩,
    ⟨(some 35), (.fad 0 (.tmp 34)), (some (29, false))⟩,
    ⟨(some 36), (.load false 1 (.tmp 35)), (some (29, false))⟩,
    ⟨(some 37), (.len 1 (.tmp 36)), (some (29, false))⟩,
    ⟨(some 38), (.bin 0 .geq (.tmp 31) (.tmp 37)), (some (29, false))⟩,
    ⟨(some 39), (.pick (.tmp 29) (.const (.bool true)) (.tmp 38)), none⟩,
    ⟨(some 40), (.mv (.tmp 39)), none⟩,
    ⟨(some 41), (.fad 2 (.tmp 5)), (some (40, false))⟩,
    ⟨(some 42), (.load false 1 (.tmp 41)), (some (40, false))⟩,
    ⟨(some 43), (.bin 0 .lss (.tmp 42) (.const (.int .i64 (-1)))), (some (40, false))⟩,
    ⟨(some 44), (.pick (.tmp 40) (.const (.bool true)) (.tmp 43)), none⟩] (some (.take 0 (.take 1 (.take 2 (.take 3 (.take 4 (.take 5 (.take 6 (.take 7 (.take 8 (.take 9 (.take 10 (.take 11 (.take 12 (.take 13 (.take 14 (.take 15 (.take 16 (.take 17 (.take 18 (.take 19 (.take 20 (.take 21 (.take 22 (.take 23 (.take 24 (.take 25 (.take 26 (.take 27 (.take 28 (.take 29 (.take 30 (.take 31 (.take 32 (.take 33 (.take 34 .done)))))))))))))))))))))))))))))))))))))
   (.cond (.tmp 44)
   (.seq
    (.region [⟨(some 6), (.mv (.const (.bool false))), none⟩] none)
    .ret)
   .skip))
  (.seq
   (.region [⟨(some 45), (.mv (.tmp 0)), none⟩,
    ⟨(some 46), (.nilck (.tmp 45)), none⟩,
    ⟨(some 47), (.fad 0 (.tmp 46)), none⟩,
    ⟨(some 48), (.fad 0 (.tmp 47)), none⟩,
    ⟨(some 49), (.load false 1 (.tmp 48)), none⟩,
    ⟨(some 50), (.fad 0 (.tmp 5)), none⟩,
    ⟨(some 51), (.load false 1 (.tmp 50)), none⟩,
    ⟨(some 52), (.idx 4 (.tmp 49) (.tmp 51)), none⟩,
    ⟨(some 53), (.load true 4 (.tmp 52)), none⟩,
    ⟨(some 7), (.alloc [(.int .i64 0), (.int .i64 0), (.int .i64 0), (.int .i64 0)]), none⟩,
    ⟨none, (.store 4 (.tmp 7) (.tmp 53)), none⟩] (some (.take 0 (.take 1 (.take 2 (.take 3 (.take 4 (.take 5 (.take 6 (.take 7 (.take 8 (.alt 9 (.alt 10 .done .alt0) .alt0))))))))))))
   (.seq
   (.region [⟨(some 54), (.mv (.tmp 0)), none⟩,
    ⟨(some 55), (.fad 0 (.tmp 5)), none⟩,
    ⟨(some 56), (.load false 1 (.tmp 55)), none⟩,
    ⟨(some 57), (.call (.func 55) [(.tmp 54), (.tmp 56)]), none⟩,
    ⟨(some 8), (.mv (.tmp 57)), none⟩] none)
   (.seq
    (.seq
    (.region [⟨(some 58), (.mv (.tmp 8)), none⟩,
     ⟨(some 59), (.mv (.tmp 58)), none⟩,
     ⟨(some 60), (.fad 2 (.tmp 7)), (some (59, true))⟩,
     ⟨(some 61), (.load false 1 (.tmp 60)), (some (59, true))⟩,
     ⟨(some 62), (.bin 0 .eql (.tmp 61) (.const (.int .i64 10))), (some (59, true))⟩,
     ⟨(some 63), (.pick (.tmp 59) (.tmp 62) (.const (.bool false))), none⟩,
     ⟨(some 64), (.mv (.tmp 63)), none⟩,
     ⟨(some 65), (.mv (.tmp 8)), (some (64, false))⟩,
     ⟨(some 66), (.fad 1 (.tmp 5)), (some (64, false))⟩,
     ⟨(some 67), (.load false 1 (.tmp 66)), (some (64, false))⟩,
     ⟨(some 68), (.bin 0 .geq (.tmp 67) (.const (.int .i64 0))), (some (64, false))⟩,
     ⟨(some 69), (.bin 1 .neq (.tmp 65) (.tmp 68)), (some (64, false))⟩,
     ⟨(some 70), (.pick (.tmp 64) (.const (.bool true)) (.tmp 69)), none⟩] none)
    (.cond (.tmp 70)
     (.seq
     (.region [⟨(some 6), (.mv (.const (.bool false))), none⟩] none)
     .ret)
     .skip))
    (.seq
    (.seq
     (.region [⟨(some 71), (.fad 2 (.tmp 5)), none⟩,
      ⟨(some 72), (.load false 1 (.tmp 71)), none⟩,
      ⟨(some 73), (.bin 0 .geq (.tmp 72) (.const (.int .i64 0))), none⟩,
      ⟨(some 74), (.mv (.tmp 73)), none⟩,
      ⟨(some 75), (.fad 2 (.tmp 7)), (some (74, true))⟩,
      ⟨(some 76), (.load false 1 (.tmp 75)), (some (74, true))⟩,
      ⟨(some 77), (.bin 0 .eql (.tmp 76) (.const (.int .i64 10))), (some (74, true))⟩,
      ⟨(some 78), (.mv (.tmp 77)), (some (74, true))⟩,
      ⟨(some 79), (.mv (.tmp 0)), (some (78, false))⟩,
      ⟨(some 80), (.nilck (.tmp 79)), (some (78, false))⟩,
      ⟨(some 81), (.fad 0 (.tmp 80)), (some (78, false))⟩,
      ⟨(some 82), (.load true 2 (.tmp 81)), (some (78, false))⟩,
      ⟨(some 83), (.fad 0 (.tmp 5)), (some (78, false))⟩,
      ⟨(some 84), (.load false 1 (.tmp 83)), (some (78, false))⟩,
      ⟨(some 85), (.call (.func 57) [(.tmp 82), (.tmp 84)]), (some (78, false))⟩,
      ⟨(some 86), (.fad 2 (.tmp 5)), (some (78, false))⟩,
      ⟨(some 87), (.load false 1 (.tmp 86)), (some (78, false))⟩,
      ⟨(some 88), (.call (.func 56) [(.tmp 85), (.tmp 87)]), (some (78, false))⟩,
      ⟨(some 89), (.un .not (.tmp 88)), (some (78, false))⟩,
      ⟨(some 90), (.pick (.tmp 78) (.const (.bool true)) (.tmp 89)), (some (74, true))⟩,
      ⟨(some 91), (.mv (.tmp 90)), (some (74, true))⟩,
      ⟨(some 92), (.mv (.tmp 0)), (some (91, false))⟩,
      ⟨(some 93), (.nilck (.tmp 92)), (some (91, false))⟩,
      ⟨(some 94), (.fad 4 (.tmp 93)), (some (91, false))⟩,
      ⟨(some 95), (.load false 1 (.tmp 94)), (some (91, false))⟩,
      ⟨(some 96), (.fad 2 (.tmp 5)), (some (91, false))⟩,
      ⟨(some 97), (.load false 1 (.tmp 96)), (some (91, false))⟩,
      ⟨(some 98), (.idx 1 (.tmp 95) (.tmp 97)), (some (91, false))⟩,
      ⟨(some 99), (.load false 1 (.tmp 98)), (some (91, false))⟩,
      ⟨(some 100), (.bin 0 .eql (.tmp 99) (.const (.int .i64 0))), (some (91, false))⟩,
      ⟨(some 101), (.pick (.tmp 91) (.const (.bool true)) (.tmp 100)), (some (74, true))⟩,
      ⟨(some 102), (.pick (.tmp 74) (.tmp 101) (.const (.bool false))), none⟩] (some (.take 0 (.take 1 (.take 2 (.take 3 (.take 4 (.take 5 (.take 6 (.take 7 (.take 8 (.take 9 (.take 10 (.take 11 (.take 12 (.take 13 (.take 15 (.take 16 (.alt 14 (.alt 17 (.take 18 (.take 19 (.take 20 (.take 21 (.take 22 (.take 23 (.take 25 (.alt 24 (.alt 26 (.take 27 (.alt 28 (.take 29 (.take 30 (.take 31 .done))) .alt0)) .alt0) (.alt 26 (.alt 24 (.take 27 (.alt 28 (.take 29 (.take 30 (.take 31 .done))) .alt0)) .alt0) .alt0))))))))) .alt0) .alt0)))))))))))))))))))
     (.cond (.tmp 102)
     (.seq
      (.region [⟨(some 6), (.mv (.const (.bool false))), none⟩] none)
      .ret)
     .skip))
    (.seq
     (.seq
     (.region [⟨(some 103), (.mv (.tmp 0)), none⟩,
      ⟨(some 104), (.fad 0 (.tmp 5)), none⟩,
      ⟨(some 105), (.load false 1 (.tmp 104)), none⟩,
      ⟨(some 106), (.mv (.tmp 1)), none⟩,
      ⟨(some 107), (.call (.func 58) [(.tmp 103), (.tmp 105), (.tmp 106)]), none⟩,
      ⟨(some 108), (.un .not (.tmp 107)), none⟩] none)
     (.cond (.tmp 108)
      (.seq
      (.region [⟨(some 6), (.mv (.const (.bool false))), none⟩] none)
      .ret)
      .skip))
     (.seq
     (.seq
      (.region [⟨(some 109), (.mv (.tmp 8)), none⟩,
       ⟨(some 110), (.un .not (.tmp 109)), none⟩] none)
      (.cond (.tmp 110)
      (.seq
       (.region [⟨(some 111), (.mv (.tmp 0)), none⟩,
        ⟨(some 112), (.load true 4 (.tmp 7)), none⟩,
        ⟨(some 113), (.call (.func 59) [(.tmp 111), (.tmp 112)]), none⟩,
        ⟨(some 6), (.mv (.tmp 113)), none⟩] none)
       .ret)
      .skip))
     (.seq
      (.region [⟨(some 114), (.mv (.tmp 0)), none⟩,
       ⟨(some 115), (.nilck (.tmp 114)), none⟩,
       ⟨(some 116), (.fad 0 (.tmp 115)), none⟩,
       ⟨(some 117), (.fad 0 (.tmp 116)), none⟩,
       ⟨(some 118), (.load false 1 (.tmp 117)), none⟩,
       ⟨(some 119), (.fad 1 (.tmp 5)), none⟩,
       ⟨(some 120), (.load false 1 (.tmp 119)), none⟩,
       ⟨(some 121), (.idx 4 (.tmp 118) (.tmp 120)), none⟩,
       ⟨(some 122), (.load true 4 (.tmp 121)), none⟩,
       ⟨(some 9), (.alloc [(.int .i64 0), (.int .i64 0), (.int .i64 0), (.int .i64 0)]), none⟩,
       ⟨none, (.store 4 (.tmp 9) (.tmp 122)), none⟩] (some (.take 0 (.take 1 (.take 2 (.take 3 (.take 4 (.take 5 (.take 6 (.take 7 (.take 8 (.alt 9 (.alt 10 .done .alt0) .alt0))))))))))))
      (.seq
      (.region [⟨(some 123), (.fad 2 (.tmp 9)), none⟩,
       ⟨(some 124), (.load false 1 (.tmp 123)), none⟩,
       ⟨(some 125), (.bin 0 .eql (.tmp 124) (.const (.int .i64 10))), none⟩,
       ⟨(some 126), (.mv (.tmp 125)), none⟩,
       ⟨(some 127), (.fad 3 (.tmp 9)), (some (126, true))⟩,
       ⟨(some 128), (.load false 1 (.tmp 127)), (some (126, true))⟩,
       ⟨(some 129), (.fad 3 (.tmp 7)), (some (126, true))⟩,
       ⟨(some 130), (.load false 1 (.tmp 129)), (some (126, true))⟩,
       ⟨(some 131), (.bin 0 .eql (.tmp 128) (.tmp 130)), (some (126, true))⟩,
       ⟨(some 132), (.pick (.tmp 126) (.tmp 131) (.const (.bool false))), none⟩,
       ⟨(some 133), (.mv (.tmp 132)), none⟩,
       ⟨(some 134), (.fad 0 (.tmp 9)), (some (133, true))⟩,
       ⟨(some 135), (.load false 1 (.tmp 134)), (some (133, true))⟩,
       ⟨(some 136), (.fad 0 (.tmp 7)), (some (133, true))⟩,
       ⟨(some 137), (.load false 1 (.tmp 136)), (some (133, true))⟩,
       ⟨(some 138), (.bin 0 .neq (.tmp 135) (.tmp 137)), (some (133, true))⟩,
       ⟨(some 139), (.pick (.tmp 133) (.tmp 138) (.const (.bool false))), none⟩,
       ⟨(some 140), (.mv (.tmp 139)), none⟩,
       ⟨(some 141), (.mv (.tmp 0)), (some (140, true))⟩,
       ⟨(some 142), (.fad 1 (.tmp 5)), (some (140, true))⟩,
       ⟨(some 143), (.load false 1 (.tmp 142)), (some (140, true))⟩,
       ⟨(some 144), (.mv (.tmp 1)), (some (140, true))⟩,
       ⟨(some 145), (.call (.func 58) [(.tmp 141), (.tmp 143), (.tmp 144)]), (some (140, true))⟩,
       ⟨(some 146), (.pick (.tmp 140) (.tmp 145) (.const (.bool false))), none⟩,
       ⟨(some 6), (.mv (.tmp 146)), none⟩] none)
      .ret))))))))))
theorem tr39 : (Try.f39.body).bind (trCode Try.prog Try.f39.ntmps) = some code39 := by kernel_rfl
def s39_P59ffffoqdd (n : Nat) (p0 : hb_log) (p1 : Int) (p2 : api_Entry) : Option (Bool × hb_log) :=
  if ((((decide (p2.Event < 0)) || (decide (p2.Event ≥ (p0.s.Events.length : Int)))) || (decide (p2.With < (-1)))) || (decide (p2.With ≥ (p0.s.Events.length : Int)))) || (decide (p2.From < (-1))) then
    some (false, p0)
  else
    if 0 ≤ p2.Event ∧ p2.Event < (p0.s.Events.length : Int) then
      (s55_fp59d n p0 p2.Event).bind fun r131 =>
      if (r131 && (((p0.s.Events.getD p2.Event.toNat default).Kind) == 10)) || (!(r131 == (decide (p2.With ≥ 0)))) then
        some (false, p0)
      else
        (if (decide (p2.From ≥ 0)) && !(((p0.s.Events.getD p2.Event.toNat default).Kind) == 10) then s57 n p0.s p2.Event else some default).bind fun r132 =>
        (if (decide (p2.From ≥ 0)) && !(((p0.s.Events.getD p2.Event.toNat default).Kind) == 10) then s56 n r132 p2.From else some false).bind fun r133 =>
        if (decide (p2.From ≥ 0)) = true → ((((p0.s.Events.getD p2.Event.toNat default).Kind) == 10) || !r133) = false → 0 ≤ p2.From ∧ p2.From < (p0.at_.length : Int) then
          if (decide (p2.From ≥ 0)) && (((((p0.s.Events.getD p2.Event.toNat default).Kind) == 10) || !r133) || ((p0.at_.getD p2.From.toNat 0) == 0)) then
            some (false, p0)
          else
            (s58_P59ffffoqdd n p0 p2.Event p1).bind fun r135 =>
            if !r135.1 then
              some (false, r135.2)
            else
              if !r131 then
                (s59_P59ffffoqd n r135.2 (p0.s.Events.getD p2.Event.toNat default)).bind fun r136 =>
                some (r136.1, r136.2)
              else
                if 0 ≤ p2.With ∧ p2.With < (r135.2.s.Events.length : Int) then
                  (if (((((r135.2.s.Events.getD p2.With.toNat default).Kind) == 10) && (((r135.2.s.Events.getD p2.With.toNat default).Obj) == ((p0.s.Events.getD p2.Event.toNat default).Obj))) && (((r135.2.s.Events.getD p2.With.toNat default).Proc) != ((p0.s.Events.getD p2.Event.toNat default).Proc))) then s58_P59ffffoqdd n r135.2 p2.With p1 else some (default, r135.2)).bind fun r138 =>
                  some ((((((r135.2.s.Events.getD p2.With.toNat default).Kind) == 10) && (((r135.2.s.Events.getD p2.With.toNat default).Obj) == ((p0.s.Events.getD p2.Event.toNat default).Obj))) && (((r135.2.s.Events.getD p2.With.toNat default).Proc) != ((p0.s.Events.getD p2.Event.toNat default).Proc))) && r138.1, r138.2)
                else none
        else none
    else none
def E39_P59ffffoqdd (β : Name → Option Nat) (r : Bool × hb_log) (s : AS) : Prop := resOf s (.one 6) = some (.tst r.1) ∧ EndSt [(0, 0), (1, 1), (2, 2)] s.st [(0, .box (hb_log.co r.2 1 2)), (1, .li 1 cI 0 r.2.at_), (2, .mapI r.2.in_)] ∧ PinEnd β s.st [(3, 0)]
theorem wf39_P59ffffoqdd {n : Nat} {β : Name → Option Nat} {p0 : hb_log} {p1 : Int} {p2 : api_Entry} {r : Bool × hb_log} (h : s39_P59ffffoqdd n p0 p1 p2 = some r) : CWP Try.prog Try.f39.ntmps code39 (AtE (E39_P59ffffoqdd β r)) ⟨[(0, .ptr 0 0), (1, I p1), (2, .agg (api_Entry.cs p2))], [(0, .box (hb_log.co p0 1 2)), (1, .li 1 cI 0 p0.at_), (2, .mapI p0.in_), (3, .pin 0 (β 0))], 4⟩ := by
  unfold s39_P59ffffoqdd at h
  refine CWP.seq ?_
  refine CWP.regionT ⟨[(0, .ptr 0 0), (1, I p1), (5, .ptr 4 0)], [(0, .box (hb_log.co p0 1 2)), (1, .li 1 cI 0 p0.at_), (2, .mapI p0.in_), (3, .pin 0 (β 0)), (4, .box (api_Entry.cs p2))], 20⟩ ?_ ?_
  · exact Le.keep (live := [0, 1, 5]) (names := [0, 1, 2, 3, 4]) (nx := 20) rfl
  refine CWP.seq ?_
  refine CWP.seq ?_
  refine CWP.drawT [] [] ⟨[(0, .ptr 0 0), (1, I p1), (5, .ptr 4 0), (44, .tst (((((decide (p2.Event < 0)) || (decide (p2.Event ≥ (p0.s.Events.length : Int)))) || (decide (p2.With < (-1)))) || (decide (p2.With ≥ (p0.s.Events.length : Int)))) || (decide (p2.From < (-1)))))], [(0, .box (hb_log.co p0 1 2)), (1, .li 1 cI 0 p0.at_), (2, .mapI p0.in_), (3, .pin 0 (β 0)), (4, .box (api_Entry.cs p2))], 300⟩ ?_ ?_
  · refine And.intro rfl ?_
    iterate 3 refine And.intro rfl ?_
    refine And.intro (fun hg147 => ?_) (fun hg147 => ?_)
    · have hg147 : (decide (p2.Event < 0)) = false := hg147
      iterate 11 refine And.intro rfl ?_
      refine And.intro (fun hg148 => ?_) (fun hg148 => ?_)
      · have hg148 : (decide (p2.Event ≥ (p0.s.Events.length : Int))) = false := hg148
        iterate 5 refine And.intro rfl ?_
        refine And.intro (fun hg149 => ?_) (fun hg149 => ?_)
        · have hg149 : (decide (p2.With < (-1))) = false := hg149
          iterate 11 refine And.intro rfl ?_
          refine And.intro (fun hg150 => ?_) (fun hg150 => ?_)
          · have hg150 : (decide (p2.With ≥ (p0.s.Events.length : Int))) = false := hg150
            iterate 4 refine And.intro rfl ?_
            exact Le.trans (Le.rep (t := 44) rfl (RepLe.fr rfl (FrLe.tst2 (by simp only [hg147, hg148, hg149, hg150, sB, reduceIte])))) (Le.keep (live := [0, 1, 5, 44]) (names := [0, 1, 2, 3, 4]) (nx := 300) rfl)
          · have hg150 : (decide (p2.With ≥ (p0.s.Events.length : Int))) = true := hg150
            refine And.intro rfl ?_
            exact Le.trans (Le.rep (t := 44) rfl (RepLe.fr rfl (FrLe.tst (by simp only [hg147, hg148, hg149, hg150, sB, reduceIte])))) (Le.keep (live := [0, 1, 5, 44]) (names := [0, 1, 2, 3, 4]) (nx := 300) rfl)
        · have hg149 : (decide (p2.With < (-1))) = true := hg149
          iterate 3 refine And.intro rfl ?_
          exact Le.trans (Le.rep (t := 44) rfl (RepLe.fr rfl (FrLe.tst (by simp only [hg147, hg148, hg149, sB, reduceIte])))) (Le.keep (live := [0, 1, 5, 44]) (names := [0, 1, 2, 3, 4]) (nx := 300) rfl)
      · have hg148 : (decide (p2.Event ≥ (p0.s.Events.length : Int))) = true := hg148
        iterate 5 refine And.intro rfl ?_
        exact Le.trans (Le.rep (t := 44) rfl (RepLe.fr rfl (FrLe.tst (by simp only [hg147, hg148, sB, reduceIte])))) (Le.keep (live := [0, 1, 5, 44]) (names := [0, 1, 2, 3, 4]) (nx := 300) rfl)
    · have hg147 : (decide (p2.Event < 0)) = true := hg147
      iterate 7 refine And.intro rfl ?_
      exact Le.trans (Le.rep (t := 44) rfl (RepLe.fr rfl (FrLe.tst (by simp only [hg147, sB, reduceIte])))) (Le.keep (live := [0, 1, 5, 44]) (names := [0, 1, 2, 3, 4]) (nx := 300) rfl)
  refine CWP.cond (And.intro (fun hc => ?_) (fun hc => ?_))
  · have h := ite_t h hc
    refine CWP.seq ?_
    refine CWP.regionT ⟨[(6, .raw (.bool false))], [(0, .box (hb_log.co p0 1 2)), (1, .li 1 cI 0 p0.at_), (2, .mapI p0.in_), (3, .pin 0 (β 0))], 308⟩ ?_ ?_
    · exact Le.keep (live := [6]) (names := [0, 1, 2, 3]) (nx := 308) rfl
    refine CWP.weaken (s' := ⟨[(6, .tst false)], [(0, .box (hb_log.co p0 1 2)), (1, .li 1 cI 0 p0.at_), (2, .mapI p0.in_), (3, .pin 0 (β 0))], 4⟩) (Le.trans (Le.rep (t := 6) rfl (RepLe.fr rfl (FrLe.tst rfl))) (Le.keep (live := [6]) (names := [0, 1, 2, 3]) (nx := 4) rfl)) ?_
    refine CWP.ret ?_
    have e := Option.some.inj h
    subst e
    exact ⟨rfl, ⟨⟨_, rfl, rfl⟩, ⟨_, rfl, rfl⟩, ⟨_, rfl, rfl⟩, trivial⟩, ⟨rfl, trivial⟩⟩
  · have h := ite_f h hc
    refine CWP.skip ?_
    refine CWP.seq ?_
    obtain ⟨hs130, h⟩ := ite_some h
    refine CWP.drawT [] [] ⟨[(0, .ptr 0 0), (1, I p1), (5, .ptr 4 0), (7, .ptr 372 0)], [(0, .box (hb_log.co p0 1 2)), (1, .li 1 cI 0 p0.at_), (2, .mapI p0.in_), (3, .pin 0 (β 0)), (4, .box (api_Entry.cs p2)), (372, .box [I ((p0.s.Events.getD p2.Event.toNat default).Proc), I ((p0.s.Events.getD p2.Event.toNat default).Inst), I ((p0.s.Events.getD p2.Event.toNat default).Kind), I ((p0.s.Events.getD p2.Event.toNat default).Obj)])], 388⟩ ?_ ?_
    · refine And.intro rfl ?_
      iterate 7 refine And.intro rfl ?_
      refine And.intro hs130 ?_
      refine And.intro rfl ?_
      refine And.intro ?_ ?_
      · refine And.intro rfl ?_
        refine And.intro ?_ ?_
        · refine And.intro rfl ?_
          refine SemOp.ofD rfl ?_
          refine ex_refl ?_
          exact Le.keep (live := [0, 1, 5, 7]) (names := [0, 1, 2, 3, 4, 372]) (nx := 388) rfl
        · exact trivial
      · exact trivial
    refine CWP.seq ?_
    obtain ⟨r131, hr131, h⟩ := Option.bind_eq_some_iff.1 h
    refine CWP.regionT ⟨[(0, .ptr 0 0), (1, I p1), (5, .ptr 4 0), (7, .ptr 372 0), (8, .tst r131)], [(0, .box (hb_log.co p0 1 2)), (1, .li 1 cI 0 p0.at_), (2, .mapI p0.in_), (3, .pin 0 (β 0)), (4, .box (api_Entry.cs p2)), (372, .box [I ((p0.s.Events.getD p2.Event.toNat default).Proc), I ((p0.s.Events.getD p2.Event.toNat default).Inst), I ((p0.s.Events.getD p2.Event.toNat default).Kind), I ((p0.s.Events.getD p2.Event.toNat default).Obj)])], 428⟩ ?_ ?_
    · refine FC.semT rfl rfl rfl (Nat.le_refl _) (FC.args (FrLes.cons (FrLe.fpt (fun i hi => match i, hi with | 0, _ => FrLe.refl _ | 1, _ => FrLe.refl _ | 2, _ => FrLe.refl _ | 3, _ => FrLe.refl _ | 4, _ => FrLe.refl _ | 5, _ => FrLe.refl _ | _ + 6, h => absurd h (by simp))) (FrLes.cons (FrLe.refl _) (FrLes.nil))) (c55_fp59d hr131)) (Or.inr (Or.inl rfl)) ?_
      refine ex_refl ?_
      exact Le.keep (live := [0, 1, 5, 7, 8]) (names := [0, 1, 2, 3, 4, 372]) (nx := 428) rfl
    refine CWP.seq ?_
    refine CWP.seq ?_
    refine CWP.regionT ⟨[(0, .ptr 0 0), (1, I p1), (5, .ptr 4 0), (7, .ptr 372 0), (8, .tst r131), (70, .tst ((r131 && (((p0.s.Events.getD p2.Event.toNat default).Kind) == 10)) || (!(r131 == (decide (p2.With ≥ 0))))))], [(0, .box (hb_log.co p0 1 2)), (1, .li 1 cI 0 p0.at_), (2, .mapI p0.in_), (3, .pin 0 (β 0)), (4, .box (api_Entry.cs p2)), (372, .box [I ((p0.s.Events.getD p2.Event.toNat default).Proc), I ((p0.s.Events.getD p2.Event.toNat default).Inst), I ((p0.s.Events.getD p2.Event.toNat default).Kind), I ((p0.s.Events.getD p2.Event.toNat default).Obj)])], 532⟩ ?_ ?_
    · refine And.intro (fun hg145 => ?_) (fun hg145 => ?_)
      · have hg145 : (r131) = true := hg145
        refine And.intro (fun hg146 => ?_) (fun hg146 => ?_)
        · have hg146 : (((p0.s.Events.getD p2.Event.toNat default).Kind) == 10) = false := hg146
          exact Le.trans (Le.rep (t := 70) rfl (RepLe.fr rfl (FrLe.tst2 (by simp only [hg145, hg146, sB, reduceIte])))) (Le.keep (live := [0, 1, 5, 7, 8, 70]) (names := [0, 1, 2, 3, 4, 372]) (nx := 532) rfl)
        · have hg146 : (((p0.s.Events.getD p2.Event.toNat default).Kind) == 10) = true := hg146
          exact Le.trans (Le.rep (t := 70) rfl (RepLe.fr rfl (FrLe.tst (by simp only [hg145, hg146, sB, reduceIte])))) (Le.keep (live := [0, 1, 5, 7, 8, 70]) (names := [0, 1, 2, 3, 4, 372]) (nx := 532) rfl)
      · have hg145 : (r131) = false := hg145
        exact Le.trans (Le.rep (t := 70) rfl (RepLe.fr rfl (FrLe.tst2 (by simp only [hg145, sB, reduceIte])))) (Le.keep (live := [0, 1, 5, 7, 8, 70]) (names := [0, 1, 2, 3, 4, 372]) (nx := 532) rfl)
    refine CWP.cond (And.intro (fun hc => ?_) (fun hc => ?_))
    · have h := ite_t h hc
      refine CWP.seq ?_
      refine CWP.regionT ⟨[(6, .raw (.bool false))], [(0, .box (hb_log.co p0 1 2)), (1, .li 1 cI 0 p0.at_), (2, .mapI p0.in_), (3, .pin 0 (β 0))], 540⟩ ?_ ?_
      · exact Le.keep (live := [6]) (names := [0, 1, 2, 3]) (nx := 540) rfl
      refine CWP.weaken (s' := ⟨[(6, .tst false)], [(0, .box (hb_log.co p0 1 2)), (1, .li 1 cI 0 p0.at_), (2, .mapI p0.in_), (3, .pin 0 (β 0))], 4⟩) (Le.trans (Le.rep (t := 6) rfl (RepLe.fr rfl (FrLe.tst rfl))) (Le.keep (live := [6]) (names := [0, 1, 2, 3]) (nx := 4) rfl)) ?_
      refine CWP.ret ?_
      have e := Option.some.inj h
      subst e
      exact ⟨rfl, ⟨⟨_, rfl, rfl⟩, ⟨_, rfl, rfl⟩, ⟨_, rfl, rfl⟩, trivial⟩, ⟨rfl, trivial⟩⟩
    · have h := ite_f h hc
      refine CWP.skip ?_
      refine CWP.seq ?_
      refine CWP.seq ?_
      obtain ⟨r132, hr132, h⟩ := Option.bind_eq_some_iff.1 h
      obtain ⟨r133, hr133, h⟩ := Option.bind_eq_some_iff.1 h
      obtain ⟨hs134, h⟩ := ite_some h
      refine CWP.drawT [] [] ⟨[(0, .ptr 0 0), (1, I p1), (5, .ptr 4 0), (7, .ptr 372 0), (8, .tst r131), (102, .tst ((decide (p2.From ≥ 0)) && (((((p0.s.Events.getD p2.Event.toNat default).Kind) == 10) || !r133) || ((p0.at_.getD p2.From.toNat 0) == 0))))], [(0, .box (hb_log.co p0 1 2)), (1, .li 1 cI 0 p0.at_), (2, .mapI p0.in_), (3, .pin 0 (β 0)), (4, .box (api_Entry.cs p2)), (372, .box [I ((p0.s.Events.getD p2.Event.toNat default).Proc), I ((p0.s.Events.getD p2.Event.toNat default).Inst), I ((p0.s.Events.getD p2.Event.toNat default).Kind), I ((p0.s.Events.getD p2.Event.toNat default).Obj)])], 788⟩ ?_ ?_
      · refine And.intro rfl ?_
        iterate 3 refine And.intro rfl ?_
        refine And.intro (fun hg142 => ?_) (fun hg142 => ?_)
        · have hg142 : (decide (p2.From ≥ 0)) = true := hg142
          iterate 4 refine And.intro rfl ?_
          refine And.intro (fun hg143 => ?_) (fun hg143 => ?_)
          · have hg143 : (((p0.s.Events.getD p2.Event.toNat default).Kind) == 10) = false := hg143
            iterate 8 refine And.intro rfl ?_
            refine And.intro ?_ ?_
            · refine And.intro rfl ?_
              refine FC.semT rfl rfl rfl trivial (c57 (ite_t hr132 (by simp only [hg142, hg143, sB, reduceIte]))) (Or.inl rfl) ?_
              refine ex_refl ?_
              refine And.intro ?_ ?_
              · refine And.intro rfl ?_
                refine FC.semT rfl rfl rfl (Nat.le_refl _) (c56 (ite_t hr133 (by simp only [hg142, hg143, sB, reduceIte]))) (Or.inr (Or.inl rfl)) ?_
                refine ex_refl ?_
                iterate 3 refine And.intro rfl ?_
                refine And.intro (fun hg144 => ?_) (fun hg144 => ?_)
                · have hg144 : (!r133) = false := hg144
                  iterate 4 refine And.intro rfl ?_
                  refine And.intro ?_ ?_
                  · refine And.intro rfl ?_
                    refine And.intro ?_ ?_
                    · refine And.intro rfl ?_
                      refine And.intro rfl ?_
                      refine And.intro (hs134 (by simp only [hg142, hg143, hg144, sB, reduceIte]) (by simp only [hg142, hg143, hg144, sB, reduceIte])) ?_
                      refine And.intro ?_ ?_
                      · refine And.intro rfl ?_
                        refine And.intro (idx_lt (hs134 (by simp only [hg142, hg143, hg144, sB, reduceIte]) (by simp only [hg142, hg143, hg144, sB, reduceIte]))) ?_
                        iterate 3 refine And.intro rfl ?_
                        exact Le.trans (Le.rep (t := 102) rfl (RepLe.fr rfl (FrLe.tst2 (by simp only [hg142, hg143, hg144, sB, reduceIte])))) (Le.keep (live := [0, 1, 5, 7, 8, 102]) (names := [0, 1, 2, 3, 4, 372]) (nx := 788) rfl)
                      · exact trivial
                    · exact trivial
                  · refine And.intro ?_ ?_
                    · refine And.intro rfl ?_
                      refine And.intro ?_ ?_
                      · refine And.intro rfl ?_
                        refine And.intro rfl ?_
                        refine And.intro (hs134 (by simp only [hg142, hg143, hg144, sB, reduceIte]) (by simp only [hg142, hg143, hg144, sB, reduceIte])) ?_
                        refine And.intro ?_ ?_
                        · refine And.intro rfl ?_
                          refine And.intro (idx_lt (hs134 (by simp only [hg142, hg143, hg144, sB, reduceIte]) (by simp only [hg142, hg143, hg144, sB, reduceIte]))) ?_
                          iterate 3 refine And.intro rfl ?_
                          exact Le.trans (Le.rep (t := 102) rfl (RepLe.fr rfl (FrLe.tst2 (by simp only [hg142, hg143, hg144, sB, reduceIte])))) (Le.keep (live := [0, 1, 5, 7, 8, 102]) (names := [0, 1, 2, 3, 4, 372]) (nx := 788) rfl)
                        · exact trivial
                      · exact trivial
                    · exact trivial
                · have hg144 : (!r133) = true := hg144
                  refine And.intro ?_ ?_
                  · refine And.intro ?_ ?_
                    · refine And.intro ?_ ?_
                      · refine And.intro rfl ?_
                        refine And.intro rfl ?_
                        exact Le.trans (Le.rep (t := 102) rfl (RepLe.fr rfl (FrLe.tst (by simp only [hg142, hg143, hg144, sB, reduceIte])))) (Le.keep (live := [0, 1, 5, 7, 8, 102]) (names := [0, 1, 2, 3, 4, 372]) (nx := 788) rfl)
                      · exact trivial
                    · exact trivial
                  · refine And.intro ?_ ?_
                    · refine And.intro ?_ ?_
                      · refine And.intro ?_ ?_
                        · refine And.intro rfl ?_
                          refine And.intro rfl ?_
                          exact Le.trans (Le.rep (t := 102) rfl (RepLe.fr rfl (FrLe.tst (by simp only [hg142, hg143, hg144, sB, reduceIte])))) (Le.keep (live := [0, 1, 5, 7, 8, 102]) (names := [0, 1, 2, 3, 4, 372]) (nx := 788) rfl)
                        · exact trivial
                      · exact trivial
                    · exact trivial
              · exact trivial
            · exact trivial
          · have hg143 : (((p0.s.Events.getD p2.Event.toNat default).Kind) == 10) = true := hg143
            refine And.intro ?_ ?_
            · refine And.intro ?_ ?_
              · refine And.intro rfl ?_
                refine And.intro rfl ?_
                refine And.intro ?_ ?_
                · refine And.intro ?_ ?_
                  · refine And.intro ?_ ?_
                    · refine And.intro rfl ?_
                      refine And.intro rfl ?_
                      exact Le.trans (Le.rep (t := 102) rfl (RepLe.fr rfl (FrLe.tst (by simp only [hg142, hg143, sB, reduceIte])))) (Le.keep (live := [0, 1, 5, 7, 8, 102]) (names := [0, 1, 2, 3, 4, 372]) (nx := 788) rfl)
                    · exact trivial
                  · exact trivial
                · refine And.intro ?_ ?_
                  · refine And.intro ?_ ?_
                    · refine And.intro ?_ ?_
                      · refine And.intro rfl ?_
                        refine And.intro rfl ?_
                        exact Le.trans (Le.rep (t := 102) rfl (RepLe.fr rfl (FrLe.tst (by simp only [hg142, hg143, sB, reduceIte])))) (Le.keep (live := [0, 1, 5, 7, 8, 102]) (names := [0, 1, 2, 3, 4, 372]) (nx := 788) rfl)
                      · exact trivial
                    · exact trivial
                  · exact trivial
              · exact trivial
            · exact trivial
        · have hg142 : (decide (p2.From ≥ 0)) = false := hg142
          refine And.intro ?_ ?_
          · refine And.intro ?_ ?_
            · refine And.intro ?_ ?_
              · refine And.intro ?_ ?_
                · refine And.intro ?_ ?_
                  · refine And.intro rfl ?_
                    exact Le.trans (Le.rep (t := 102) rfl (RepLe.fr rfl (FrLe.tst (by simp only [hg142, sB, reduceIte])))) (Le.keep (live := [0, 1, 5, 7, 8, 102]) (names := [0, 1, 2, 3, 4, 372]) (nx := 788) rfl)
                  · exact trivial
                · exact trivial
              · refine And.intro ?_ ?_
                · refine And.intro ?_ ?_
                  · refine And.intro ?_ ?_
                    · refine And.intro rfl ?_
                      exact Le.trans (Le.rep (t := 102) rfl (RepLe.fr rfl (FrLe.tst (by simp only [hg142, sB, reduceIte])))) (Le.keep (live := [0, 1, 5, 7, 8, 102]) (names := [0, 1, 2, 3, 4, 372]) (nx := 788) rfl)
                    · exact trivial
                  · exact trivial
                · exact trivial
            · exact trivial
          · exact trivial
      refine CWP.cond (And.intro (fun hc => ?_) (fun hc => ?_))
      · have h := ite_t h hc
        refine CWP.seq ?_
        refine CWP.regionT ⟨[(6, .raw (.bool false))], [(0, .box (hb_log.co p0 1 2)), (1, .li 1 cI 0 p0.at_), (2, .mapI p0.in_), (3, .pin 0 (β 0))], 796⟩ ?_ ?_
        · exact Le.keep (live := [6]) (names := [0, 1, 2, 3]) (nx := 796) rfl
        refine CWP.weaken (s' := ⟨[(6, .tst false)], [(0, .box (hb_log.co p0 1 2)), (1, .li 1 cI 0 p0.at_), (2, .mapI p0.in_), (3, .pin 0 (β 0))], 4⟩) (Le.trans (Le.rep (t := 6) rfl (RepLe.fr rfl (FrLe.tst rfl))) (Le.keep (live := [6]) (names := [0, 1, 2, 3]) (nx := 4) rfl)) ?_
        refine CWP.ret ?_
        have e := Option.some.inj h
        subst e
        exact ⟨rfl, ⟨⟨_, rfl, rfl⟩, ⟨_, rfl, rfl⟩, ⟨_, rfl, rfl⟩, trivial⟩, ⟨rfl, trivial⟩⟩
      · have h := ite_f h hc
        refine CWP.skip ?_
        refine CWP.seq ?_
        refine CWP.seq ?_
        obtain ⟨r135, hr135, h⟩ := Option.bind_eq_some_iff.1 h
        refine CWP.regionT ⟨[(0, .ptr 0 0), (1, I p1), (5, .ptr 4 0), (7, .ptr 372 0), (8, .tst r131), (108, .tst !r135.1)], [(0, .box (hb_log.co r135.2 1 2)), (1, .li 1 cI 0 r135.2.at_), (2, .mapI r135.2.in_), (3, .pin 0 (β 0)), (4, .box (api_Entry.cs p2)), (372, .box [I ((p0.s.Events.getD p2.Event.toNat default).Proc), I ((p0.s.Events.getD p2.Event.toNat default).Inst), I ((p0.s.Events.getD p2.Event.toNat default).Kind), I ((p0.s.Events.getD p2.Event.toNat default).Obj)])], 836⟩ ?_ ?_
        · refine SemOp.post (SemOp.call rfl rfl (RC.callOk 4 [(0, 0), (1, 1), (2, 2)] (c58_P59ffffoqdd hr135) (RepLes.refl _) ⟨⟨_, _, rfl, rfl, BlkLe.refl _⟩, ⟨_, _, rfl, rfl, BlkLe.refl _⟩, ⟨_, _, rfl, rfl, BlkLe.refl _⟩, trivial⟩ rfl wrT ?_))
          refine Exists.intro ⟨[(0, .ptr 0 0), (1, I p1), (5, .ptr 4 0), (7, .ptr 372 0), (8, .tst r131), (102, .tst ((decide (p2.From ≥ 0)) && (((((p0.s.Events.getD p2.Event.toNat default).Kind) == 10) || !r133) || ((p0.at_.getD p2.From.toNat 0) == 0)))), (103, .ptr 0 0), (104, .ptr 4 0), (105, I p2.Event), (106, I p1), (107, .tst r135.1)], [(0, .box (hb_log.co r135.2 1 2)), (1, .li 1 cI 0 r135.2.at_), (2, .mapI r135.2.in_), (3, .pin 0 (β 0)), (4, .box (api_Entry.cs p2)), (372, .box [I ((p0.s.Events.getD p2.Event.toNat default).Proc), I ((p0.s.Events.getD p2.Event.toNat default).Inst), I ((p0.s.Events.getD p2.Event.toNat default).Kind), I ((p0.s.Events.getD p2.Event.toNat default).Obj)])], 788⟩ (And.intro (LeM.refl _) ?_)
          exact Le.keep (live := [0, 1, 5, 7, 8, 108]) (names := [0, 1, 2, 3, 4, 372]) (nx := 836) rfl
        refine CWP.cond (And.intro (fun hc => ?_) (fun hc => ?_))
        · have h := ite_t h hc
          refine CWP.seq ?_
          refine CWP.regionT ⟨[(6, .raw (.bool false))], [(0, .box (hb_log.co r135.2 1 2)), (1, .li 1 cI 0 r135.2.at_), (2, .mapI r135.2.in_), (3, .pin 0 (β 0))], 844⟩ ?_ ?_
          · exact Le.keep (live := [6]) (names := [0, 1, 2, 3]) (nx := 844) rfl
          refine CWP.weaken (s' := ⟨[(6, .tst false)], [(0, .box (hb_log.co r135.2 1 2)), (1, .li 1 cI 0 r135.2.at_), (2, .mapI r135.2.in_), (3, .pin 0 (β 0))], 4⟩) (Le.trans (Le.rep (t := 6) rfl (RepLe.fr rfl (FrLe.tst rfl))) (Le.keep (live := [6]) (names := [0, 1, 2, 3]) (nx := 4) rfl)) ?_
          refine CWP.ret ?_
          have e := Option.some.inj h
          subst e
          exact ⟨rfl, ⟨⟨_, rfl, rfl⟩, ⟨_, rfl, rfl⟩, ⟨_, rfl, rfl⟩, trivial⟩, ⟨rfl, trivial⟩⟩
        · have h := ite_f h hc
          refine CWP.skip ?_
          refine CWP.seq ?_
          refine CWP.seq ?_
          refine CWP.regionT ⟨[(0, .ptr 0 0), (1, I p1), (5, .ptr 4 0), (7, .ptr 372 0), (110, .tst !r131)], [(0, .box (hb_log.co r135.2 1 2)), (1, .li 1 cI 0 r135.2.at_), (2, .mapI r135.2.in_), (3, .pin 0 (β 0)), (4, .box (api_Entry.cs p2)), (372, .box [I ((p0.s.Events.getD p2.Event.toNat default).Proc), I ((p0.s.Events.getD p2.Event.toNat default).Inst), I ((p0.s.Events.getD p2.Event.toNat default).Kind), I ((p0.s.Events.getD p2.Event.toNat default).Obj)])], 852⟩ ?_ ?_
          · exact Le.keep (live := [0, 1, 5, 7, 110]) (names := [0, 1, 2, 3, 4, 372]) (nx := 852) rfl
          refine CWP.cond (And.intro (fun hc => ?_) (fun hc => ?_))
          · have h := ite_t h hc
            refine CWP.seq ?_
            obtain ⟨r136, hr136, h⟩ := Option.bind_eq_some_iff.1 h
            refine CWP.regionT ⟨[(6, .tst r136.1)], [(0, .box (hb_log.co r136.2 1 2)), (1, .li 1 cI 0 r136.2.at_), (2, .mapI r136.2.in_), (3, .pin 0 (β 0))], 884⟩ ?_ ?_
            · refine SemOp.post (SemOp.call rfl rfl (RC.callOk 4 [(0, 0), (1, 1), (2, 2)] (c59_P59ffffoqd hr136) (RepLes.refl _) ⟨⟨_, _, rfl, rfl, BlkLe.refl _⟩, ⟨_, _, rfl, rfl, BlkLe.refl _⟩, ⟨_, _, rfl, rfl, BlkLe.refl _⟩, trivial⟩ rfl wrT ?_))
              refine Exists.intro ⟨[(0, .ptr 0 0), (1, I p1), (5, .ptr 4 0), (7, .ptr 372 0), (110, .tst !r131), (111, .ptr 0 0), (112, .agg [I ((p0.s.Events.getD p2.Event.toNat default).Proc), I ((p0.s.Events.getD p2.Event.toNat default).Inst), I ((p0.s.Events.getD p2.Event.toNat default).Kind), I ((p0.s.Events.getD p2.Event.toNat default).Obj)]), (113, .tst r136.1)], [(0, .box (hb_log.co r136.2 1 2)), (1, .li 1 cI 0 r136.2.at_), (2, .mapI r136.2.in_), (3, .pin 0 (β 0)), (4, .box (api_Entry.cs p2)), (372, .box [I ((p0.s.Events.getD p2.Event.toNat default).Proc), I ((p0.s.Events.getD p2.Event.toNat default).Inst), I ((p0.s.Events.getD p2.Event.toNat default).Kind), I ((p0.s.Events.getD p2.Event.toNat default).Obj)])], 852⟩ (And.intro (LeM.refl _) ?_)
              exact Le.keep (live := [6]) (names := [0, 1, 2, 3]) (nx := 884) rfl
            refine CWP.weaken (s' := ⟨[(6, .tst r136.1)], [(0, .box (hb_log.co r136.2 1 2)), (1, .li 1 cI 0 r136.2.at_), (2, .mapI r136.2.in_), (3, .pin 0 (β 0))], 4⟩) (Le.keep (live := [6]) (names := [0, 1, 2, 3]) (nx := 4) rfl) ?_
            refine CWP.ret ?_
            have e := Option.some.inj h
            subst e
            exact ⟨rfl, ⟨⟨_, rfl, rfl⟩, ⟨_, rfl, rfl⟩, ⟨_, rfl, rfl⟩, trivial⟩, ⟨rfl, trivial⟩⟩
          · have h := ite_f h hc
            refine CWP.skip ?_
            refine CWP.seq ?_
            obtain ⟨hs137, h⟩ := ite_some h
            refine CWP.drawT [] [] ⟨[(0, .ptr 0 0), (1, I p1), (5, .ptr 4 0), (7, .ptr 372 0), (9, .ptr 924 0)], [(0, .box (hb_log.co r135.2 1 2)), (1, .li 1 cI 0 r135.2.at_), (2, .mapI r135.2.in_), (3, .pin 0 (β 0)), (4, .box (api_Entry.cs p2)), (372, .box [I ((p0.s.Events.getD p2.Event.toNat default).Proc), I ((p0.s.Events.getD p2.Event.toNat default).Inst), I ((p0.s.Events.getD p2.Event.toNat default).Kind), I ((p0.s.Events.getD p2.Event.toNat default).Obj)]), (924, .box [I ((r135.2.s.Events.getD p2.With.toNat default).Proc), I ((r135.2.s.Events.getD p2.With.toNat default).Inst), I ((r135.2.s.Events.getD p2.With.toNat default).Kind), I ((r135.2.s.Events.getD p2.With.toNat default).Obj)])], 940⟩ ?_ ?_
            · refine And.intro rfl ?_
              iterate 7 refine And.intro rfl ?_
              refine And.intro hs137 ?_
              refine And.intro rfl ?_
              refine And.intro ?_ ?_
              · refine And.intro rfl ?_
                refine And.intro ?_ ?_
                · refine And.intro rfl ?_
                  refine SemOp.ofD rfl ?_
                  refine ex_refl ?_
                  exact Le.keep (live := [0, 1, 5, 7, 9]) (names := [0, 1, 2, 3, 4, 372, 924]) (nx := 940) rfl
                · exact trivial
              · exact trivial
            refine CWP.seq ?_
            obtain ⟨r138, hr138, h⟩ := Option.bind_eq_some_iff.1 h
            refine CWP.regionT ⟨[(6, .tst ((((((r135.2.s.Events.getD p2.With.toNat default).Kind) == 10) && (((r135.2.s.Events.getD p2.With.toNat default).Obj) == ((p0.s.Events.getD p2.Event.toNat default).Obj))) && (((r135.2.s.Events.getD p2.With.toNat default).Proc) != ((p0.s.Events.getD p2.Event.toNat default).Proc))) && r138.1))], [(0, .box (hb_log.co r138.2 1 2)), (1, .li 1 cI 0 r138.2.at_), (2, .mapI r138.2.in_), (3, .pin 0 (β 0))], 1140⟩ ?_ ?_
            · refine And.intro (fun hg139 => ?_) (fun hg139 => ?_)
              · have hg139 : (((r135.2.s.Events.getD p2.With.toNat default).Kind) == 10) = true := hg139
                refine And.intro (fun hg140 => ?_) (fun hg140 => ?_)
                · have hg140 : (((r135.2.s.Events.getD p2.With.toNat default).Obj) == ((p0.s.Events.getD p2.Event.toNat default).Obj)) = true := hg140
                  refine And.intro (fun hg141 => ?_) (fun hg141 => ?_)
                  · have hg141 : (((r135.2.s.Events.getD p2.With.toNat default).Proc) != ((p0.s.Events.getD p2.Event.toNat default).Proc)) = true := hg141
                    refine SemOp.post (SemOp.call rfl rfl (RC.callOk 4 [(0, 0), (1, 1), (2, 2)] (c58_P59ffffoqdd (ite_t hr138 (by simp only [hg139, hg140, hg141, sB, reduceIte]))) (RepLes.refl _) ⟨⟨_, _, rfl, rfl, BlkLe.refl _⟩, ⟨_, _, rfl, rfl, BlkLe.refl _⟩, ⟨_, _, rfl, rfl, BlkLe.refl _⟩, trivial⟩ rfl wrT ?_))
                    refine Exists.intro ⟨[(0, .ptr 0 0), (1, I p1), (5, .ptr 4 0), (7, .ptr 372 0), (9, .ptr 924 0), (123, .ptr 924 2), (124, I ((r135.2.s.Events.getD p2.With.toNat default).Kind)), (125, .tst (((r135.2.s.Events.getD p2.With.toNat default).Kind) == 10)), (126, .raw (.bool true)), (127, .ptr 924 3), (128, I ((r135.2.s.Events.getD p2.With.toNat default).Obj)), (129, .ptr 372 3), (130, I ((p0.s.Events.getD p2.Event.toNat default).Obj)), (131, .tst (((r135.2.s.Events.getD p2.With.toNat default).Obj) == ((p0.s.Events.getD p2.Event.toNat default).Obj))), (132, .tst (((r135.2.s.Events.getD p2.With.toNat default).Obj) == ((p0.s.Events.getD p2.Event.toNat default).Obj))), (133, .raw (.bool true)), (134, .ptr 924 0), (135, I ((r135.2.s.Events.getD p2.With.toNat default).Proc)), (136, .ptr 372 0), (137, I ((p0.s.Events.getD p2.Event.toNat default).Proc)), (138, .tst (((r135.2.s.Events.getD p2.With.toNat default).Proc) != ((p0.s.Events.getD p2.Event.toNat default).Proc))), (139, .tst (((r135.2.s.Events.getD p2.With.toNat default).Proc) != ((p0.s.Events.getD p2.Event.toNat default).Proc))), (140, .raw (.bool true)), (141, .ptr 0 0), (142, .ptr 4 1), (143, I p2.With), (144, I p1), (145, .tst r138.1)], [(0, .box (hb_log.co r138.2 1 2)), (1, .li 1 cI 0 r138.2.at_), (2, .mapI r138.2.in_), (3, .pin 0 (β 0)), (4, .box (api_Entry.cs p2)), (372, .box [I ((p0.s.Events.getD p2.Event.toNat default).Proc), I ((p0.s.Events.getD p2.Event.toNat default).Inst), I ((p0.s.Events.getD p2.Event.toNat default).Kind), I ((p0.s.Events.getD p2.Event.toNat default).Obj)]), (924, .box [I ((r135.2.s.Events.getD p2.With.toNat default).Proc), I ((r135.2.s.Events.getD p2.With.toNat default).Inst), I ((r135.2.s.Events.getD p2.With.toNat default).Kind), I ((r135.2.s.Events.getD p2.With.toNat default).Obj)])], 940⟩ (And.intro (LeM.refl _) ?_)
                    exact Le.trans (Le.rep (t := 6) rfl (RepLe.fr rfl (FrLe.tst2 (by simp only [hg139, hg140, hg141, sB, reduceIte])))) (Le.keep (live := [6]) (names := [0, 1, 2, 3]) (nx := 1140) rfl)
                  · have hg141 : (((r135.2.s.Events.getD p2.With.toNat default).Proc) != ((p0.s.Events.getD p2.Event.toNat default).Proc)) = false := hg141
                    obtain rfl := Option.some.inj (ite_f hr138 (by simp only [hg139, hg140, hg141, sB, reduceIte]))
                    exact Le.trans (Le.rep (t := 6) rfl (RepLe.fr rfl (FrLe.tst (by simp only [hg139, hg140, hg141, sB, reduceIte])))) (Le.keep (live := [6]) (names := [0, 1, 2, 3]) (nx := 1140) rfl)
                · have hg140 : (((r135.2.s.Events.getD p2.With.toNat default).Obj) == ((p0.s.Events.getD p2.Event.toNat default).Obj)) = false := hg140
                  obtain rfl := Option.some.inj (ite_f hr138 (by simp only [hg139, hg140, sB, reduceIte]))
                  exact Le.trans (Le.rep (t := 6) rfl (RepLe.fr rfl (FrLe.tst (by simp only [hg139, hg140, sB, reduceIte])))) (Le.keep (live := [6]) (names := [0, 1, 2, 3]) (nx := 1140) rfl)
              · have hg139 : (((r135.2.s.Events.getD p2.With.toNat default).Kind) == 10) = false := hg139
                obtain rfl := Option.some.inj (ite_f hr138 (by simp only [hg139, sB, reduceIte]))
                exact Le.trans (Le.rep (t := 6) rfl (RepLe.fr rfl (FrLe.tst (by simp only [hg139, sB, reduceIte])))) (Le.keep (live := [6]) (names := [0, 1, 2, 3]) (nx := 1140) rfl)
            refine CWP.weaken (s' := ⟨[(6, .tst ((((((r135.2.s.Events.getD p2.With.toNat default).Kind) == 10) && (((r135.2.s.Events.getD p2.With.toNat default).Obj) == ((p0.s.Events.getD p2.Event.toNat default).Obj))) && (((r135.2.s.Events.getD p2.With.toNat default).Proc) != ((p0.s.Events.getD p2.Event.toNat default).Proc))) && r138.1))], [(0, .box (hb_log.co r138.2 1 2)), (1, .li 1 cI 0 r138.2.at_), (2, .mapI r138.2.in_), (3, .pin 0 (β 0))], 4⟩) (Le.keep (live := [6]) (names := [0, 1, 2, 3]) (nx := 4) rfl) ?_
            refine CWP.ret ?_
            have e := Option.some.inj h
            subst e
            exact ⟨rfl, ⟨⟨_, rfl, rfl⟩, ⟨_, rfl, rfl⟩, ⟨_, rfl, rfl⟩, trivial⟩, ⟨rfl, trivial⟩⟩
theorem c39_P59ffffoqdd {n : Nat} {p0 : hb_log} {p1 : Int} {p2 : api_Entry} {r : Bool × hb_log} (h : s39_P59ffffoqdd n p0 p1 p2 = some r) : RC Try.prog 39 [.ptr 0 0, I p1, .agg (api_Entry.cs p2)] [(0, .box (hb_log.co p0 1 2)), (1, .li 1 cI 0 p0.at_), (2, .mapI p0.in_)] (.tst r.1) [(0, .box (hb_log.co r.2 1 2)), (1, .li 1 cI 0 r.2.at_), (2, .mapI r.2.in_)] [0] [0, 1, 2] := RC.ofE (st := [(0, .box (hb_log.co p0 1 2)), (1, .li 1 cI 0 p0.at_), (2, .mapI p0.in_)]) (r := .tst r.1) (st' := [(0, .box (hb_log.co r.2 1 2)), (1, .li 1 cI 0 r.2.at_), (2, .mapI r.2.in_)]) (pins := [(3, 0)]) 4 [(0, 0), (1, 1), (2, 2)] (fn := Try.f39) (cc := code39) (res := .one 6) (by kernel_rfl) (by kernel_rfl) tr39 (by kernel_rfl) (Nat.le_of_ble_eq_true rfl) rfl rfl (fun β => wf39_P59ffffoqdd (β := β) h)
def code25_1 : CCode :=
 (.block 0
  (.loop
  (.seq
   (.region [⟨(some 37), (.bin 0 .lss (.tmp 36) (.tmp 35)), none⟩] none)
   (.seq
   (.cond (.tmp 37)
    .skip
    (.exit 0))
   (.seq
    (.block 1
    (.seq
     (.region [⟨(some 38), (.mv (.tmp 36)), none⟩,
      ⟨(some 39), (.idx 3 (.tmp 34) (.tmp 36)), none⟩,
      ⟨(some 40), (.load true 3 (.tmp 39)), none⟩,
      ⟨(some 9), (.alloc [(.int .i64 0), (.int .i64 0), (.int .i64 0)]), none⟩,
      ⟨(some 8), (.mv (.tmp 38)), none⟩,
      ⟨none, (.store 3 (.tmp 9) (.tmp 40)), none⟩] none)
     (.seq
     (.region [⟨(some 41), (.mv (.tmp 7)), none⟩,
      ⟨(some 42), (.mv (.tmp 8)), none⟩,
      ⟨(some 43), (.load true 3 (.tmp 9)), none⟩,
      ⟨(some 44), (.call (.func 39) [(.tmp 41), (.tmp 42), (.tmp 43)]), none⟩,
      ⟨(some 45), (.un .not (.tmp 44)), none⟩] none)
     (.cond (.tmp 45)
      (.seq
      (.region [⟨(some 6), (.mv (.const (.pointer none))), none⟩] none)
      .ret)
      .skip))))
    (.region [⟨(some 46), (.bin 0 .add (.tmp 36) (.const (.int .i64 1))), none⟩,
     ⟨(some 36), (.mv (.tmp 46)), none⟩] none))))))
def code25 : CCode :=
 (.seq
  (.region [⟨(some 3), (.box 2 (.tmp 0)), none⟩,
   ⟨(some 6), (.mv (.const (.pointer none))), none⟩] none)
  (.seq
  (.seq
   (.region [⟨(some 10), (.load true 2 (.tmp 3)), none⟩,
    ⟨(some 11), (.call (.func 37) [(.tmp 10)]), none⟩,
    ⟨(some 12), (.bin 0 .neq (.tmp 11) (.const (.int .i64 0))), none⟩,
    ⟨(some 13), (.mv (.tmp 12)), none⟩,
    ⟨(some 14), (.mv (.tmp 2)), (some (13, false))⟩,
    ⟨(some 15), (.len 1 (.tmp 14)), (some (13, false))⟩,
    ⟨(some 16), (.bin 0 .gtr (.tmp 15) (.const (.int .i64 40))), (some (13, false))⟩,
    ⟨(some 17), (.pick (.tmp 13) (.const (.bool true)) (.tmp 16)), none⟩,
    ⟨(some 18), (.mv (.tmp 17)), none⟩,
    ⟨(some 19), (.load true 2 (.tmp 3)), (some (18, false))⟩,
    ⟨(some 20), (.mv (.tmp 1)), (some (18, false))⟩,
    ⟨(some 21), (.call (.func 38) [(.tmp 19), (.tmp 20)]), (some (18, false))⟩,
    ⟨(some 22), (.un .not (.tmp 21)), (some (18, false))⟩,
    ⟨(some 23), (.pick (.tmp 18) (.const (.bool true)) (.tmp 22)), none⟩] none)
   (.cond (.tmp 23)
   (.seq
    (.region [⟨(some 6), (.mv (.const (.pointer none))), none⟩] none)
    .ret)
   .skip))
  (.seq
   (.region [⟨(some 24), (.load true 2 (.tmp 3)), none⟩,
    ⟨(some 25), (.mv (.tmp 1)), none⟩,
    ⟨(some 26), (.mv (.tmp 2)), none⟩,
    ⟨(some 27), (.fad 0 (.tmp 3)), none⟩,
    ⟨(some 28), (.load false 1 (.tmp 27)), none⟩,
    ⟨(some 29), (.len 1 (.tmp 28)), none⟩,
    ⟨(some 30), (.mksl 0 8 (.int .i64 0) (.tmp 29)), none⟩,
    ⟨(some 31), (.mkmap false), none⟩,
    ⟨(some 32), (.build [(.slice none 0 0), (.slice none 0 0), (.slice none 0 0), (.slice none 0 0), (.slice none 0 0), (.map none)] [(0, 2, (.tmp 24)), (2, 1, (.tmp 25)), (3, 1, (.tmp 26)), (4, 1, (.tmp 30)), (5, 1, (.tmp 31))]), none⟩,
    ⟨(some 33), (.box 6 (.tmp 32)), none⟩,
    ⟨(some 7), (.mv (.tmp 33)), none⟩] (some (.take 0 (.take 1 (.take 2 (.take 3 (.take 4 (.take 5 (.alt 6 (.alt 7 (.take 8 (.alt 9 (.take 10 .done) .alt0)) .alt0) (.alt 7 (.alt 6 (.take 8 (.alt 9 (.take 10 .done) .alt0)) .alt0) .alt0))))))))))
   (.seq
   (.seq
    (.region [⟨(some 34), (.mv (.tmp 2)), none⟩,
     ⟨(some 35), (.len 1 (.tmp 34)), none⟩,
     ⟨(some 36), (.mv (.const (.int .i64 0))), none⟩] none)
    code25_1)
   (.seq
    (.region [⟨(some 47), (.mv (.tmp 7)), none⟩,
     ⟨(some 6), (.mv (.tmp 47)), none⟩] none)
    .ret)))))
theorem tr25 : (Try.f25.body).bind (trCode Try.prog Try.f25.ntmps) = some code25 := by kernel_rfl
inductive O25_1 where
  | ok (b0 : hb_log)
  | ret (r : Option hb_log)
def l25_1 (n : Nat) : Nat → hb_log → (List api_Entry) → Int → Int → Option O25_1
  | 0, _, _, _, _ => none
  | m + 1, b0, v34, v35, v36 =>
    if decide (v36 < v35) then
      if 0 ≤ v36 ∧ v36 < (v34.length : Int) then
        (s39_P59ffffoqdd n b0 v36 (v34.getD v36.toNat default)).bind fun r22 =>
        if !r22.1 then
          some (.ret none)
        else
          l25_1 n m r22.2 v34 v35 (w64 (v36 + 1))
      else none
    else
      some (.ok b0)
def s25 (n : Nat) (p0 : api_Shape) (p1 : List api_Decl) (p2 : List api_Entry) : Option (Option hb_log) :=
  (s37 n p0).bind fun r16 =>
  (if !((r16 != 0) || (decide ((p2.length : Int) > 40))) then s38 n p0 p1 else some false).bind fun r17 =>
  if ((r16 != 0) || (decide ((p2.length : Int) > 40))) || !r17 then
    some none
  else
    if 0 ≤ (p0.Events.length : Int) ∧ (p0.Events.length : Int) * 8 ≤ 140737488355328 then
      (match l25_1 n n (⟨p0, p1, p2, List.replicate (p0.Events.length : Int).toNat (0 : Int), fun _ => none⟩ : hb_log) p2 (p2.length : Int) 0 with
      | none => none
      | some (.ok b0_24) =>
        some (some b0_24)
      | some (.ret r) =>
        some r)
    else none
def E25 (r : Option hb_log) (s : AS) : Prop := match r with | none => resOf s (.one 6) = some (.raw (.pointer none)) | some r => resOf s (.one 6) = some (.ptr 0 0) ∧ EndSt [(0, 0), (1, 1), (2, 2)] s.st [(0, .box (hb_log.co r 1 2)), (1, .li 1 cI 0 r.at_), (2, .mapI r.in_)] ∧ PinEnd (fun _ => none) s.st []
theorem t25_1 {n fuel : Nat} {b0 : hb_log} {v34 : List api_Entry} {v35 : Int} {v36 : Int} {out : O25_1} (h : l25_1 n fuel b0 v34 v35 v36 = some out) {Q : Ex → AS → Prop} (hok : ∀ b0, out = .ok b0 → Q .normal ⟨[(7, .ptr 0 0)], [(0, .box (hb_log.co b0 1 2)), (1, .li 1 cI 0 b0.at_), (2, .mapI b0.in_)], 3⟩) (hret : ∀ r, out = .ret r → ∀ s, E25 r s → Q .ret s) : CWP Try.prog Try.f25.ntmps code25_1 Q ⟨[(7, .ptr 0 0), (34, api_Entry.sl v34), (35, I v35), (36, I v36)], [(0, .box (hb_log.co b0 1 2)), (1, .li 1 cI 0 b0.at_), (2, .mapI b0.in_)], 3⟩ := by
  refine CWP.block ?_
  refine CWP.loop (fun k s => ∃ b0 : hb_log, ∃ v34 : List api_Entry, ∃ v35 : Int, ∃ v36 : Int, s = ⟨[(7, .ptr 0 0), (34, api_Entry.sl v34), (35, I v35), (36, I v36)], [(0, .box (hb_log.co b0 1 2)), (1, .li 1 cI 0 b0.at_), (2, .mapI b0.in_)], 3⟩ ∧ l25_1 n k b0 v34 v35 v36 = some out) fuel ⟨b0, v34, v35, v36, rfl, h⟩ ?_
  clear h
  rintro k s ⟨b0, v34, v35, v36, rfl, h⟩
  cases k with
  | zero => cases h
  | succ m =>
    rw [l25_1] at h
    refine CWP.seq ?_
    refine CWP.regionT ⟨[(7, .ptr 0 0), (34, api_Entry.sl v34), (35, I v35), (36, I v36), (37, .tst (decide (v36 < v35)))], [(0, .box (hb_log.co b0 1 2)), (1, .li 1 cI 0 b0.at_), (2, .mapI b0.in_)], 11⟩ ?_ ?_
    · exact Le.keep (live := [7, 34, 35, 36, 37]) (names := [0, 1, 2]) (nx := 11) rfl
    refine CWP.seq ?_
    refine CWP.cond (And.intro (fun hc => ?_) (fun hc => ?_))
    · have h := ite_t h hc
      refine CWP.skip ?_
      refine CWP.seq ?_
      refine CWP.block ?_
      refine CWP.seq ?_
      obtain ⟨hs21, h⟩ := ite_some h
      refine CWP.regionT ⟨[(7, .ptr 0 0), (8, I v36), (9, .ptr 35 0), (34, api_Entry.sl v34), (35, I v35), (36, I v36)], [(0, .box (hb_log.co b0 1 2)), (1, .li 1 cI 0 b0.at_), (2, .mapI b0.in_), (35, .box [I ((v34.getD v36.toNat default).Event), I ((v34.getD v36.toNat default).With), I ((v34.getD v36.toNat default).From)])], 59⟩ ?_ ?_
      · refine And.intro hs21 ?_
        refine SemOp.ofT ?_
        refine ex_refl ?_
        exact Le.keep (live := [7, 8, 9, 34, 35, 36]) (names := [0, 1, 2, 35]) (nx := 59) rfl
      refine CWP.seq ?_
      obtain ⟨r22, hr22, h⟩ := Option.bind_eq_some_iff.1 h
      refine CWP.regionT ⟨[(7, .ptr 0 0), (34, api_Entry.sl v34), (35, I v35), (36, I v36), (45, .tst !r22.1)], [(0, .box (hb_log.co r22.2 1 2)), (1, .li 1 cI 0 r22.2.at_), (2, .mapI r22.2.in_)], 99⟩ ?_ ?_
      · refine SemOp.post (SemOp.call rfl rfl (RC.callOk 4 [(0, 0), (1, 1), (2, 2)] (c39_P59ffffoqdd hr22) (RepLes.refl _) ⟨⟨_, _, rfl, rfl, BlkLe.refl _⟩, ⟨_, _, rfl, rfl, BlkLe.refl _⟩, ⟨_, _, rfl, rfl, BlkLe.refl _⟩, trivial⟩ rfl wrT ?_))
        refine Exists.intro ⟨[(7, .ptr 0 0), (8, I v36), (9, .ptr 35 0), (34, api_Entry.sl v34), (35, I v35), (36, I v36), (41, .ptr 0 0), (42, I v36), (43, .agg [I ((v34.getD v36.toNat default).Event), I ((v34.getD v36.toNat default).With), I ((v34.getD v36.toNat default).From)]), (44, .tst r22.1)], [(0, .box (hb_log.co r22.2 1 2)), (1, .li 1 cI 0 r22.2.at_), (2, .mapI r22.2.in_), (35, .box [I ((v34.getD v36.toNat default).Event), I ((v34.getD v36.toNat default).With), I ((v34.getD v36.toNat default).From)])], 59⟩ (And.intro (LeM.refl _) ?_)
        exact Le.keep (live := [7, 34, 35, 36, 45]) (names := [0, 1, 2]) (nx := 99) rfl
      refine CWP.cond (And.intro (fun hc => ?_) (fun hc => ?_))
      · have h := ite_t h hc
        refine CWP.seq ?_
        refine CWP.regionT ⟨[(6, .raw (.pointer none))], [], 107⟩ ?_ ?_
        · exact Le.keep (live := [6]) (names := []) (nx := 107) rfl
        refine CWP.ret ?_
        exact hret _ (Option.some.inj h).symm _ rfl
      · have h := ite_f h hc
        refine CWP.skip ?_
        refine CWP.regionT ⟨[(7, .ptr 0 0), (34, api_Entry.sl v34), (35, I v35), (36, I (w64 (v36 + 1)))], [(0, .box (hb_log.co r22.2 1 2)), (1, .li 1 cI 0 r22.2.at_), (2, .mapI r22.2.in_)], 3⟩ ?_ ?_
        · exact Le.trans (Le.keep (live := [7, 34, 35, 36]) (names := [0, 1, 2]) (nx := 115) rfl) (Le.keep (live := [7, 34, 35, 36]) (names := [0, 1, 2]) (nx := 3) rfl)
        exact ⟨m, Nat.lt_succ_self m, _, _, _, _, rfl, h⟩
    · have h := ite_f h hc
      refine CWP.exitL (Le.keep (live := [7]) (names := [0, 1, 2]) (nx := 3) rfl) (s' := ⟨[(7, .ptr 0 0)], [(0, .box (hb_log.co b0 1 2)), (1, .li 1 cI 0 b0.at_), (2, .mapI b0.in_)], 3⟩) ?_
      exact hok _ (Option.some.inj h).symm
theorem wf25 {n : Nat} {p0 : api_Shape} {p1 : List api_Decl} {p2 : List api_Entry} {r : Option hb_log} (h : s25 n p0 p1 p2 = some r) : CWP Try.prog Try.f25.ntmps code25 (AtE (E25 r)) ⟨[(0, .agg (api_Shape.cs p0)), (1, api_Decl.sl p1), (2, api_Entry.sl p2)], [], 0⟩ := by
  unfold s25 at h
  refine CWP.seq ?_
  refine CWP.regionT ⟨[(1, api_Decl.sl p1), (2, api_Entry.sl p2), (3, .ptr 0 0)], [(0, .box (api_Shape.cs p0))], 16⟩ ?_ ?_
  · exact Le.keep (live := [1, 2, 3]) (names := [0]) (nx := 16) rfl
  refine CWP.seq ?_
  refine CWP.seq ?_
  obtain ⟨r16, hr16, h⟩ := Option.bind_eq_some_iff.1 h
  obtain ⟨r17, hr17, h⟩ := Option.bind_eq_some_iff.1 h
  refine CWP.regionT ⟨[(1, api_Decl.sl p1), (2, api_Entry.sl p2), (3, .ptr 0 0), (23, .tst (((r16 != 0) || (decide ((p2.length : Int) > 40))) || !r17))], [(0, .box (api_Shape.cs p0))], 128⟩ ?_ ?_
  · refine FC.semT rfl rfl rfl trivial (c37 hr16) (Or.inl rfl) ?_
    refine ex_refl ?_
    refine And.intro (fun hg25 => ?_) (fun hg25 => ?_)
    · have hg25 : (r16 != 0) = false := hg25
      refine And.intro (fun hg26 => ?_) (fun hg26 => ?_)
      · have hg26 : (decide ((p2.length : Int) > 40)) = false := hg26
        refine FC.semT rfl rfl rfl trivial (c38 (ite_t hr17 (by simp only [hg25, hg26, sB, reduceIte]))) (Or.inl rfl) ?_
        refine ex_refl ?_
        exact Le.trans (Le.rep (t := 23) rfl (RepLe.fr rfl (FrLe.tst2 (by simp only [hg25, hg26, sB, reduceIte])))) (Le.keep (live := [1, 2, 3, 23]) (names := [0]) (nx := 128) rfl)
      · have hg26 : (decide ((p2.length : Int) > 40)) = true := hg26
        exact Le.trans (Le.rep (t := 23) rfl (RepLe.fr rfl (FrLe.tst (by simp only [hg25, hg26, sB, reduceIte])))) (Le.keep (live := [1, 2, 3, 23]) (names := [0]) (nx := 128) rfl)
    · have hg25 : (r16 != 0) = true := hg25
      exact Le.trans (Le.rep (t := 23) rfl (RepLe.fr rfl (FrLe.tst (by simp only [hg25, sB, reduceIte])))) (Le.keep (live := [1, 2, 3, 23]) (names := [0]) (nx := 128) rfl)
  refine CWP.cond (And.intro (fun hc => ?_) (fun hc => ?_))
  · have h := ite_t h hc
    refine CWP.seq ?_
    refine CWP.regionT ⟨[(6, .raw (.pointer none))], [], 136⟩ ?_ ?_
    · exact Le.keep (live := [6]) (names := []) (nx := 136) rfl
    refine CWP.ret ?_
    have e := Option.some.inj h
    subst e
    exact rfl
  · have h := ite_f h hc
    refine CWP.skip ?_
    refine CWP.seq ?_
    obtain ⟨hs18, h⟩ := ite_some h
    refine CWP.drawT [] [] ⟨[(2, api_Entry.sl p2), (7, .ptr 200 0)], [(176, .li 1 cI 0 (List.replicate (p0.Events.length : Int).toNat (0 : Int))), (184, .mapI (fun _ => none)), (200, .box [api_Event.sl p0.Events, sI p0.Starts, api_Decl.sl p1, api_Entry.sl p2, .own 176 1 0 ((List.replicate (p0.Events.length : Int).toNat (0 : Int)).length), .mp 184])], 216⟩ ?_ ?_
    · refine And.intro rfl ?_
      iterate 5 refine And.intro rfl ?_
      refine And.intro ?_ ?_
      · refine And.intro rfl ?_
        refine SemOp.ofD rfl ?_
        refine And.intro hs18 ?_
        refine ex_arr (List.replicate (p0.Events.length : Int).toNat (0 : Int)) (x := 176) (sz := 1) (cell := cI) (d := 0) rfl (li_rep (z := (0 : Int)) (by intro _ _; rfl)) ?_
        refine And.intro ?_ ?_
        · refine And.intro rfl ?_
          refine And.intro rfl ?_
          refine And.intro ?_ ?_
          · refine And.intro rfl ?_
            refine And.intro rfl ?_
            exact Le.trans (Le.list (x := 176) rfl (cell := cI) (d := 0) (l := List.replicate (p0.Events.length : Int).toNat (0 : Int)) List.length_replicate (fun _ _ _ _ => rfl)) (Le.trans (Le.blk (x := 200) rfl (BlkLe.box (RepLes.cons (RepLe.refl _) (RepLes.cons (RepLe.refl _) (RepLes.cons (RepLe.refl _) (RepLes.cons (RepLe.refl _) (RepLes.cons (RepLe.ownLen (List.length_replicate).symm) (RepLes.cons (RepLe.refl _) (RepLes.nil))))))))) (Le.keep (live := [2, 7]) (names := [176, 184, 200]) (nx := 216) rfl))
          · exact trivial
        · exact trivial
      · refine And.intro ?_ ?_
        · refine And.intro rfl ?_
          refine And.intro ?_ ?_
          · refine And.intro rfl ?_
            refine SemOp.ofD rfl ?_
            refine And.intro hs18 ?_
            refine ex_arr (List.replicate (p0.Events.length : Int).toNat (0 : Int)) (x := 176) (sz := 1) (cell := cI) (d := 0) rfl (li_rep (z := (0 : Int)) (by intro _ _; rfl)) ?_
            refine And.intro rfl ?_
            refine And.intro ?_ ?_
            · refine And.intro rfl ?_
              refine And.intro rfl ?_
              exact Le.trans (Le.list (x := 176) rfl (cell := cI) (d := 0) (l := List.replicate (p0.Events.length : Int).toNat (0 : Int)) List.length_replicate (fun _ _ _ _ => rfl)) (Le.trans (Le.blk (x := 200) rfl (BlkLe.box (RepLes.cons (RepLe.refl _) (RepLes.cons (RepLe.refl _) (RepLes.cons (RepLe.refl _) (RepLes.cons (RepLe.refl _) (RepLes.cons (RepLe.ownLen (List.length_replicate).symm) (RepLes.cons (RepLe.refl _) (RepLes.nil))))))))) (Le.keep (live := [2, 7]) (names := [176, 184, 200]) (nx := 216) rfl))
            · exact trivial
          · exact trivial
        · exact trivial
    refine CWP.seq ?_
    refine CWP.seq ?_
    refine CWP.regionT ⟨[(7, .ptr 200 0), (34, api_Entry.sl p2), (35, I (p2.length : Int)), (36, I 0)], [(176, .li 1 cI 0 (List.replicate (p0.Events.length : Int).toNat (0 : Int))), (184, .mapI (fun _ => none)), (200, .box [api_Event.sl p0.Events, sI p0.Starts, api_Decl.sl p1, api_Entry.sl p2, .own 176 1 0 ((List.replicate (p0.Events.length : Int).toNat (0 : Int)).length), .mp 184])], 240⟩ ?_ ?_
    · exact Le.keep (live := [7, 34, 35, 36]) (names := [176, 184, 200]) (nx := 240) rfl
    generalize hn23 : l25_1 n n (⟨p0, p1, p2, List.replicate (p0.Events.length : Int).toNat (0 : Int), fun _ => none⟩ : hb_log) p2 (p2.length : Int) 0 = o23 at h
    rcases o23 with _ | o23
    · cases h
    refine CWP.weaken (s' := ⟨[(7, .ptr 0 0), (34, api_Entry.sl p2), (35, I (p2.length : Int)), (36, I 0)], [(0, .box [api_Event.sl p0.Events, sI p0.Starts, api_Decl.sl p1, api_Entry.sl p2, .own 1 1 0 ((List.replicate (p0.Events.length : Int).toNat (0 : Int)).length), .mp 2]), (1, .li 1 cI 0 (List.replicate (p0.Events.length : Int).toNat (0 : Int))), (2, .mapI (fun _ => none))], 3⟩) (Le.ren [(0, 200), (1, 176), (2, 184)] rfl ⟨rfl, rfl, rfl, rfl, trivial⟩ ⟨⟨_, rfl, rfl⟩, ⟨_, rfl, rfl⟩, ⟨_, rfl, rfl⟩, trivial⟩) ?_
    refine t25_1 hn23 ?_ ?_
    · intro b0_24 e
      subst e
      dsimp only at h
      refine CWP.seq ?_
      refine CWP.regionT ⟨[(6, .ptr 0 0)], [(0, .box (hb_log.co b0_24 1 2)), (1, .li 1 cI 0 b0_24.at_), (2, .mapI b0_24.in_)], 19⟩ ?_ ?_
      · exact Le.keep (live := [6]) (names := [0, 1, 2]) (nx := 19) rfl
      refine CWP.weaken (s' := ⟨[(6, .ptr 0 0)], [(0, .box (hb_log.co b0_24 1 2)), (1, .li 1 cI 0 b0_24.at_), (2, .mapI b0_24.in_)], 3⟩) (Le.keep (live := [6]) (names := [0, 1, 2]) (nx := 3) rfl) ?_
      refine CWP.ret ?_
      have e := Option.some.inj h
      subst e
      exact ⟨rfl, ⟨⟨_, rfl, rfl⟩, ⟨_, rfl, rfl⟩, ⟨_, rfl, rfl⟩, trivial⟩, trivial⟩
    · intro r e s hs
      subst e
      dsimp only at h
      have e := Option.some.inj h
      subst e
      exact hs
theorem c25 {n : Nat} {p0 : api_Shape} {p1 : List api_Decl} {p2 : List api_Entry} {r : hb_log} (h : s25 n p0 p1 p2 = some (some r)) : FC Try.prog 25 [.agg (api_Shape.cs p0), api_Decl.sl p1, api_Entry.sl p2] (.ptr 0 0) [(0, .box (hb_log.co r 1 2)), (1, .li 1 cI 0 r.at_), (2, .mapI r.in_)] false := FC.newF rfl rfl (RC.ofE (st := []) (r := .ptr 0 0) (st' := [(0, .box (hb_log.co r 1 2)), (1, .li 1 cI 0 r.at_), (2, .mapI r.in_)]) (pins := []) 0 [(0, 0), (1, 1), (2, 2)] (fn := Try.f25) (cc := code25) (res := .one 6) (by kernel_rfl) (by kernel_rfl) tr25 (by kernel_rfl) (Nat.le_of_ble_eq_true rfl) rfl rfl (fun β => wf25 h))
theorem c25n {n : Nat} {p0 : api_Shape} {p1 : List api_Decl} {p2 : List api_Entry} (h : s25 n p0 p1 p2 = some none) : FC Try.prog 25 [.agg (api_Shape.cs p0), api_Decl.sl p1, api_Entry.sl p2] (.raw (.pointer none)) [] false := FC.newF rfl rfl (RC.ofE (st := []) (r := .raw (.pointer none)) (st' := []) (pins := []) 0 [] (fn := Try.f25) (cc := code25) (res := .one 6) (by kernel_rfl) (by kernel_rfl) tr25 (by kernel_rfl) (Nat.le_of_ble_eq_true rfl) rfl rfl (fun β => CWP.post (wf25 h) fun e s hq => ⟨s, Le.refl s, by cases e <;> first | exact ⟨hq, trivial, trivial⟩ | exact hq⟩))
theorem Good.mono {s : api_Shape} (hg : Good s) {i : Nat} : ∀ j, i ≤ j → j < s.Events.length → (s.Events.getD i default).Proc ≤ (s.Events.getD j default).Proc := by
  intro j
  induction j with
  | zero => intro h _; rw [Nat.le_zero.1 h]; exact Int.le_refl _
  | succ j ih =>
    intro h hj
    by_cases he : i = j + 1
    · rw [he]; exact Int.le_refl _
    · have h1 := ih (by omega) (by omega)
      have h2 := ((hg.ev (j + 1) hj).2.1 (by omega)).1
      rw [Nat.add_sub_cancel] at h2
      omega
def fitsF (s : api_Shape) (A : Int → Int) (a : Nat) : Prop :=
  A a < 0 ∧ (0 < (s.Events.getD a default).Proc → 0 ≤ s.Starts.getD (s.Events.getD a default).Proc.toNat 0 ∧ 0 ≤ A (s.Starts.getD (s.Events.getD a default).Proc.toNat 0)) ∧
  ∀ q : Nat, a < q → q < s.Events.length → (s.Events.getD q default).Proc = (s.Events.getD a default).Proc → A q < 0
theorem ev64 {n : Nat} {r : List Int} {p : Int} (hl : r.length ≤ 60) (hn : 64 ≤ n) : Ev (s56 n r p) fun b => (b = true ↔ p ∈ r) := by
  have key : Ev (l64_1 n n r p r.length 0) fun o => (o = .ok ∧ p ∉ r) ∨ ∃ j : Nat, o = .ret j ∧ p ∈ r := by
    refine loopEv (N := r.length) (Inv := fun i (_ : Unit) => ∀ j, j < i → r.getD j 0 ≠ p) (fun m _ (i : Nat) => l64_1 n m r p r.length i) ?_ ?_ n 0 () (Nat.zero_le _) (by omega) (fun j h => absurd h (Nat.not_lt_zero j))
    · intro m i _ hi h ih
      show Ev (l64_1 n (m + 1) r p r.length i) _
      rw [l64_1]
      refine Ev.ite (fun hc => ?_) (fun hc => by simp only [decide_eq_false_iff_not] at hc; omega)
      refine Ev.ask ⟨by omega, by omega⟩ ?_
      simp only [Int.toNat_natCast]
      refine Ev.ite (fun hd => Ev.some (.inr ⟨i, rfl, ?_⟩)) (fun hd => ?_)
      · simp only [beq_iff_eq] at hd
        rw [hd, getD_lt hi]; exact List.getElem_mem hi
      · simp only [beq_eq_false_iff_ne, ne_eq] at hd
        rw [w64_id (by omega) (by omega)]
        refine ih () fun j hj => ?_
        by_cases he : j = i
        · subst he; exact fun h => hd h.symm
        · exact h j (by omega)
    · intro m _ h
      show Ev (l64_1 n (m + 1) r p r.length r.length) _
      rw [l64_1]
      refine Ev.ite (fun hc => by simp only [decide_eq_true_eq] at hc; omega) (fun _ => Ev.some (.inl ⟨rfl, fun hm => ?_⟩))
      obtain ⟨j, hj, e⟩ := List.getElem_of_mem hm
      exact h j hj (by rw [getD_lt hj]; exact e)
  obtain ⟨o, ho, h⟩ := key
  unfold s56 s64
  rw [ho]
  rcases h with ⟨rfl, h⟩ | ⟨j, rfl, h⟩
  · exact Ev.some ⟨fun h' => by simp at h', fun h' => absurd h' h⟩
  · exact Ev.some ⟨fun _ => h, fun _ => by simp⟩
theorem ev57_2 {s : api_Shape} {n a f : Nat} {b : List Int} {M : List (List Bool)} {v17 : Int} (hb : b.length ≤ 60) (ha : a < s.Events.length) (hf : f < s.Events.length) (hM : Mx s.Events.length M (aR s 7)) :
    l57_2 n s b M a s.Events v17 f = some (.ok s (if src s a f then b ++ [(f : Int)] else b) M a s.Events v17 f) := by
  have h1 := hM.1.1
  have h2 := hM.1.2 a ha
  have h3 := hM.2 a f ha hf
  have e1 : ((f : Int) != (a : Int)) = (a != f) := by
    by_cases h : a = f
    · simp [h]
    · rw [bne_iff_ne.2 (show (f : Int) ≠ a by omega), bne_iff_ne.2 h]
  have e2 : ((s.Events.getD f default).Obj == (s.Events.getD a default).Obj) = ((s.Events.getD a default).Obj == (s.Events.getD f default).Obj) := by
    rw [Bool.eq_iff_iff, beq_iff_eq, beq_iff_eq]; exact ⟨Eq.symm, Eq.symm⟩
  have e3 : ∀ x y z : Bool, Ev (if (x && y) then some z else some false) (· = (x && y && z)) := by intro x y z; cases x <;> cases y <;> exact ⟨_, rfl, rfl⟩
  have e4 : ∀ x y z w : Bool, (x && y && (x && y && z) && !w) = (x && y && z && !w) := by intro x y z w; cases x <;> cases y <;> rfl
  refine Ev.run ?_
  unfold l57_2
  simp only [Int.toNat_natCast]
  refine Ev.ask ⟨by omega, by omega⟩ ?_
  refine Ev.ask (fun _ => ⟨by omega, by omega⟩) ?_
  refine Ev.ask (fun _ => ⟨by omega, by omega⟩) ?_
  rw [s66_eq]
  refine Ev.bind (e3 _ _ _) ?_
  rintro _ rfl
  refine Ev.ask (fun _ => ⟨by omega, by omega⟩) ?_
  refine Ev.ask (fun _ => ⟨by omega, by omega⟩) ?_
  refine Ev.ite (fun hc => ?_) (fun hc => ?_)
  · rw [e4, e1, e2] at hc
    simp only [mg] at h3
    rw [h3] at hc
    have hs : src s a f = true := hc
    rw [if_pos hs]
    exact Ev.ask (by omega) (Ev.some rfl)
  · rw [e4, e1, e2] at hc
    simp only [mg] at h3
    rw [h3] at hc
    have hs : src s a f = false := hc
    rw [hs]
    exact Ev.some rfl
theorem ev57 {s : api_Shape} {n a : Nat} (hg : Good s) (hn : 64 ≤ n) (ha : a < s.Events.length) : Ev (s57 n s a) fun r => r.length ≤ 40 ∧ ∀ x : Int, x ∈ r ↔ ∃ f : Nat, x = f ∧ f < s.Events.length ∧ src s a f = true := by
  have h40 := hg.n
  unfold s57 s65
  obtain ⟨r, hr, h1, _⟩ := ev37 (s := s) (n := n) hn
  rw [hr, h1.2 hg]
  simp only [Option.bind_some]
  refine Ev.ite (fun hc => ?_) (fun _ => ?_)
  · simp only [beq_self_eq_true, Bool.true_and, Bool.not_eq_true', Bool.and_eq_false_iff, decide_eq_false_iff_not] at hc
    omega
  refine Ev.bind (ev42 hg hn) fun M hM => ?_
  have key : Ev (l57_3 n n s [] M a s.Events s.Events.length 0) fun o => ∃ r, o = .ok r ∧ r.length ≤ 40 ∧ ∀ x : Int, x ∈ r ↔ ∃ f : Nat, x = f ∧ f < s.Events.length ∧ src s a f = true := by
    refine loopEv (N := s.Events.length) (Inv := fun i (b : List Int) => b.length ≤ i ∧ ∀ x : Int, x ∈ b ↔ ∃ f : Nat, x = f ∧ f < i ∧ src s a f = true) (fun m b (i : Nat) => l57_3 n m s b M a s.Events s.Events.length i) ?_ ?_ n 0 [] (Nat.zero_le _) (by omega) ⟨Nat.le_refl _, fun x => by simp⟩
    · rintro m i b hi ⟨h1, h2⟩ ih
      show Ev (l57_3 n (m + 1) s b M a s.Events s.Events.length i) _
      rw [l57_3]
      refine Ev.ite (fun hc => ?_) (fun hc => by simp only [decide_eq_false_iff_not] at hc; omega)
      rw [ev57_2 (by omega) ha hi hM]
      dsimp only
      rw [w64_id (by omega) (by omega)]
      refine ih _ ?_
      by_cases hs : src s a i = true
      · rw [if_pos hs]
        refine ⟨by rw [List.length_append]; simp; omega, fun x => ?_⟩
        rw [List.mem_append, h2, List.mem_singleton]
        constructor
        · rintro (⟨f, h3, h4, h5⟩ | rfl)
          · exact ⟨f, h3, by omega, h5⟩
          · exact ⟨i, rfl, by omega, hs⟩
        · rintro ⟨f, h3, h4, h5⟩
          by_cases he : f = i
          · right; omega
          · exact .inl ⟨f, h3, by omega, h5⟩
      · rw [if_neg hs]
        refine ⟨by omega, fun x => ?_⟩
        rw [h2]
        constructor
        · rintro ⟨f, h3, h4, h5⟩; exact ⟨f, h3, by omega, h5⟩
        · rintro ⟨f, h3, h4, h5⟩
          by_cases he : f = i
          · subst he; exact absurd h5 hs
          · exact ⟨f, h3, by omega, h5⟩
    · rintro m b ⟨h1, h2⟩
      show Ev (l57_3 n (m + 1) s b M a s.Events s.Events.length s.Events.length) _
      rw [l57_3]
      exact Ev.ite (fun hc => by simp only [decide_eq_true_eq] at hc; omega) (fun _ => Ev.some ⟨b, rfl, by omega, h2⟩)
  obtain ⟨o, ho, r, rfl, h⟩ := key
  rw [ho]
  exact Ev.some h
theorem ev58 {g : hb_log} {n a : Nat} {A : Int → Int} {k : Int} (hg : Good g.s) (hn : 64 ≤ n) (ha : a < g.s.Events.length) (hk : 0 ≤ k) (hk' : k ≤ 100) (hl : g.at_.length = g.s.Events.length)
    (hA : ∀ e : Nat, e < g.s.Events.length → g.at_.getD e 0 = A e + 1 ∧ -1 ≤ A e) :
    Ev (s58_P59ffffoqdd n g a k) fun r => (r.1 = true ↔ fitsF g.s A a) ∧ (r.1 = true → r.2 = ⟨g.s, g.d, g.l, g.at_.set a (k + 1), g.in_⟩) := by
  have h40 := hg.n
  have h6 := hg.m
  obtain ⟨⟨g1, g2, _⟩, _⟩ := hg.ev a ha
  unfold s58_P59ffffoqdd
  simp only [Int.toNat_natCast]
  have hs := hg.start ha
  simp only [sp, pr] at hs
  refine Ev.ask (fun _ => ⟨by omega, by omega⟩) ?_
  have hAa := hA a ha
  refine Ev.ite (fun hc => Ev.some ⟨⟨fun h => by simp at h, fun h => ?_⟩, fun h => by simp at h⟩) (fun hc => ?_)
  · simp only [Bool.or_eq_true, decide_eq_true_eq] at hc
    have := h.1
    omega
  simp only [Bool.or_eq_false_iff, decide_eq_false_iff_not] at hc
  refine Ev.ask ⟨by omega, by omega⟩ ?_
  refine Ev.ask ⟨by omega, by omega⟩ ?_
  refine Ev.ask (fun _ h => ?_) ?_
  · simp only [decide_eq_false_iff_not] at h
    omega
  have hst : ∀ q : Int, q = g.s.Starts.getD (g.s.Events.getD a default).Proc.toNat 0 → 0 ≤ q → (g.at_.getD q.toNat 0) = A q + 1 ∧ -1 ≤ A q := by
    rintro q rfl h0
    have := hA _ (hs h0).1
    rwa [show (((g.s.Starts.getD (g.s.Events.getD a default).Proc.toNat 0).toNat : Nat) : Int) = g.s.Starts.getD (g.s.Events.getD a default).Proc.toNat 0 from by omega] at this
  have hst := hst _ rfl
  refine Ev.ite (fun hd => Ev.some ⟨⟨fun h => by simp at h, fun h => ?_⟩, fun h => by simp at h⟩) (fun hd => ?_)
  · simp only [Bool.and_eq_true, Bool.or_eq_true, decide_eq_true_eq, beq_iff_eq] at hd
    obtain ⟨h1, h2⟩ := h.2.1 (by omega)
    have := hst h1
    omega
  simp only [Bool.and_eq_false_iff, Bool.or_eq_false_iff, decide_eq_false_iff_not, beq_eq_false_iff_ne, ne_eq] at hd
  have key : Ev (l58_P59ffffoqdd__1 n n g (g.s.Events.getD a default) a k (w64 (a + 1))) fun o => (o = .ok g a k ∧ ∀ q : Nat, a < q → q < g.s.Events.length → (g.s.Events.getD q default).Proc = (g.s.Events.getD a default).Proc → A q < 0) ∨ (o = .ret (false, g) ∧ ¬ ∀ q : Nat, a < q → q < g.s.Events.length → (g.s.Events.getD q default).Proc = (g.s.Events.getD a default).Proc → A q < 0) := by
    rw [w64_id (by omega) (by omega)]
    refine loopEv (N := g.s.Events.length) (Inv := fun i (_ : Unit) => a < i ∧ ∀ q : Nat, a < q → q < i → A q < 0) (fun m _ (i : Nat) => l58_P59ffffoqdd__1 n m g (g.s.Events.getD a default) a k i) ?_ ?_ n (a + 1) () (by omega) (by omega) ⟨by omega, fun q _ _ => by omega⟩
    · intro m i _ hi h ih
      show Ev (l58_P59ffffoqdd__1 n (m + 1) g (g.s.Events.getD a default) a k i) _
      rw [l58_P59ffffoqdd__1]
      refine Ev.ask (fun _ => ⟨by omega, by omega⟩) ?_
      simp only [Int.toNat_natCast]
      have hAi := hA i hi
      refine Ev.ite (fun hc => ?_) (fun hc => Ev.some (.inl ⟨rfl, fun q h1 h2 h3 => ?_⟩))
      · simp only [Bool.and_eq_true, decide_eq_true_eq, beq_iff_eq] at hc
        refine Ev.ask ⟨by omega, by omega⟩ ?_
        refine Ev.ite (fun hd => Ev.some (.inr ⟨rfl, fun h' => ?_⟩)) (fun hd => ?_)
        · simp only [decide_eq_true_eq] at hd
          have := h' i h.1 hi hc.2
          omega
        · simp only [decide_eq_false_iff_not] at hd
          rw [w64_id (by omega) (by omega)]
          refine ih () ⟨by omega, fun q h1 h2 => ?_⟩
          by_cases hq : q = i
          · subst hq; omega
          · exact h.2 q h1 (by omega)
      · simp only [Bool.and_eq_false_iff, decide_eq_false_iff_not, beq_eq_false_iff_ne, ne_eq] at hc
        by_cases hq : q < i
        · exact h.2 q h1 hq
        · have m1 := hg.mono (i := i) q (by omega) h2
          have m2 := hg.mono (i := a) i (by omega) hi
          omega
    · intro m _ h
      show Ev (l58_P59ffffoqdd__1 n (m + 1) g (g.s.Events.getD a default) a k g.s.Events.length) _
      rw [l58_P59ffffoqdd__1]
      refine Ev.ask (fun h => by simp at h) ?_
      exact Ev.ite (fun hc => by simp at hc) (fun _ => Ev.some (.inl ⟨rfl, fun q h1 h2 _ => h.2 q h1 h2⟩))
  obtain ⟨o, ho, h | h⟩ := key
  · obtain ⟨rfl, h⟩ := h
    rw [ho]
    dsimp only
    simp only [Int.toNat_natCast]
    refine Ev.ask ⟨by omega, by omega⟩ ?_
    rw [w64_id (by omega) (by omega)]
    refine Ev.some ⟨⟨fun _ => ⟨by omega, fun h1 => ?_, h⟩, fun _ => rfl⟩, fun _ => rfl⟩
    by_cases h2 : 0 ≤ g.s.Starts.getD (g.s.Events.getD a default).Proc.toNat 0
    · have := hst h2
      constructor <;> omega
    · omega
  · obtain ⟨rfl, h⟩ := h
    rw [ho]
    exact Ev.some ⟨⟨fun h' => by simp at h', fun h' => absurd h'.2.2 h⟩, fun h' => by simp at h'⟩
theorem ev59 {g : hb_log} {n : Nat} {e : api_Event} (t : Int) (ht : -1000 ≤ t ∧ t ≤ 1000) (h1 : asks e.Kind = 4 → (g.in_ e.Obj).getD 0 = t ∧ 0 ≤ e.Obj ∧ e.Obj < g.d.length) :
    Ev (s59_P59ffffoqd n g e) fun r => (r.1 = true ↔ (asks e.Kind = 4 → 0 ≤ t + (if e.Kind = 9 then 1 else 0) - (if e.Kind = 10 then 1 else 0) ∧ t + (if e.Kind = 9 then 1 else 0) - (if e.Kind = 10 then 1 else 0) ≤ (g.d.getD e.Obj.toNat default).Num)) ∧
      ∃ m : Int → Option Int, r.2 = ⟨g.s, g.d, g.l, g.at_, m⟩ ∧ ∀ c, (m c).getD 0 = (g.in_ c).getD 0 + (if e.Obj = c ∧ e.Kind = 9 then 1 else 0) - (if e.Obj = c ∧ e.Kind = 10 then 1 else 0) := by
  unfold s59_P59ffffoqd l59_P59ffffoqd__1
  by_cases h9 : e.Kind = 9
  · have h2 := h1 (by rw [h9]; decide)
    rw [if_pos (by rw [h9]; rfl)]
    dsimp only
    rw [h2.1, w64_id (by omega) (by omega)]
    simp only [mset, if_true, Option.getD_some]
    refine Ev.ask (fun _ => h2.2) (Ev.some ⟨?_, _, rfl, fun c => ?_⟩)
    · simp only [Bool.and_eq_true, decide_eq_true_eq, h9]
      simp [asks]
    · show Option.getD (if c = e.Obj then some (t + 1) else g.in_ c) 0 = _
      by_cases hc : c = e.Obj
      · subst hc; simp [h9, h2.1]
      · rw [if_neg hc, if_neg (fun h => hc h.1.symm), if_neg (fun h => hc h.1.symm)]; omega
  · rw [if_neg (by simpa using h9)]
    by_cases h10 : e.Kind = 10
    · have h2 := h1 (by rw [h10]; decide)
      rw [if_pos (by rw [h10]; rfl)]
      dsimp only
      rw [h2.1, w64_id (by omega) (by omega)]
      simp only [mset, if_true, Option.getD_some]
      refine Ev.ask (fun _ => h2.2) (Ev.some ⟨?_, _, rfl, fun c => ?_⟩)
      · simp only [Bool.and_eq_true, decide_eq_true_eq, h10]
        simp [asks]
      · show Option.getD (if c = e.Obj then some (t - 1) else g.in_ c) 0 = _
        by_cases hc : c = e.Obj
        · subst hc; simp [h10, h2.1]
        · rw [if_neg hc, if_neg (fun h => hc h.1.symm), if_neg (fun h => hc h.1.symm)]; omega
    · rw [if_neg (by simpa using h10)]
      refine Ev.some ⟨⟨fun _ h => ?_, fun _ => rfl⟩, g.in_, rfl, fun c => ?_⟩
      · unfold asks at h; (repeat' split at h) <;> omega
      · rw [if_neg (fun h => h9 h.2), if_neg (fun h => h10 h.2)]; omega
/-- what a log knows after k entries -/
structure GI (s : api_Shape) (d : List api_Decl) (l : List api_Entry) (k : Nat) (g : hb_log) : Prop where
  es : g.s = s
  ed : g.d = d
  el : g.l = l
  n : g.at_.length = s.Events.length
  at_ : ∀ e : Nat, e < s.Events.length → g.at_.getD e 0 = atI l k e + 1
  in_ : ∀ c : Int, 0 ≤ c → c < d.length → (d.getD c.toNat default).Num ≠ 0 → (g.in_ c).getD 0 = inI s l k c
theorem ev55 {s : api_Shape} {d : List api_Decl} {l : List api_Entry} {n a : Nat} {x : List Int} {y : Int → Option Int} (hg : Good s) (ha : a < s.Events.length) (hd : okD s d a) : s55_fp59d n ⟨s, d, l, x, y⟩ a = some (meets s d a) := by
  obtain ⟨⟨g1, g2, g3, g4, g5, g6⟩, _⟩ := hg.ev a ha
  unfold s55_fp59d
  simp only [Int.toNat_natCast]
  rw [if_pos (by omega), s54_eq _ g4 g5]
  simp only [Option.bind_some]
  rw [if_pos]
  · rfl
  · intro h
    simp only [beq_iff_eq] at h
    have := (hd (by omega)).1
    omega
theorem fits_other {s : api_Shape} {l : List api_Entry} {k a w : Nat} (hg : Good s) (ha : a < s.Events.length) (hw : w < s.Events.length) (h9 : (s.Events.getD a default).Kind = 9) (hp : (s.Events.getD w default).Proc ≠ (s.Events.getD a default).Proc) :
    fitsF s (fun e => if e = (a : Int) then (k : Int) else atI l k e) w ↔ fits s l k w := by
  have hwa : (w : Int) ≠ a := fun h => hp (by rw [show w = a from by omega])
  have hst : 0 ≤ s.Starts.getD (s.Events.getD w default).Proc.toNat 0 → s.Starts.getD (s.Events.getD w default).Proc.toNat 0 ≠ a := by
    intro h0 h1
    obtain ⟨⟨g1, g2, _⟩, _⟩ := hg.ev w hw
    have h2 := ((hg.st (s.Events.getD w default).Proc.toNat (by omega)).2.2 h0).1
    rw [h1, Int.toNat_natCast] at h2
    omega
  unfold fitsF fits
  dsimp only
  rw [if_neg hwa]
  constructor
  · rintro ⟨h1, h2, h3⟩
    refine ⟨h1, fun h => ?_, fun q h4 h5 h6 => ?_⟩
    · obtain ⟨h7, h8⟩ := h2 h
      rw [if_neg (hst h7)] at h8
      exact ⟨h7, h8⟩
    · have := h3 q h4 h5 h6
      rwa [if_neg (fun h => hp (by rw [← h6, show q = a from by omega]))] at this
  · rintro ⟨h1, h2, h3⟩
    refine ⟨h1, fun h => ?_, fun q h4 h5 h6 => ?_⟩
    · obtain ⟨h7, h8⟩ := h2 h
      rw [if_neg (hst h7)]
      exact ⟨h7, h8⟩
    · rw [if_neg (fun h => hp (by rw [← h6, show q = a from by omega]))]
      exact h3 q h4 h5 h6
theorem ev39 {s : api_Shape} {d : List api_Decl} {l : List api_Entry} {n k : Nat} {g : hb_log} (hg : Good s) (hd : ∀ i, i < s.Events.length → okD s d i) (hk : k < l.length) (hl : l.length ≤ 40) (hn : 64 ≤ n) (hG : GI s d l k g) :
    Ev (s39_P59ffffoqdd n g k (l.getD k default)) fun r => (r.1 = true ↔ okE s d l k) ∧ (r.1 = true → GI s d l (k + 1) r.2) := by
  have h40 := hg.n
  obtain ⟨gs, gd, gl, x, y⟩ := g
  obtain ⟨rfl, rfl, rfl, hx, hat, hin⟩ := hG
  rename api_Shape => s
  rename List api_Decl => d
  rename List api_Entry => l
  dsimp only at hg hd hk hl hx hat hin h40 ⊢
  unfold s39_P59ffffoqdd okE
  have hinI : ∀ c, inI s l (k + 1) c = inI s l k c + (if (s.Events.getD (l.getD k default).Event.toNat default).Obj = c ∧ (s.Events.getD (l.getD k default).Event.toNat default).Kind = 9 then 1 else 0) - (if (s.Events.getD (l.getD k default).Event.toNat default).Obj = c ∧ (s.Events.getD (l.getD k default).Event.toNat default).Kind = 10 then 1 else 0) := fun c => rfl
  have hatI : ∀ e, atI l (k + 1) e = if 0 ≤ atI l k e then atI l k e else if (l.getD k default).Event = e ∨ (l.getD k default).With = e then (k : Int) else -1 := fun e => rfl
  generalize hEE : l.getD k default = E at hinI hatI ⊢
  obtain ⟨ev, wi, fr⟩ := E
  dsimp only at hinI hatI ⊢
  refine Ev.ite (fun hc => Ev.some ⟨⟨fun h => by simp at h, ?_⟩, fun h => by simp at h⟩) (fun hc => ?_)
  · rintro ⟨a, rfl, h1, h2, h3, _⟩
    simp only [Bool.or_eq_true, decide_eq_true_eq] at hc
    omega
  simp only [Bool.or_eq_false_iff, decide_eq_false_iff_not] at hc
  obtain ⟨a, rfl⟩ : ∃ a : Nat, ev = a := ⟨ev.toNat, by omega⟩
  have ha : a < s.Events.length := by omega
  obtain ⟨⟨g1, g2, g3, g4, g5, g6⟩, _⟩ := hg.ev a ha
  simp only [Int.toNat_natCast] at hinI ⊢
  refine Ev.ask ⟨by omega, by omega⟩ ?_
  rw [ev55 hg ha (hd a ha)]
  simp only [Option.bind_some]
  refine Ev.ite (fun hb => Ev.some ⟨⟨fun h => by simp at h, ?_⟩, fun h => by simp at h⟩) (fun hb => ?_)
  · rintro ⟨b, hb', _, _, _, _, _, h6, h7⟩
    obtain rfl : a = b := by omega
    simp only [Bool.or_eq_true, Bool.and_eq_true, beq_iff_eq, Bool.not_eq_true', beq_eq_false_iff_ne] at hb
    rcases hb with hb | hb
    · have := (h6 hb.1).1
      omega
    · by_cases hm : meets s d a = true
      · obtain ⟨_, w, h8, _⟩ := h6 hm
        exact absurd (by rw [hm, eq_comm, decide_eq_true_eq]; omega) hb
      · have hm : meets s d a = false := by simpa using hm
        have h8 := (h7 hm).1
        exact absurd (by rw [hm, eq_comm, decide_eq_false_iff_not]; omega) hb
  simp only [Bool.or_eq_false_iff, Bool.and_eq_false_iff, beq_eq_false_iff_ne, Bool.not_eq_false', beq_iff_eq] at hb
  obtain ⟨hb1, hb2⟩ := hb
  refine Ev.bind (Q := fun r => 0 ≤ fr → (s.Events.getD a default).Kind ≠ 10 → r.length ≤ 40 ∧ ∀ x : Int, x ∈ r ↔ ∃ f : Nat, x = f ∧ f < s.Events.length ∧ src s a f = true) ?_ fun r2 h2 => ?_
  · refine (Ev.may (P := fun r => r.length ≤ 40 ∧ ∀ x : Int, x ∈ r ↔ ∃ f : Nat, x = f ∧ f < s.Events.length ∧ src s a f = true) fun _ => ev57 hg hn ha).mono fun r hr h3 h4 => hr ?_
    rw [beq_eq_false_iff_ne.2 h4, decide_eq_true (show fr ≥ 0 from h3)]; rfl
  refine Ev.bind (Q := fun r => 0 ≤ fr → (s.Events.getD a default).Kind ≠ 10 → (r = true ↔ fr < s.Events.length ∧ src s a fr.toNat = true)) ?_ fun r3 h3 => ?_
  · refine (Ev.may (P := fun r => r = true ↔ fr < s.Events.length ∧ src s a fr.toNat = true) fun hx => ?_).mono fun r hr h3 h4 => hr ?_
    · simp only [Bool.and_eq_true, decide_eq_true_eq, Bool.not_eq_true', beq_eq_false_iff_ne] at hx
      obtain ⟨h3, h4⟩ := h2 hx.1 hx.2
      refine (ev64 (by omega) hn).mono fun b h5 => ?_
      rw [h5, h4]
      constructor
      · rintro ⟨f, rfl, h6, h7⟩; exact ⟨by omega, by simpa using h7⟩
      · rintro ⟨h6, h7⟩; exact ⟨fr.toNat, by omega, by omega, h7⟩
    · rw [beq_eq_false_iff_ne.2 h4, decide_eq_true (show fr ≥ 0 from h3)]; rfl
  refine Ev.ask (fun h4 h5 => ?_) ?_
  · simp only [decide_eq_true_eq] at h4
    simp only [Bool.or_eq_false_iff, beq_eq_false_iff_ne, Bool.not_eq_false'] at h5
    have := ((h3 h4 h5.1).1 h5.2).1
    omega
  have hfat : 0 ≤ fr → fr < s.Events.length → x.getD fr.toNat 0 = atI l k fr + 1 := fun h4 h5 => by
    have := hat fr.toNat (by omega)
    rwa [show ((fr.toNat : Nat) : Int) = fr from by omega] at this
  refine Ev.ite (fun hf => Ev.some ⟨⟨fun h => by simp at h, ?_⟩, fun h => by simp at h⟩) (fun hf => ?_)
  · rintro ⟨b, hb', _, _, h4, _, h5, _⟩
    obtain rfl : a = b := by omega
    simp only [Bool.and_eq_true, Bool.or_eq_true, decide_eq_true_eq, beq_iff_eq, Bool.not_eq_true'] at hf
    obtain ⟨h6, h7, h8⟩ := h5 (by omega)
    have h9 := (h3 hf.1 h6).2 ⟨by omega, h7⟩
    have := hfat hf.1 (by omega)
    rcases hf.2 with (h | h) | h
    · omega
    · rw [h9] at h; cases h
    · omega
  have hfrom : (-1 ≤ fr ∧ fr < s.Events.length) ∧ (0 ≤ fr → (s.Events.getD a default).Kind ≠ 10 ∧ src s a fr.toNat = true ∧ 0 ≤ atI l k fr) := by
    simp only [Bool.and_eq_false_iff, Bool.or_eq_false_iff, decide_eq_false_iff_not, beq_eq_false_iff_ne, Bool.not_eq_false', ne_eq] at hf
    have hlt : 0 ≤ fr → fr < s.Events.length := fun h0 => by
      rcases hf with hf | ⟨⟨h4, h5⟩, h6⟩
      · omega
      · exact ((h3 h0 h4).1 h5).1
    refine ⟨⟨by omega, ?_⟩, fun h0 => ?_⟩
    · by_cases h0 : 0 ≤ fr
      · exact hlt h0
      · omega
    · rcases hf with hf | ⟨⟨h4, h5⟩, h6⟩
      · omega
      · have h7 := (h3 h0 h4).1 h5
        have h8 := hfat h0 h7.1
        have h9 := atI_range l fr k
        exact ⟨h4, h7.2, by omega⟩
  refine Ev.bind (ev58 (g := ⟨s, d, l, x, y⟩) (A := atI l k) hg hn ha (by omega) (by omega) hx fun e he => ⟨hat e he, (atI_range l e k).1⟩) ?_
  rintro ⟨b, g'⟩ ⟨h4, h5⟩
  dsimp only at h4 h5 ⊢
  refine Ev.ite (fun hb => Ev.some ⟨⟨fun h => by simp at h, ?_⟩, fun h => by simp at h⟩) (fun hb => ?_)
  · rintro ⟨b', hb', _, _, _, h6, _⟩
    obtain rfl : a = b' := by omega
    rw [h4.2 h6] at hb; cases hb
  simp only [Bool.not_eq_false'] at hb
  obtain rfl := h5 hb
  have hfit : fits s l k a := h4.1 hb
  clear h5
  dsimp only
  have hset : ∀ e : Nat, e < s.Events.length → (x.set a ((k : Int) + 1)).getD e 0 = (if (e : Int) = a then (k : Int) else atI l k e) + 1 := by
    intro e he
    rw [getD_set (by omega)]
    by_cases h : e = a
    · subst h; simp
    · rw [if_neg h, if_neg (by omega)]; exact hat e he
  refine Ev.ite (fun hm => ?_) (fun hm => ?_)
  · simp only [Bool.not_eq_true'] at hm
    have hwi : wi = -1 := by
      rw [hm] at hb2
      have := hb2.symm
      simp only [decide_eq_false_iff_not] at this
      omega
    have hnum : asks (s.Events.getD a default).Kind = 4 → (d.getD (s.Events.getD a default).Obj.toNat default).Num ≠ 0 := fun h6 h7 => by
      unfold meets at hm
      rw [h6, h7] at hm
      cases hm
    have hob : asks (s.Events.getD a default).Kind = 4 → (s.Events.getD a default).Obj < d.length := fun h6 => (hd a ha (by omega)).1
    have hr := inI_range s l (s.Events.getD a default).Obj k
    refine Ev.bind (ev59 (inI s l k (s.Events.getD a default).Obj) ⟨by omega, by omega⟩ fun h6 => ⟨hin _ g6 (hob h6) (hnum h6), g6, hob h6⟩) ?_
    rintro ⟨b2, g2⟩ ⟨h6, m, rfl, h7⟩
    dsimp only at h6 h7
    have e1 := hinI (s.Events.getD a default).Obj
    simp only [true_and] at e1
    rw [← e1] at h6
    refine Ev.some ⟨?_, fun _ => ⟨rfl, rfl, rfl, ?_, ?_, ?_⟩⟩
    · dsimp only
      rw [h6]
      constructor
      · intro h8
        exact ⟨a, rfl, ha, by omega, hfrom.1, hfit, hfrom.2, fun h => (by rw [hm] at h; cases h), fun _ => ⟨hwi, h8⟩⟩
      · rintro ⟨b', hb', _, _, _, _, _, _, h8⟩
        obtain rfl : a = b' := by omega
        exact (h8 hm).2
    · dsimp only
      rw [List.length_set]; exact hx
    · intro e he
      dsimp only
      rw [hset e he, hatI]
      subst hwi
      by_cases h : (e : Int) = a
      · have := hfit.1
        rw [if_pos h, h, if_neg (by omega), if_pos (Or.inl rfl)]
      · rw [if_neg h, if_neg (show ¬ ((a : Int) = e ∨ (-1 : Int) = e) by omega)]
        have := atI_range l e k
        split <;> omega
    · intro c h8 h9 h10
      dsimp only
      rw [h7, hin c h8 h9 h10, hinI]
  · simp only [Bool.not_eq_false'] at hm
    have hwi : 0 ≤ wi := by
      rw [hm] at hb2
      have := hb2.symm
      simpa using this
    obtain ⟨w, rfl⟩ : ∃ w : Nat, wi = w := ⟨wi.toNat, by omega⟩
    have hw : w < s.Events.length := by omega
    have hm4 : asks (s.Events.getD a default).Kind = 4 := by
      unfold meets at hm
      simp only [Bool.and_eq_true, beq_iff_eq] at hm
      exact hm.1
    have hm0 : (d.getD (s.Events.getD a default).Obj.toNat default).Num = 0 := by
      unfold meets at hm
      simp only [Bool.and_eq_true, beq_iff_eq] at hm
      exact hm.2
    have h9 : (s.Events.getD a default).Kind = 9 := by
      rcases hb1 with h | h
      · rw [hm] at h; cases h
      · have := (asks_pos g4 g5).2.2.2.1 hm4
        omega
    simp only [Int.toNat_natCast]
    refine Ev.ask ⟨by omega, by omega⟩ ?_
    refine Ev.bind (Ev.may fun hq => ev58 (g := ⟨s, d, l, x.set a ((k : Int) + 1), y⟩) (A := fun e => if e = (a : Int) then (k : Int) else atI l k e) hg hn hw (by omega) (by omega) (by dsimp only; rw [List.length_set]; exact hx) fun e he => ⟨hset e he, ?_⟩) ?_
    · have := atI_range l e k
      split <;> omega
    rintro ⟨b2, g2⟩ h5
    refine Ev.some ⟨?_, fun h => ?_⟩
    · dsimp only
      simp only [Bool.and_eq_true, beq_iff_eq, bne_iff_ne, ne_eq] at h5 ⊢
      constructor
      · rintro ⟨h6, h7⟩
        have h8 := (fits_other (l := l) (k := k) hg ha hw h9 h6.2).1 ((h5 h6).1.1 h7)
        exact ⟨a, rfl, ha, by omega, hfrom.1, hfit, hfrom.2, fun _ => ⟨h9, w, rfl, h6.1.1, h6.1.2, h6.2, h8⟩, fun h => (by rw [hm] at h; cases h)⟩
      · rintro ⟨b', hb', _, _, _, _, _, h6, _⟩
        obtain rfl : a = b' := by omega
        obtain ⟨_, w', h7, h8, h10, h11, h12⟩ := h6 hm
        obtain rfl : w = w' := by omega
        exact ⟨⟨⟨h8, h10⟩, h11⟩, (h5 ⟨⟨h8, h10⟩, h11⟩).1.2 ((fits_other hg ha hw h9 h11).2 h12)⟩
    · dsimp only at h ⊢
      rw [Bool.and_eq_true] at h
      obtain ⟨h6, h7⟩ := h
      obtain rfl := (h5 h6).2 h7
      have h8 := (h5 h6).1.1 h7
      simp only [Bool.and_eq_true, beq_iff_eq, bne_iff_ne, ne_eq] at h6
      have h8 := (fits_other (l := l) (k := k) hg ha hw h9 h6.2).1 h8
      refine ⟨rfl, rfl, rfl, ?_, ?_, ?_⟩
      · dsimp only
        rw [List.length_set, List.length_set]; exact hx
      · intro e he
        dsimp only
        rw [getD_set (by rw [List.length_set]; omega), hset e he, hatI]
        by_cases h : (e : Int) = a
        · have := hfit.1
          have e2 : (if 0 ≤ atI l k e then atI l k e else if ((a : Int) = e ∨ (w : Int) = e) then (k : Int) else -1) = k := by rw [h, if_neg (by omega), if_pos (Or.inl rfl)]
          rw [e2, if_pos h]
          split <;> rfl
        · by_cases h' : e = w
          · subst h'
            have := h8.1
            rw [if_pos rfl, if_neg (show ¬ 0 ≤ atI l k e by omega), if_pos (Or.inr rfl)]
          · rw [if_neg h', if_neg h, if_neg (show ¬ ((a : Int) = e ∨ (w : Int) = e) by omega)]
            have := atI_range l e k
            split <;> omega
      · intro c h10 h11 h12
        dsimp only
        have hne : ¬ (s.Events.getD a default).Obj = c := fun h => h12 (by rw [← h]; exact hm0)
        rw [hin c h10 h11 h12, hinI, if_neg (fun h => hne h.1), if_neg (fun h => hne h.1)]
        omega
def code44_1 : CCode :=
 (.block 1
  (.seq
  (.region [⟨(some 18), (.idx 3 (.tmp 14) (.tmp 16)), none⟩,
   ⟨(some 19), (.load true 3 (.tmp 18)), none⟩,
   ⟨(some 9), (.alloc [(.int .i64 0), (.int .i64 0), (.int .i64 0)]), none⟩,
   ⟨none, (.store 3 (.tmp 9) (.tmp 19)), none⟩] none)
  (.seq
   (.region [⟨(some 20), (.mv (.tmp 0)), none⟩,
    ⟨(some 21), (.nilck (.tmp 20)), none⟩,
    ⟨(some 22), (.fad 0 (.tmp 21)), none⟩,
    ⟨(some 23), (.fad 0 (.tmp 22)), none⟩,
    ⟨(some 24), (.load false 1 (.tmp 23)), none⟩,
    ⟨(some 25), (.fad 0 (.tmp 9)), none⟩,
    ⟨(some 26), (.load false 1 (.tmp 25)), none⟩,
    ⟨(some 27), (.idx 4 (.tmp 24) (.tmp 26)), none⟩,
    ⟨(some 28), (.load true 4 (.tmp 27)), none⟩,
    ⟨(some 10), (.alloc [(.int .i64 0), (.int .i64 0), (.int .i64 0), (.int .i64 0)]), none⟩,
    ⟨none, (.store 4 (.tmp 10) (.tmp 28)), none⟩] (some (.take 0 (.take 1 (.take 2 (.take 3 (.take 4 (.take 5 (.take 6 (.take 7 (.take 8 (.alt 9 (.alt 10 .done .alt0) .alt0))))))))))))
   (.seq
   (.region [⟨(some 29), (.fad 2 (.tmp 10)), none⟩,
    ⟨(some 30), (.load false 1 (.tmp 29)), none⟩,
    ⟨(some 31), (.mv (.tmp 1)), none⟩,
    ⟨(some 32), (.bin 0 .eql (.tmp 30) (.tmp 31)), none⟩,
    ⟨(some 33), (.mv (.tmp 32)), none⟩,
    ⟨(some 34), (.fad 3 (.tmp 10)), (some (33, true))⟩,
    ⟨(some 35), (.load false 1 (.tmp 34)), (some (33, true))⟩,
    ⟨(some 36), (.mv (.tmp 2)), (some (33, true))⟩,
    ⟨(some 37), (.bin 0 .eql (.tmp 35) (.tmp 36)), (some (33, true))⟩,
    ⟨(some 38), (.pick (.tmp 33) (.tmp 37) (.const (.bool false))), none⟩] none)
   (.cond (.tmp 38)
    (.region [⟨(some 39), (.mv (.tmp 7)), none⟩,
     ⟨(some 40), (.fad 0 (.tmp 9)), none⟩,
     ⟨(some 41), (.load false 1 (.tmp 40)), none⟩,
     ⟨(some 42), (.lit 0 1 1 [(0, (.tmp 41))]), none⟩,
     ⟨(some 43), (.app 1 8 (.tmp 39) (.tmp 42)), none⟩,
     ⟨(some 7), (.mv (.tmp 43)), none⟩] none)
    .skip)))))
def code44_2 : CCode :=
 (.block 0
  (.loop
  (.seq
   (.region [⟨(some 17), (.bin 0 .lss (.tmp 16) (.tmp 15)), none⟩] none)
   (.seq
   (.cond (.tmp 17)
    .skip
    (.exit 0))
   (.seq
    code44_1
    (.region [⟨(some 44), (.bin 0 .add (.tmp 16) (.const (.int .i64 1))), none⟩,
     ⟨(some 16), (.mv (.tmp 44)), none⟩] none))))))
def code44 : CCode :=
 (.seq
  (.region [⟨(some 6), (.mv (.const (.slice none 0 0))), none⟩] none)
  (.seq
  (.region [⟨(some 7), (.mv (.const (.slice none 0 0))), none⟩] none)
  (.seq
   (.seq
   (.region [⟨(some 11), (.mv (.tmp 0)), none⟩,
    ⟨(some 12), (.nilck (.tmp 11)), none⟩,
    ⟨(some 13), (.fad 3 (.tmp 12)), none⟩,
    ⟨(some 14), (.load false 1 (.tmp 13)), none⟩,
    ⟨(some 15), (.len 1 (.tmp 14)), none⟩,
    ⟨(some 16), (.mv (.const (.int .i64 0))), none⟩] none)
   code44_2)
   (.seq
   (.region [⟨(some 45), (.mv (.tmp 7)), none⟩,
    ⟨(some 6), (.mv (.tmp 45)), none⟩] none)
   .ret))))
theorem tr44 : (Try.f44.body).bind (trCode Try.prog Try.f44.ntmps) = some code44 := by kernel_rfl
inductive O44_fp59dd__2 where
  | ok (b0 : List Int) (v0 : hb_log) (v1 : Int) (v14 : List api_Entry) (v15 : Int) (v16 : Int) (v2 : Int)
def l44_fp59dd__2 (n : Nat) (b0 : List Int) (v0 : hb_log) (v1 : Int) (v14 : List api_Entry) (v15 : Int) (v16 : Int) (v2 : Int) : Option O44_fp59dd__2 :=
  if 0 ≤ v16 ∧ v16 < (v14.length : Int) then
    if 0 ≤ ((v14.getD v16.toNat default).Event) ∧ ((v14.getD v16.toNat default).Event) < (v0.s.Events.length : Int) then
      if (((v0.s.Events.getD ((v14.getD v16.toNat default).Event).toNat default).Kind) == v1) && (((v0.s.Events.getD ((v14.getD v16.toNat default).Event).toNat default).Obj) == v2) then
        if (b0.length + 1) * 8 ≤ 140737488355328 then
          some (.ok (b0 ++ ([(v14.getD v16.toNat default).Event] : List Int)) v0 v1 v14 v15 v16 v2)
        else none
      else
        some (.ok b0 v0 v1 v14 v15 v16 v2)
    else none
  else none
inductive O44_fp59dd__3 where
  | ok (b0 : List Int)
def l44_fp59dd__3 (n : Nat) : Nat → (List Int) → hb_log → Int → (List api_Entry) → Int → Int → Int → Option O44_fp59dd__3
  | 0, _, _, _, _, _, _, _ => none
  | m + 1, b0, v0, v1, v14, v15, v16, v2 =>
    if decide (v16 < v15) then
      (match l44_fp59dd__2 n b0 v0 v1 v14 v15 v16 v2 with
      | none => none
      | some (.ok b0_94 v0_94 v1_94 v14_94 v15_94 v16_94 v2_94) =>
        l44_fp59dd__3 n m b0_94 v0_94 v1_94 v14_94 v15_94 (w64 (v16_94 + 1)) v2_94)
    else
      some (.ok b0)
def s44_fp59dd (n : Nat) (p0 : hb_log) (p1 : Int) (p2 : Int) : Option (List Int) :=
  (match l44_fp59dd__3 n n ([] : List Int) p0 p1 p0.l (p0.l.length : Int) 0 p2 with
  | none => none
  | some (.ok b0_96) =>
    some b0_96)
def E44_fp59dd (r : List Int) (s : AS) : Prop := resOf s (.one 6) = some (.own 0 1 0 r.length) ∧ EndSt [(0, 0)] s.st [(0, .li 1 cI 0 r)] ∧ PinEnd (fun _ => none) s.st []
theorem t44_fp59dd__2 {n : Nat} {b0 : List Int} {v0 : hb_log} {v1 : Int} {v14 : List api_Entry} {v15 : Int} {v16 : Int} {v2 : Int} {out : O44_fp59dd__2} (h : l44_fp59dd__2 n b0 v0 v1 v14 v15 v16 v2 = some out) {Q : Ex → AS → Prop} (hok : ∀ b0 v0 v1 v14 v15 v16 v2, out = .ok b0 v0 v1 v14 v15 v16 v2 → Q .normal ⟨[(0, .fpt 6 (hb_log.cell v0)), (1, I v1), (2, I v2), (7, .own 0 1 0 b0.length), (14, api_Entry.sl v14), (15, I v15), (16, I v16)], [(0, .li 1 cI 0 b0)], 1⟩) : CWP Try.prog Try.f44.ntmps code44_1 Q ⟨[(0, .fpt 6 (hb_log.cell v0)), (1, I v1), (2, I v2), (7, .own 0 1 0 b0.length), (14, api_Entry.sl v14), (15, I v15), (16, I v16)], [(0, .li 1 cI 0 b0)], 1⟩ := by
  unfold l44_fp59dd__2 at h
  refine CWP.block ?_
  refine CWP.seq ?_
  obtain ⟨hs87, h⟩ := ite_some h
  refine CWP.regionT ⟨[(0, .fpt 6 (hb_log.cell v0)), (1, I v1), (2, I v2), (7, .own 0 1 0 b0.length), (9, .ptr 17 0), (14, api_Entry.sl v14), (15, I v15), (16, I v16)], [(0, .li 1 cI 0 b0), (17, .box [I ((v14.getD v16.toNat default).Event), I ((v14.getD v16.toNat default).With), I ((v14.getD v16.toNat default).From)])], 33⟩ ?_ ?_
  · refine And.intro hs87 ?_
    refine SemOp.ofT ?_
    refine ex_refl ?_
    exact Le.keep (live := [0, 1, 2, 7, 9, 14, 15, 16]) (names := [0, 17]) (nx := 33) rfl
  refine CWP.seq ?_
  obtain ⟨hs88, h⟩ := ite_some h
  refine CWP.drawT [] [] ⟨[(0, .fpt 6 (hb_log.cell v0)), (1, I v1), (2, I v2), (7, .own 0 1 0 b0.length), (9, .ptr 17 0), (10, .ptr 105 0), (14, api_Entry.sl v14), (15, I v15), (16, I v16)], [(0, .li 1 cI 0 b0), (17, .box [I ((v14.getD v16.toNat default).Event), I ((v14.getD v16.toNat default).With), I ((v14.getD v16.toNat default).From)]), (105, .box [I ((v0.s.Events.getD ((v14.getD v16.toNat default).Event).toNat default).Proc), I ((v0.s.Events.getD ((v14.getD v16.toNat default).Event).toNat default).Inst), I ((v0.s.Events.getD ((v14.getD v16.toNat default).Event).toNat default).Kind), I ((v0.s.Events.getD ((v14.getD v16.toNat default).Event).toNat default).Obj)])], 121⟩ ?_ ?_
  · refine And.intro rfl ?_
    iterate 7 refine And.intro rfl ?_
    refine And.intro hs88 ?_
    refine And.intro rfl ?_
    refine And.intro ?_ ?_
    · refine And.intro rfl ?_
      refine And.intro ?_ ?_
      · refine And.intro rfl ?_
        refine SemOp.ofD rfl ?_
        refine ex_refl ?_
        exact Le.keep (live := [0, 1, 2, 7, 9, 10, 14, 15, 16]) (names := [0, 17, 105]) (nx := 121) rfl
      · exact trivial
    · exact trivial
  refine CWP.seq ?_
  refine CWP.regionT ⟨[(0, .fpt 6 (hb_log.cell v0)), (1, I v1), (2, I v2), (7, .own 0 1 0 b0.length), (9, .ptr 17 0), (14, api_Entry.sl v14), (15, I v15), (16, I v16), (38, .tst ((((v0.s.Events.getD ((v14.getD v16.toNat default).Event).toNat default).Kind) == v1) && (((v0.s.Events.getD ((v14.getD v16.toNat default).Event).toNat default).Obj) == v2)))], [(0, .li 1 cI 0 b0), (17, .box [I ((v14.getD v16.toNat default).Event), I ((v14.getD v16.toNat default).With), I ((v14.getD v16.toNat default).From)])], 201⟩ ?_ ?_
  · refine And.intro (fun hg90 => ?_) (fun hg90 => ?_)
    · have hg90 : (((v0.s.Events.getD ((v14.getD v16.toNat default).Event).toNat default).Kind) == v1) = true := hg90
      exact Le.trans (Le.rep (t := 38) rfl (RepLe.fr rfl (FrLe.tst2 (by simp only [hg90, sB, reduceIte])))) (Le.keep (live := [0, 1, 2, 7, 9, 14, 15, 16, 38]) (names := [0, 17]) (nx := 201) rfl)
    · have hg90 : (((v0.s.Events.getD ((v14.getD v16.toNat default).Event).toNat default).Kind) == v1) = false := hg90
      exact Le.trans (Le.rep (t := 38) rfl (RepLe.fr rfl (FrLe.tst (by simp only [hg90, sB, reduceIte])))) (Le.keep (live := [0, 1, 2, 7, 9, 14, 15, 16, 38]) (names := [0, 17]) (nx := 201) rfl)
  refine CWP.cond (And.intro (fun hc => ?_) (fun hc => ?_))
  · have h := ite_t h hc
    obtain ⟨hs89, h⟩ := ite_some h
    refine CWP.regionT ⟨[(0, .fpt 6 (hb_log.cell v0)), (1, I v1), (2, I v2), (7, .own 0 1 0 ((b0 ++ ([(v14.getD v16.toNat default).Event] : List Int)).length)), (14, api_Entry.sl v14), (15, I v15), (16, I v16)], [(0, .li 1 cI 0 (b0 ++ ([(v14.getD v16.toNat default).Event] : List Int)))], 1⟩ ?_ ?_
    · refine SemOp.ofT ?_
      refine ex_arr ([(v14.getD v16.toNat default).Event] : List Int) (x := 225) (sz := 1) (n := 1) (cell := cI) (d := 0) rfl (by intro j c hj hc; match j, hj with | 0, _ => (match c, hc with | 0, _ => rfl | _ + 1, h => exact absurd h (by omega)) | _ + 1, h => exact absurd h (by omega)) ?_
      refine SemOp.ofT ?_
      refine And.intro ⟨Nat.le_refl _, hs89, Nat.le_refl _⟩ ?_
      refine ex_arr (b0 ++ ([(v14.getD v16.toNat default).Event] : List Int)) (x := 0) (cell := cI) (d := 0) rfl (li_ap rfl rfl) ?_
      exact Le.trans (Le.trans (Le.list (x := 0) rfl (cell := cI) (d := 0) (l := b0 ++ ([(v14.getD v16.toNat default).Event] : List Int)) (len_app (l := b0) (k := ([(v14.getD v16.toNat default).Event] : List Int)) (n := b0.length) (m := 1) rfl rfl) (fun _ _ _ _ => rfl)) (Le.trans (Le.rep (t := 7) rfl (RepLe.ownLen (len_app (l := b0) (k := ([(v14.getD v16.toNat default).Event] : List Int)) (n := b0.length) (m := 1) rfl rfl).symm)) (Le.keep (live := [0, 1, 2, 7, 14, 15, 16]) (names := [0]) (nx := 249) rfl))) (Le.keep (live := [0, 1, 2, 7, 14, 15, 16]) (names := [0]) (nx := 1) rfl)
    exact hok _ _ _ _ _ _ _ (Option.some.inj h).symm
  · have h := ite_f h hc
    refine CWP.skipL (Le.keep (live := [0, 1, 2, 7, 14, 15, 16]) (names := [0]) (nx := 1) rfl) (s' := ⟨[(0, .fpt 6 (hb_log.cell v0)), (1, I v1), (2, I v2), (7, .own 0 1 0 b0.length), (14, api_Entry.sl v14), (15, I v15), (16, I v16)], [(0, .li 1 cI 0 b0)], 1⟩) ?_
    exact hok _ _ _ _ _ _ _ (Option.some.inj h).symm
theorem t44_fp59dd__3 {n fuel : Nat} {b0 : List Int} {v0 : hb_log} {v1 : Int} {v14 : List api_Entry} {v15 : Int} {v16 : Int} {v2 : Int} {out : O44_fp59dd__3} (h : l44_fp59dd__3 n fuel b0 v0 v1 v14 v15 v16 v2 = some out) {Q : Ex → AS → Prop} (hok : ∀ b0, out = .ok b0 → Q .normal ⟨[(7, .own 0 1 0 b0.length)], [(0, .li 1 cI 0 b0)], 1⟩) : CWP Try.prog Try.f44.ntmps code44_2 Q ⟨[(0, .fpt 6 (hb_log.cell v0)), (1, I v1), (2, I v2), (7, .own 0 1 0 b0.length), (14, api_Entry.sl v14), (15, I v15), (16, I v16)], [(0, .li 1 cI 0 b0)], 1⟩ := by
  refine CWP.block ?_
  refine CWP.loop (fun k s => ∃ b0 : List Int, ∃ v0 : hb_log, ∃ v1 : Int, ∃ v14 : List api_Entry, ∃ v15 : Int, ∃ v16 : Int, ∃ v2 : Int, s = ⟨[(0, .fpt 6 (hb_log.cell v0)), (1, I v1), (2, I v2), (7, .own 0 1 0 b0.length), (14, api_Entry.sl v14), (15, I v15), (16, I v16)], [(0, .li 1 cI 0 b0)], 1⟩ ∧ l44_fp59dd__3 n k b0 v0 v1 v14 v15 v16 v2 = some out) fuel ⟨b0, v0, v1, v14, v15, v16, v2, rfl, h⟩ ?_
  clear h
  rintro k s ⟨b0, v0, v1, v14, v15, v16, v2, rfl, h⟩
  cases k with
  | zero => cases h
  | succ m =>
    rw [l44_fp59dd__3] at h
    refine CWP.seq ?_
    refine CWP.regionT ⟨[(0, .fpt 6 (hb_log.cell v0)), (1, I v1), (2, I v2), (7, .own 0 1 0 b0.length), (14, api_Entry.sl v14), (15, I v15), (16, I v16), (17, .tst (decide (v16 < v15)))], [(0, .li 1 cI 0 b0)], 9⟩ ?_ ?_
    · exact Le.keep (live := [0, 1, 2, 7, 14, 15, 16, 17]) (names := [0]) (nx := 9) rfl
    refine CWP.seq ?_
    refine CWP.cond (And.intro (fun hc => ?_) (fun hc => ?_))
    · have h := ite_t h hc
      refine CWP.skip ?_
      refine CWP.seq ?_
      generalize hn93 : l44_fp59dd__2 n b0 v0 v1 v14 v15 v16 v2 = o93 at h
      rcases o93 with _ | o93
      · cases h
      refine CWP.weaken (s' := ⟨[(0, .fpt 6 (hb_log.cell v0)), (1, I v1), (2, I v2), (7, .own 0 1 0 b0.length), (14, api_Entry.sl v14), (15, I v15), (16, I v16)], [(0, .li 1 cI 0 b0)], 1⟩) (Le.keep (live := [0, 1, 2, 7, 14, 15, 16]) (names := [0]) (nx := 1) rfl) ?_
      refine t44_fp59dd__2 hn93 ?_
      · intro b0_94 v0_94 v1_94 v14_94 v15_94 v16_94 v2_94 e
        subst e
        dsimp only at h
        refine CWP.regionT ⟨[(0, .fpt 6 (hb_log.cell v0_94)), (1, I v1_94), (2, I v2_94), (7, .own 0 1 0 b0_94.length), (14, api_Entry.sl v14_94), (15, I v15_94), (16, I (w64 (v16_94 + 1)))], [(0, .li 1 cI 0 b0_94)], 1⟩ ?_ ?_
        · exact Le.trans (Le.keep (live := [0, 1, 2, 7, 14, 15, 16]) (names := [0]) (nx := 17) rfl) (Le.keep (live := [0, 1, 2, 7, 14, 15, 16]) (names := [0]) (nx := 1) rfl)
        exact ⟨m, Nat.lt_succ_self m, _, _, _, _, _, _, _, rfl, h⟩
    · have h := ite_f h hc
      refine CWP.exitL (Le.keep (live := [7]) (names := [0]) (nx := 1) rfl) (s' := ⟨[(7, .own 0 1 0 b0.length)], [(0, .li 1 cI 0 b0)], 1⟩) ?_
      exact hok _ (Option.some.inj h).symm
theorem wf44_fp59dd {n : Nat} {p0 : hb_log} {p1 : Int} {p2 : Int} {r : List Int} (h : s44_fp59dd n p0 p1 p2 = some r) : CWP Try.prog Try.f44.ntmps code44 (AtE (E44_fp59dd r)) ⟨[(0, .fpt 6 (hb_log.cell p0)), (1, I p1), (2, I p2)], [], 0⟩ := by
  unfold s44_fp59dd at h
  refine CWP.seq ?_
  refine CWP.regionT ⟨[(0, .fpt 6 (hb_log.cell p0)), (1, I p1), (2, I p2)], [], 8⟩ ?_ ?_
  · exact Le.keep (live := [0, 1, 2]) (names := []) (nx := 8) rfl
  refine CWP.seq ?_
  refine CWP.regionT ⟨[(0, .fpt 6 (hb_log.cell p0)), (1, I p1), (2, I p2), (7, .raw (.slice none 0 0))], [], 16⟩ ?_ ?_
  · exact Le.keep (live := [0, 1, 2, 7]) (names := []) (nx := 16) rfl
  refine CWP.seq ?_
  refine CWP.seq ?_
  refine CWP.regionT ⟨[(0, .fpt 6 (hb_log.cell p0)), (1, I p1), (2, I p2), (7, .raw (.slice none 0 0)), (14, api_Entry.sl p0.l), (15, I (p0.l.length : Int)), (16, I 0)], [], 64⟩ ?_ ?_
  · exact Le.keep (live := [0, 1, 2, 7, 14, 15, 16]) (names := []) (nx := 64) rfl
  generalize hn95 : l44_fp59dd__3 n n ([] : List Int) p0 p1 p0.l (p0.l.length : Int) 0 p2 = o95 at h
  rcases o95 with _ | o95
  · cases h
  refine CWP.weaken (s' := ⟨[(0, .fpt 6 (hb_log.cell p0)), (1, I p1), (2, I p2), (7, .own 0 1 0 (([] : List Int).length)), (14, api_Entry.sl p0.l), (15, I (p0.l.length : Int)), (16, I 0)], [(0, .li 1 cI 0 ([] : List Int))], 1⟩) (Le.trans (Le.nilOwn (t := 7) (sz := 1) (f := fun j => cI (([] : List Int).getD j 0)) rfl (by decide)) (Le.ren [(0, 64)] rfl ⟨rfl, rfl, rfl, rfl, rfl, rfl, rfl, trivial⟩ ⟨⟨_, rfl, rfl⟩, trivial⟩)) ?_
  refine t44_fp59dd__3 hn95 ?_
  · intro b0_96 e
    subst e
    dsimp only at h
    refine CWP.seq ?_
    refine CWP.regionT ⟨[(6, .own 0 1 0 b0_96.length)], [(0, .li 1 cI 0 b0_96)], 17⟩ ?_ ?_
    · exact Le.keep (live := [6]) (names := [0]) (nx := 17) rfl
    refine CWP.weaken (s' := ⟨[(6, .own 0 1 0 b0_96.length)], [(0, .li 1 cI 0 b0_96)], 1⟩) (Le.keep (live := [6]) (names := [0]) (nx := 1) rfl) ?_
    refine CWP.ret ?_
    have e := Option.some.inj h
    subst e
    exact ⟨rfl, ⟨⟨_, rfl, rfl⟩, trivial⟩, trivial⟩
theorem c44_fp59dd {n : Nat} {p0 : hb_log} {p1 : Int} {p2 : Int} {r : List Int} (h : s44_fp59dd n p0 p1 p2 = some r) : FC Try.prog 44 [.fpt 6 (hb_log.cell p0), I p1, I p2] (.own 0 1 0 r.length) [(0, .li 1 cI 0 r)] true := FC.new rfl rfl (RC.ofE (st := []) (r := .own 0 1 0 r.length) (st' := [(0, .li 1 cI 0 r)]) (pins := []) 0 [(0, 0)] (fn := Try.f44) (cc := code44) (res := .one 6) (by kernel_rfl) (by kernel_rfl) tr44 (by kernel_rfl) (Nat.le_of_ble_eq_true rfl) rfl rfl (fun β => wf44_fp59dd h)) rfl ⟨(fun _ _ _ _ => rfl), trivial⟩
def code43_1 : CCode :=
 (.seq
  (.region [⟨(some 25), (.mv (.tmp 10)), none⟩,
   ⟨(some 26), (.mv (.tmp 8)), none⟩,
   ⟨(some 27), (.len 1 (.tmp 26)), none⟩,
   ⟨(some 28), (.bin 0 .lss (.tmp 25) (.tmp 27)), none⟩] none)
  (.cond (.tmp 28)
  (.region [⟨(some 29), (.mv (.tmp 1)), none⟩,
   ⟨(some 30), (.mv (.tmp 8)), none⟩,
   ⟨(some 31), (.mv (.tmp 10)), none⟩,
   ⟨(some 32), (.idx 1 (.tmp 30) (.tmp 31)), none⟩,
   ⟨(some 33), (.load false 1 (.tmp 32)), none⟩,
   ⟨(some 34), (.idx 1 (.tmp 29) (.tmp 33)), none⟩,
   ⟨(some 35), (.load false 1 (.tmp 34)), none⟩,
   ⟨(some 36), (.mv (.tmp 11)), none⟩,
   ⟨(some 37), (.idx 1 (.tmp 35) (.tmp 36)), none⟩,
   ⟨none, (.store 1 (.tmp 37) (.const (.bool true))), none⟩] none)
  .skip))
def code43_2 : CCode :=
 (.block 1
  (.seq
  (.region [⟨(some 22), (.mv (.tmp 20)), none⟩,
   ⟨(some 23), (.idx 1 (.tmp 18) (.tmp 20)), none⟩,
   ⟨(some 24), (.load false 1 (.tmp 23)), none⟩,
   ⟨(some 10), (.mv (.tmp 22)), none⟩,
   ⟨(some 11), (.mv (.tmp 24)), none⟩] none)
  (.seq
   code43_1
   (.seq
   (.region [⟨(some 38), (.mv (.tmp 10)), none⟩,
    ⟨(some 39), (.mv (.tmp 3)), none⟩,
    ⟨(some 40), (.bin 0 .add (.tmp 38) (.tmp 39)), none⟩,
    ⟨(some 41), (.mv (.tmp 8)), none⟩,
    ⟨(some 42), (.len 1 (.tmp 41)), none⟩,
    ⟨(some 43), (.bin 0 .lss (.tmp 40) (.tmp 42)), none⟩] none)
   (.cond (.tmp 43)
    (.region [⟨(some 44), (.mv (.tmp 1)), none⟩,
     ⟨(some 45), (.mv (.tmp 11)), none⟩,
     ⟨(some 46), (.idx 1 (.tmp 44) (.tmp 45)), none⟩,
     ⟨(some 47), (.load false 1 (.tmp 46)), none⟩,
     ⟨(some 48), (.mv (.tmp 8)), none⟩,
     ⟨(some 49), (.mv (.tmp 10)), none⟩,
     ⟨(some 50), (.mv (.tmp 3)), none⟩,
     ⟨(some 51), (.bin 0 .add (.tmp 49) (.tmp 50)), none⟩,
     ⟨(some 52), (.idx 1 (.tmp 48) (.tmp 51)), none⟩,
     ⟨(some 53), (.load false 1 (.tmp 52)), none⟩,
     ⟨(some 54), (.idx 1 (.tmp 47) (.tmp 53)), none⟩,
     ⟨none, (.store 1 (.tmp 54) (.const (.bool true))), none⟩] (some (.take 0 (.take 1 (.take 2 (.take 3 (.take 4 (.take 5 (.take 6 (.take 7 (.take 8 (.take 9 (.take 10 (.alt 11 .done .alt0))))))))))))))
    .skip)))))
def code43_3 : CCode :=
 (.block 0
  (.loop
  (.seq
   (.region [⟨(some 21), (.bin 0 .lss (.tmp 20) (.tmp 19)), none⟩] none)
   (.seq
   (.cond (.tmp 21)
    .skip
    (.exit 0))
   (.seq
    code43_2
    (.region [⟨(some 55), (.bin 0 .add (.tmp 20) (.const (.int .i64 1))), none⟩,
     ⟨(some 20), (.mv (.tmp 55)), none⟩] none))))))
def code43 : CCode :=
 (.seq
  (.region [⟨(some 12), (.mv (.tmp 0)), none⟩,
   ⟨(some 13), (.mv (.tmp 2)), none⟩,
   ⟨(some 14), (.call (.func 44) [(.tmp 12), (.const (.int .i64 9)), (.tmp 13)]), none⟩,
   ⟨(some 15), (.mv (.tmp 0)), none⟩,
   ⟨(some 16), (.mv (.tmp 2)), none⟩,
   ⟨(some 17), (.call (.func 44) [(.tmp 15), (.const (.int .i64 10)), (.tmp 16)]), none⟩,
   ⟨(some 8), (.mv (.tmp 14)), none⟩,
   ⟨(some 9), (.mv (.tmp 17)), none⟩] none)
  (.seq
  (.region [⟨(some 18), (.mv (.tmp 9)), none⟩,
   ⟨(some 19), (.len 1 (.tmp 18)), none⟩,
   ⟨(some 20), (.mv (.const (.int .i64 0))), none⟩] none)
  code43_3))
theorem tr43 : (Try.f43.body).bind (trCode Try.prog Try.f43.ntmps) = some code43 := by kernel_rfl
inductive O43_fp59mt42dd__1 where
  | ok (b0 : List (List Bool)) (b2 : List Int) (b3 : List Int) (v10 : Int) (v11 : Int) (v19 : Int) (v20 : Int) (v3 : Int)
def l43_fp59mt42dd__1 (n : Nat) (b0 : List (List Bool)) (b2 : List Int) (b3 : List Int) (v10 : Int) (v11 : Int) (v19 : Int) (v20 : Int) (v3 : Int) : Option O43_fp59mt42dd__1 :=
  if decide (v10 < (b2.length : Int)) then
    if 0 ≤ v10 ∧ v10 < (b2.length : Int) then
      if 0 ≤ (b2.getD v10.toNat 0) ∧ (b2.getD v10.toNat 0) < (b0.length : Int) then
        if 0 ≤ v11 ∧ v11 < (((b0.getD (b2.getD v10.toNat 0).toNat []).length) : Int) then
          some (.ok (b0.set ((b2.getD v10.toNat 0).toNat) ((b0.getD (b2.getD v10.toNat 0).toNat []).set v11.toNat true)) b2 b3 v10 v11 v19 v20 v3)
        else none
      else none
    else none
  else
    some (.ok b0 b2 b3 v10 v11 v19 v20 v3)
inductive O43_fp59mt42dd__2 where
  | ok (b0 : List (List Bool)) (b2 : List Int) (b3 : List Int) (v19 : Int) (v20 : Int) (v3 : Int)
def l43_fp59mt42dd__2 (n : Nat) (b0 : List (List Bool)) (b2 : List Int) (b3 : List Int) (v19 : Int) (v20 : Int) (v3 : Int) : Option O43_fp59mt42dd__2 :=
  if 0 ≤ v20 ∧ v20 < (b3.length : Int) then
    (match l43_fp59mt42dd__1 n b0 b2 b3 v20 (b3.getD v20.toNat 0) v19 v20 v3 with
    | none => none
    | some (.ok b0_118 b2_118 b3_118 v10_118 v11_118 v19_118 v20_118 v3_118) =>
      if decide ((w64 (v10_118 + v3_118)) < (b2_118.length : Int)) then
        if 0 ≤ v11_118 ∧ v11_118 < (b0_118.length : Int) then
          if 0 ≤ (w64 (v10_118 + v3_118)) ∧ (w64 (v10_118 + v3_118)) < (b2_118.length : Int) then
            if 0 ≤ (b2_118.getD (w64 (v10_118 + v3_118)).toNat 0) ∧ (b2_118.getD (w64 (v10_118 + v3_118)).toNat 0) < (((b0_118.getD v11_118.toNat []).length) : Int) then
              some (.ok (b0_118.set v11_118.toNat ((b0_118.getD v11_118.toNat []).set (b2_118.getD (w64 (v10_118 + v3_118)).toNat 0).toNat true)) b2_118 b3_118 v19_118 v20_118 v3_118)
            else none
          else none
        else none
      else
        some (.ok b0_118 b2_118 b3_118 v19_118 v20_118 v3_118))
  else none
inductive O43_fp59mt42dd__3 where
  | ok (b0 : List (List Bool))
def l43_fp59mt42dd__3 (n : Nat) : Nat → (List (List Bool)) → (List Int) → (List Int) → Int → Int → Int → Option O43_fp59mt42dd__3
  | 0, _, _, _, _, _, _ => none
  | m + 1, b0, b2, b3, v19, v20, v3 =>
    if decide (v20 < v19) then
      (match l43_fp59mt42dd__2 n b0 b2 b3 v19 v20 v3 with
      | none => none
      | some (.ok b0_125 b2_125 b3_125 v19_125 v20_125 v3_125) =>
        l43_fp59mt42dd__3 n m b0_125 b2_125 b3_125 v19_125 (w64 (v20_125 + 1)) v3_125)
    else
      some (.ok b0)
def s43_fp59mt42dd (n : Nat) (p0 : hb_log) (p1 : List (List Bool)) (p2 : Int) (p3 : Int) : Option (List (List Bool)) :=
  (s44_fp59dd n p0 9 p2).bind fun r102 =>
  (s44_fp59dd n p0 10 p2).bind fun r103 =>
  (match l43_fp59mt42dd__3 n n p1 r102 r103 (r103.length : Int) 0 p3 with
  | none => none
  | some (.ok b0_127) =>
    some b0_127)
def E43_fp59mt42dd (β : Name → Option Nat) (r : List (List Bool)) (s : AS) : Prop := resOf s (.many []) = some (.tup []) ∧ EndSt [(0, 0)] s.st [(0, .ml cB false r)] ∧ PinEnd β s.st [(1, 0)]
theorem t43_fp59mt42dd__1 {n : Nat} {β : Name → Option Nat} {b0 : List (List Bool)} {b2 : List Int} {b3 : List Int} {v10 : Int} {v11 : Int} {v19 : Int} {v20 : Int} {v3 : Int} {out : O43_fp59mt42dd__1} (h : l43_fp59mt42dd__1 n b0 b2 b3 v10 v11 v19 v20 v3 = some out) {Q : Ex → AS → Prop} (hok : ∀ b0 b2 b3 v10 v11 v19 v20 v3, out = .ok b0 b2 b3 v10 v11 v19 v20 v3 → Q .normal ⟨[(1, .own 0 1 0 b0.length), (3, I v3), (8, .own 2 1 0 b2.length), (10, I v10), (11, I v11), (18, .own 3 1 0 b3.length), (19, I v19), (20, I v20)], [(0, .ml cB false b0), (1, .pin 0 (β 0)), (2, .li 1 cI 0 b2), (3, .li 1 cI 0 b3)], 4⟩) : CWP Try.prog Try.f43.ntmps code43_1 Q ⟨[(1, .own 0 1 0 b0.length), (3, I v3), (8, .own 2 1 0 b2.length), (10, I v10), (11, I v11), (18, .own 3 1 0 b3.length), (19, I v19), (20, I v20)], [(0, .ml cB false b0), (1, .pin 0 (β 0)), (2, .li 1 cI 0 b2), (3, .li 1 cI 0 b3)], 4⟩ := by
  unfold l43_fp59mt42dd__1 at h
  refine CWP.seq ?_
  refine CWP.regionT ⟨[(1, .own 0 1 0 b0.length), (3, I v3), (8, .own 2 1 0 b2.length), (10, I v10), (11, I v11), (18, .own 3 1 0 b3.length), (19, I v19), (20, I v20), (28, .tst (decide (v10 < (b2.length : Int))))], [(0, .ml cB false b0), (1, .pin 0 (β 0)), (2, .li 1 cI 0 b2), (3, .li 1 cI 0 b3)], 36⟩ ?_ ?_
  · exact Le.keep (live := [1, 3, 8, 10, 11, 18, 19, 20, 28]) (names := [0, 1, 2, 3]) (nx := 36) rfl
  refine CWP.cond (And.intro (fun hc => ?_) (fun hc => ?_))
  · have h := ite_t h hc
    obtain ⟨hs108, h⟩ := ite_some h
    obtain ⟨hs109, h⟩ := ite_some h
    obtain ⟨hs110, h⟩ := ite_some h
    refine CWP.regionT ⟨[(1, .own 0 1 0 ((b0.set ((b2.getD v10.toNat 0).toNat) ((b0.getD (b2.getD v10.toNat 0).toNat []).set v11.toNat true)).length)), (3, I v3), (8, .own 2 1 0 b2.length), (10, I v10), (11, I v11), (18, .own 3 1 0 b3.length), (19, I v19), (20, I v20)], [(0, .ml cB false (b0.set ((b2.getD v10.toNat 0).toNat) ((b0.getD (b2.getD v10.toNat 0).toNat []).set v11.toNat true))), (1, .pin 0 (β 0)), (2, .li 1 cI 0 b2), (3, .li 1 cI 0 b3)], 4⟩ ?_ ?_
    · refine And.intro hs108 ?_
      refine And.intro (idx_lt hs108) ?_
      refine And.intro hs109 ?_
      refine And.intro (idx_lt hs109) ?_
      refine And.intro hs110 ?_
      refine SemOp.ofT ?_
      refine And.intro ⟨idx_lt hs109, idx_lt hs110⟩ ?_
      refine ex_cellm b0 b0 true (x := 0) (cell := cB) (d := false) rfl rfl (fun _ => rfl) (idx_lt hs109) (idx_lt hs110) rfl ?_
      exact Le.trans (Le.trans (Le.mat (x := 0) (n' := (b0.set ((b2.getD v10.toNat 0).toNat) ((b0.getD (b2.getD v10.toNat 0).toNat []).set v11.toNat true)).length) (len' := fun j => ((b0.set ((b2.getD v10.toNat 0).toNat) ((b0.getD (b2.getD v10.toNat 0).toNat []).set v11.toNat true)).getD j []).length) (f' := fun j c => cB (((b0.set ((b2.getD v10.toNat 0).toNat) ((b0.getD (b2.getD v10.toNat 0).toNat []).set v11.toNat true)).getD j []).getD c false) 0) rfl ((List.length_set).trans rfl) (fun j _ => (fun k => (ml_len k).trans ((fun _ => rfl) k)) j) (fun _ _ _ _ => rfl)) (Le.trans (Le.rep (t := 1) rfl (RepLe.ownLen ((List.length_set).trans rfl).symm)) (Le.keep (live := [1, 3, 8, 10, 11, 18, 19, 20]) (names := [0, 1, 2, 3]) (nx := 116) rfl))) (Le.keep (live := [1, 3, 8, 10, 11, 18, 19, 20]) (names := [0, 1, 2, 3]) (nx := 4) rfl)
    exact hok _ _ _ _ _ _ _ _ (Option.some.inj h).symm
  · have h := ite_f h hc
    refine CWP.skipL (Le.keep (live := [1, 3, 8, 10, 11, 18, 19, 20]) (names := [0, 1, 2, 3]) (nx := 4) rfl) (s' := ⟨[(1, .own 0 1 0 b0.length), (3, I v3), (8, .own 2 1 0 b2.length), (10, I v10), (11, I v11), (18, .own 3 1 0 b3.length), (19, I v19), (20, I v20)], [(0, .ml cB false b0), (1, .pin 0 (β 0)), (2, .li 1 cI 0 b2), (3, .li 1 cI 0 b3)], 4⟩) ?_
    exact hok _ _ _ _ _ _ _ _ (Option.some.inj h).symm
theorem t43_fp59mt42dd__2 {n : Nat} {β : Name → Option Nat} {b0 : List (List Bool)} {b2 : List Int} {b3 : List Int} {v19 : Int} {v20 : Int} {v3 : Int} {out : O43_fp59mt42dd__2} (h : l43_fp59mt42dd__2 n b0 b2 b3 v19 v20 v3 = some out) {Q : Ex → AS → Prop} (hok : ∀ b0 b2 b3 v19 v20 v3, out = .ok b0 b2 b3 v19 v20 v3 → Q .normal ⟨[(1, .own 0 1 0 b0.length), (3, I v3), (8, .own 2 1 0 b2.length), (18, .own 3 1 0 b3.length), (19, I v19), (20, I v20)], [(0, .ml cB false b0), (1, .pin 0 (β 0)), (2, .li 1 cI 0 b2), (3, .li 1 cI 0 b3)], 4⟩) : CWP Try.prog Try.f43.ntmps code43_2 Q ⟨[(1, .own 0 1 0 b0.length), (3, I v3), (8, .own 2 1 0 b2.length), (18, .own 3 1 0 b3.length), (19, I v19), (20, I v20)], [(0, .ml cB false b0), (1, .pin 0 (β 0)), (2, .li 1 cI 0 b2), (3, .li 1 cI 0 b3)], 4⟩ := by
  unfold l43_fp59mt42dd__2 at h
  refine CWP.block ?_
  refine CWP.seq ?_
  obtain ⟨hs116, h⟩ := ite_some h
  refine CWP.regionT ⟨[(1, .own 0 1 0 b0.length), (3, I v3), (8, .own 2 1 0 b2.length), (10, I v20), (11, I (b3.getD v20.toNat 0)), (18, .own 3 1 0 b3.length), (19, I v19), (20, I v20)], [(0, .ml cB false b0), (1, .pin 0 (β 0)), (2, .li 1 cI 0 b2), (3, .li 1 cI 0 b3)], 44⟩ ?_ ?_
  · refine And.intro hs116 ?_
    refine And.intro (idx_lt hs116) ?_
    exact Le.keep (live := [1, 3, 8, 10, 11, 18, 19, 20]) (names := [0, 1, 2, 3]) (nx := 44) rfl
  refine CWP.seq ?_
  generalize hn117 : l43_fp59mt42dd__1 n b0 b2 b3 v20 (b3.getD v20.toNat 0) v19 v20 v3 = o117 at h
  rcases o117 with _ | o117
  · cases h
  refine CWP.weaken (s' := ⟨[(1, .own 0 1 0 b0.length), (3, I v3), (8, .own 2 1 0 b2.length), (10, I v20), (11, I (b3.getD v20.toNat 0)), (18, .own 3 1 0 b3.length), (19, I v19), (20, I v20)], [(0, .ml cB false b0), (1, .pin 0 (β 0)), (2, .li 1 cI 0 b2), (3, .li 1 cI 0 b3)], 4⟩) (Le.keep (live := [1, 3, 8, 10, 11, 18, 19, 20]) (names := [0, 1, 2, 3]) (nx := 4) rfl) ?_
  refine t43_fp59mt42dd__1 (β := β) hn117 ?_
  · intro b0_118 b2_118 b3_118 v10_118 v11_118 v19_118 v20_118 v3_118 e
    subst e
    dsimp only at h
    refine CWP.seq ?_
    refine CWP.regionT ⟨[(1, .own 0 1 0 b0_118.length), (3, I v3_118), (8, .own 2 1 0 b2_118.length), (10, I v10_118), (11, I v11_118), (18, .own 3 1 0 b3_118.length), (19, I v19_118), (20, I v20_118), (43, .tst (decide ((w64 (v10_118 + v3_118)) < (b2_118.length : Int))))], [(0, .ml cB false b0_118), (1, .pin 0 (β 0)), (2, .li 1 cI 0 b2_118), (3, .li 1 cI 0 b3_118)], 52⟩ ?_ ?_
    · exact Le.keep (live := [1, 3, 8, 10, 11, 18, 19, 20, 43]) (names := [0, 1, 2, 3]) (nx := 52) rfl
    refine CWP.cond (And.intro (fun hc => ?_) (fun hc => ?_))
    · have h := ite_t h hc
      obtain ⟨hs119, h⟩ := ite_some h
      obtain ⟨hs120, h⟩ := ite_some h
      obtain ⟨hs121, h⟩ := ite_some h
      refine CWP.drawT [] [0] ⟨[(1, .own 0 1 0 ((b0_118.set v11_118.toNat ((b0_118.getD v11_118.toNat []).set (b2_118.getD (w64 (v10_118 + v3_118)).toNat 0).toNat true)).length)), (3, I v3_118), (8, .own 2 1 0 b2_118.length), (18, .own 3 1 0 b3_118.length), (19, I v19_118), (20, I v20_118)], [(0, .ml cB false (b0_118.set v11_118.toNat ((b0_118.getD v11_118.toNat []).set (b2_118.getD (w64 (v10_118 + v3_118)).toNat 0).toNat true))), (1, .pin 0 (β 0)), (2, .li 1 cI 0 b2_118), (3, .li 1 cI 0 b3_118)], 4⟩ ?_ ?_
      · refine And.intro rfl ?_
        iterate 2 refine And.intro rfl ?_
        refine And.intro hs119 ?_
        refine And.intro rfl ?_
        refine And.intro (idx_lt hs119) ?_
        iterate 5 refine And.intro rfl ?_
        refine And.intro hs120 ?_
        refine And.intro rfl ?_
        refine And.intro (idx_lt hs120) ?_
        refine And.intro rfl ?_
        refine And.intro hs121 ?_
        refine And.intro ?_ ?_
        · refine And.intro rfl ?_
          refine SemOp.ofD rfl ?_
          refine And.intro ⟨idx_lt hs119, idx_lt hs121⟩ ?_
          refine ex_cellm b0_118 b0_118 true (x := 0) (cell := cB) (d := false) rfl rfl (fun _ => rfl) (idx_lt hs119) (idx_lt hs121) rfl ?_
          exact Le.trans (Le.trans (Le.mat (x := 0) (n' := (b0_118.set v11_118.toNat ((b0_118.getD v11_118.toNat []).set (b2_118.getD (w64 (v10_118 + v3_118)).toNat 0).toNat true)).length) (len' := fun j => ((b0_118.set v11_118.toNat ((b0_118.getD v11_118.toNat []).set (b2_118.getD (w64 (v10_118 + v3_118)).toNat 0).toNat true)).getD j []).length) (f' := fun j c => cB (((b0_118.set v11_118.toNat ((b0_118.getD v11_118.toNat []).set (b2_118.getD (w64 (v10_118 + v3_118)).toNat 0).toNat true)).getD j []).getD c false) 0) rfl ((List.length_set).trans rfl) (fun j _ => (fun k => (ml_len k).trans ((fun _ => rfl) k)) j) (fun _ _ _ _ => rfl)) (Le.trans (Le.rep (t := 1) rfl (RepLe.ownLen ((List.length_set).trans rfl).symm)) (Le.keep (live := [1, 3, 8, 18, 19, 20]) (names := [0, 1, 2, 3]) (nx := 148) rfl))) (Le.keep (live := [1, 3, 8, 18, 19, 20]) (names := [0, 1, 2, 3]) (nx := 4) rfl)
        · exact trivial
      exact hok _ _ _ _ _ _ (Option.some.inj h).symm
    · have h := ite_f h hc
      refine CWP.skipL (Le.keep (live := [1, 3, 8, 18, 19, 20]) (names := [0, 1, 2, 3]) (nx := 4) rfl) (s' := ⟨[(1, .own 0 1 0 b0_118.length), (3, I v3_118), (8, .own 2 1 0 b2_118.length), (18, .own 3 1 0 b3_118.length), (19, I v19_118), (20, I v20_118)], [(0, .ml cB false b0_118), (1, .pin 0 (β 0)), (2, .li 1 cI 0 b2_118), (3, .li 1 cI 0 b3_118)], 4⟩) ?_
      exact hok _ _ _ _ _ _ (Option.some.inj h).symm
theorem t43_fp59mt42dd__3 {n fuel : Nat} {β : Name → Option Nat} {b0 : List (List Bool)} {b2 : List Int} {b3 : List Int} {v19 : Int} {v20 : Int} {v3 : Int} {out : O43_fp59mt42dd__3} (h : l43_fp59mt42dd__3 n fuel b0 b2 b3 v19 v20 v3 = some out) {Q : Ex → AS → Prop} (hok : ∀ b0, out = .ok b0 → Q .normal ⟨[], [(0, .ml cB false b0), (1, .pin 0 (β 0))], 2⟩) : CWP Try.prog Try.f43.ntmps code43_3 Q ⟨[(1, .own 0 1 0 b0.length), (3, I v3), (8, .own 2 1 0 b2.length), (18, .own 3 1 0 b3.length), (19, I v19), (20, I v20)], [(0, .ml cB false b0), (1, .pin 0 (β 0)), (2, .li 1 cI 0 b2), (3, .li 1 cI 0 b3)], 4⟩ := by
  refine CWP.block ?_
  refine CWP.loop (fun k s => ∃ b0 : List (List Bool), ∃ b2 : List Int, ∃ b3 : List Int, ∃ v19 : Int, ∃ v20 : Int, ∃ v3 : Int, s = ⟨[(1, .own 0 1 0 b0.length), (3, I v3), (8, .own 2 1 0 b2.length), (18, .own 3 1 0 b3.length), (19, I v19), (20, I v20)], [(0, .ml cB false b0), (1, .pin 0 (β 0)), (2, .li 1 cI 0 b2), (3, .li 1 cI 0 b3)], 4⟩ ∧ l43_fp59mt42dd__3 n k b0 b2 b3 v19 v20 v3 = some out) fuel ⟨b0, b2, b3, v19, v20, v3, rfl, h⟩ ?_
  clear h
  rintro k s ⟨b0, b2, b3, v19, v20, v3, rfl, h⟩
  cases k with
  | zero => cases h
  | succ m =>
    rw [l43_fp59mt42dd__3] at h
    refine CWP.seq ?_
    refine CWP.regionT ⟨[(1, .own 0 1 0 b0.length), (3, I v3), (8, .own 2 1 0 b2.length), (18, .own 3 1 0 b3.length), (19, I v19), (20, I v20), (21, .tst (decide (v20 < v19)))], [(0, .ml cB false b0), (1, .pin 0 (β 0)), (2, .li 1 cI 0 b2), (3, .li 1 cI 0 b3)], 12⟩ ?_ ?_
    · exact Le.keep (live := [1, 3, 8, 18, 19, 20, 21]) (names := [0, 1, 2, 3]) (nx := 12) rfl
    refine CWP.seq ?_
    refine CWP.cond (And.intro (fun hc => ?_) (fun hc => ?_))
    · have h := ite_t h hc
      refine CWP.skip ?_
      refine CWP.seq ?_
      generalize hn124 : l43_fp59mt42dd__2 n b0 b2 b3 v19 v20 v3 = o124 at h
      rcases o124 with _ | o124
      · cases h
      refine CWP.weaken (s' := ⟨[(1, .own 0 1 0 b0.length), (3, I v3), (8, .own 2 1 0 b2.length), (18, .own 3 1 0 b3.length), (19, I v19), (20, I v20)], [(0, .ml cB false b0), (1, .pin 0 (β 0)), (2, .li 1 cI 0 b2), (3, .li 1 cI 0 b3)], 4⟩) (Le.keep (live := [1, 3, 8, 18, 19, 20]) (names := [0, 1, 2, 3]) (nx := 4) rfl) ?_
      refine t43_fp59mt42dd__2 (β := β) hn124 ?_
      · intro b0_125 b2_125 b3_125 v19_125 v20_125 v3_125 e
        subst e
        dsimp only at h
        refine CWP.regionT ⟨[(1, .own 0 1 0 b0_125.length), (3, I v3_125), (8, .own 2 1 0 b2_125.length), (18, .own 3 1 0 b3_125.length), (19, I v19_125), (20, I (w64 (v20_125 + 1)))], [(0, .ml cB false b0_125), (1, .pin 0 (β 0)), (2, .li 1 cI 0 b2_125), (3, .li 1 cI 0 b3_125)], 4⟩ ?_ ?_
        · exact Le.trans (Le.keep (live := [1, 3, 8, 18, 19, 20]) (names := [0, 1, 2, 3]) (nx := 20) rfl) (Le.keep (live := [1, 3, 8, 18, 19, 20]) (names := [0, 1, 2, 3]) (nx := 4) rfl)
        exact ⟨m, Nat.lt_succ_self m, _, _, _, _, _, _, rfl, h⟩
    · have h := ite_f h hc
      refine CWP.exitL (Le.keep (live := []) (names := [0, 1]) (nx := 2) rfl) (s' := ⟨[], [(0, .ml cB false b0), (1, .pin 0 (β 0))], 2⟩) ?_
      exact hok _ (Option.some.inj h).symm
theorem wf43_fp59mt42dd {n : Nat} {β : Name → Option Nat} {p0 : hb_log} {p1 : List (List Bool)} {p2 : Int} {p3 : Int} {r : List (List Bool)} (h : s43_fp59mt42dd n p0 p1 p2 p3 = some r) : CWP Try.prog Try.f43.ntmps code43 (AtE (E43_fp59mt42dd β r)) ⟨[(0, .fpt 6 (hb_log.cell p0)), (1, .own 0 1 0 p1.length), (2, I p2), (3, I p3)], [(0, .ml cB false p1), (1, .pin 0 (β 0))], 2⟩ := by
  unfold s43_fp59mt42dd at h
  refine CWP.seq ?_
  obtain ⟨r102, hr102, h⟩ := Option.bind_eq_some_iff.1 h
  obtain ⟨r103, hr103, h⟩ := Option.bind_eq_some_iff.1 h
  refine CWP.regionT ⟨[(1, .own 0 1 0 p1.length), (3, I p3), (8, .own 18 1 0 r102.length), (9, .own 42 1 0 r103.length)], [(0, .ml cB false p1), (1, .pin 0 (β 0)), (18, .li 1 cI 0 r102), (42, .li 1 cI 0 r103)], 66⟩ ?_ ?_
  · refine FC.semT rfl rfl rfl trivial (c44_fp59dd hr102) (Or.inl rfl) ?_
    refine ex_refl ?_
    refine FC.semT rfl rfl rfl trivial (c44_fp59dd hr103) (Or.inl rfl) ?_
    refine ex_refl ?_
    exact Le.keep (live := [1, 3, 8, 9]) (names := [0, 1, 18, 42]) (nx := 66) rfl
  refine CWP.seq ?_
  refine CWP.regionT ⟨[(1, .own 0 1 0 p1.length), (3, I p3), (8, .own 18 1 0 r102.length), (18, .own 42 1 0 r103.length), (19, I (r103.length : Int)), (20, I 0)], [(0, .ml cB false p1), (1, .pin 0 (β 0)), (18, .li 1 cI 0 r102), (42, .li 1 cI 0 r103)], 90⟩ ?_ ?_
  · exact Le.keep (live := [1, 3, 8, 18, 19, 20]) (names := [0, 1, 18, 42]) (nx := 90) rfl
  generalize hn126 : l43_fp59mt42dd__3 n n p1 r102 r103 (r103.length : Int) 0 p3 = o126 at h
  rcases o126 with _ | o126
  · cases h
  refine CWP.weaken (s' := ⟨[(1, .own 0 1 0 p1.length), (3, I p3), (8, .own 2 1 0 r102.length), (18, .own 3 1 0 r103.length), (19, I (r103.length : Int)), (20, I 0)], [(0, .ml cB false p1), (1, .pin 0 (β 0)), (2, .li 1 cI 0 r102), (3, .li 1 cI 0 r103)], 4⟩) (Le.ren [(0, 0), (1, 1), (2, 18), (3, 42)] rfl ⟨rfl, rfl, rfl, rfl, rfl, rfl, trivial⟩ ⟨⟨_, rfl, rfl⟩, ⟨_, rfl, rfl⟩, ⟨_, rfl, rfl⟩, ⟨_, rfl, rfl⟩, trivial⟩) ?_
  refine CWP.closure ?_
  refine t43_fp59mt42dd__3 (β := β) hn126 ?_
  · intro b0_127 e
    subst e
    dsimp only at h
    refine Exists.intro ⟨[], [(0, .ml cB false b0_127), (1, .pin 0 (β 0))], 2⟩ (And.intro (Le.keep (live := []) (names := [0, 1]) (nx := 2) rfl) ?_)
    have e := Option.some.inj h
    subst e
    exact ⟨rfl, ⟨⟨_, rfl, rfl⟩, trivial⟩, ⟨rfl, trivial⟩⟩
theorem c43_fp59mt42dd {n : Nat} {p0 : hb_log} {p1 : List (List Bool)} {p2 : Int} {p3 : Int} {r : List (List Bool)} (h : s43_fp59mt42dd n p0 p1 p2 p3 = some r) : RC Try.prog 43 [.fpt 6 (hb_log.cell p0), .own 0 1 0 p1.length, I p2, I p3] [(0, .ml cB false p1)] (.tup []) [(0, .ml cB false r)] [0] [0] := RC.ofE (st := [(0, .ml cB false p1)]) (r := .tup []) (st' := [(0, .ml cB false r)]) (pins := [(1, 0)]) 2 [(0, 0)] (fn := Try.f43) (cc := code43) (res := .many []) (by kernel_rfl) (by kernel_rfl) tr43 (by kernel_rfl) (Nat.le_of_ble_eq_true rfl) rfl rfl (fun β => wf43_fp59mt42dd (β := β) h)
def code27_1 : CCode :=
 (.block 2
  (.loop
  (.seq
   (.region [⟨(some 30), (.bin 0 .lss (.tmp 29) (.tmp 28)), none⟩] none)
   (.seq
   (.cond (.tmp 30)
    .skip
    (.exit 2))
   (.seq
    (.block 3
    (.seq
     (.region [⟨(some 31), (.mv (.tmp 29)), none⟩,
      ⟨(some 6), (.mv (.tmp 31)), none⟩] none)
     (.region [⟨(some 32), (.mv (.tmp 5)), none⟩,
      ⟨(some 33), (.mv (.tmp 6)), none⟩,
      ⟨(some 34), (.mv (.tmp 5)), none⟩,
      ⟨(some 35), (.mv (.tmp 6)), none⟩,
      ⟨(some 36), (.idx 1 (.tmp 34) (.tmp 35)), none⟩,
      ⟨(some 37), (.load false 1 (.tmp 36)), none⟩,
      ⟨(some 38), (.mv (.tmp 37)), none⟩,
      ⟨(some 39), (.mv (.tmp 0)), (some (38, true))⟩,
      ⟨(some 40), (.nilck (.tmp 39)), (some (38, true))⟩,
      ⟨(some 41), (.fad 4 (.tmp 40)), (some (38, true))⟩,
      ⟨(some 42), (.load false 1 (.tmp 41)), (some (38, true))⟩,
      ⟨(some 43), (.mv (.tmp 4)), (some (38, true))⟩,
      ⟨(some 44), (.idx 1 (.tmp 42) (.tmp 43)), (some (38, true))⟩,
      ⟨(some 45), (.load false 1 (.tmp 44)), (some (38, true))⟩,
      ⟨(some 46), (.bin 0 .gtr (.tmp 45) (.const (.int .i64 0))), (some (38, true))⟩,
      ⟨(some 47), (.pick (.tmp 38) (.tmp 46) (.const (.bool false))), none⟩,
      ⟨(some 48), (.mv (.tmp 47)), none⟩,
      ⟨(some 49), (.mv (.tmp 0)), (some (48, true))⟩,
      ⟨(some 50), (.nilck (.tmp 49)), (some (48, true))⟩,
      ⟨(some 51), (.fad 4 (.tmp 50)), (some (48, true))⟩,
      ⟨(some 52), (.load false 1 (.tmp 51)), (some (48, true))⟩,
      ⟨(some 53), (.mv (.tmp 6)), (some (48, true))⟩,
      ⟨(some 54), (.idx 1 (.tmp 52) (.tmp 53)), (some (48, true))⟩,
      ⟨(some 55), (.load false 1 (.tmp 54)), (some (48, true))⟩,
      ⟨(some 56), (.bin 0 .gtr (.tmp 55) (.const (.int .i64 0))), (some (48, true))⟩,
      ⟨(some 57), (.pick (.tmp 48) (.tmp 56) (.const (.bool false))), none⟩,
      ⟨(some 58), (.idx 1 (.tmp 32) (.tmp 33)), none⟩,
      ⟨none, (.store 1 (.tmp 58) (.tmp 57)), none⟩] none)))
    (.region [⟨(some 59), (.bin 0 .add (.tmp 29) (.const (.int .i64 1))), none⟩,
     ⟨(some 29), (.mv (.tmp 59)), none⟩] none))))))
def code27_2 : CCode :=
 (.block 0
  (.loop
  (.seq
   (.region [⟨(some 23), (.bin 0 .lss (.tmp 22) (.tmp 21)), none⟩] none)
   (.seq
   (.cond (.tmp 23)
    .skip
    (.exit 0))
   (.seq
    (.block 1
    (.seq
     (.region [⟨(some 24), (.mv (.tmp 22)), none⟩,
      ⟨(some 25), (.idx 1 (.tmp 20) (.tmp 22)), none⟩,
      ⟨(some 26), (.load false 1 (.tmp 25)), none⟩,
      ⟨(some 4), (.mv (.tmp 24)), none⟩,
      ⟨(some 5), (.mv (.tmp 26)), none⟩] none)
     (.seq
     (.region [⟨(some 27), (.mv (.tmp 5)), none⟩,
      ⟨(some 28), (.len 1 (.tmp 27)), none⟩,
      ⟨(some 29), (.mv (.const (.int .i64 0))), none⟩] none)
     code27_1)))
    (.region [⟨(some 60), (.bin 0 .add (.tmp 22) (.const (.int .i64 1))), none⟩,
     ⟨(some 22), (.mv (.tmp 60)), none⟩] none))))))
def code27_3 : CCode :=
 (.seq
  (.region [⟨(some 70), (.fad 2 (.tmp 8)), none⟩,
   ⟨(some 71), (.load false 1 (.tmp 70)), none⟩,
   ⟨(some 72), (.bin 0 .geq (.tmp 71) (.const (.int .i64 0))), none⟩,
   ⟨(some 73), (.mv (.tmp 72)), none⟩,
   ⟨(some 74), (.mv (.tmp 0)), (some (73, true))⟩,
   ⟨(some 75), (.nilck (.tmp 74)), (some (73, true))⟩,
   ⟨(some 76), (.fad 0 (.tmp 75)), (some (73, true))⟩,
   ⟨(some 77), (.fad 0 (.tmp 76)), (some (73, true))⟩,
   ⟨(some 78), (.load false 1 (.tmp 77)), (some (73, true))⟩,
   ⟨(some 79), (.fad 0 (.tmp 8)), (some (73, true))⟩,
   ⟨(some 80), (.load false 1 (.tmp 79)), (some (73, true))⟩,
   ⟨(some 81), (.idx 4 (.tmp 78) (.tmp 80)), (some (73, true))⟩,
   ⟨(some 82), (.fad 2 (.tmp 81)), (some (73, true))⟩,
   ⟨(some 83), (.load false 1 (.tmp 82)), (some (73, true))⟩,
   ⟨(some 84), (.bin 0 .neq (.tmp 83) (.const (.int .i64 1))), (some (73, true))⟩,
   ⟨(some 85), (.pick (.tmp 73) (.tmp 84) (.const (.bool false))), none⟩] (some (.take 0 (.take 1 (.take 2 (.take 3 (.take 4 (.take 5 (.take 6 (.take 7 (.take 8 (.take 9 (.take 10 (.take 11 (.take 12 (.take 13 (.take 14 (.take 15 .done))))))))))))))))))
  (.cond (.tmp 85)
  (.region [⟨(some 86), (.mv (.tmp 3)), none⟩,
   ⟨(some 87), (.fad 2 (.tmp 8)), none⟩,
   ⟨(some 88), (.load false 1 (.tmp 87)), none⟩,
   ⟨(some 89), (.idx 1 (.tmp 86) (.tmp 88)), none⟩,
   ⟨(some 90), (.load false 1 (.tmp 89)), none⟩,
   ⟨(some 91), (.fad 0 (.tmp 8)), none⟩,
   ⟨(some 92), (.load false 1 (.tmp 91)), none⟩,
   ⟨(some 93), (.idx 1 (.tmp 90) (.tmp 92)), none⟩,
   ⟨none, (.store 1 (.tmp 93) (.const (.bool true))), none⟩] (some (.take 0 (.take 1 (.take 2 (.take 3 (.take 4 (.take 5 (.take 6 (.take 7 (.alt 8 .done .alt0)))))))))))
  .skip))
def code27_4 : CCode :=
 (.block 5
  (.seq
  (.region [⟨(some 68), (.idx 3 (.tmp 64) (.tmp 66)), none⟩,
   ⟨(some 69), (.load true 3 (.tmp 68)), none⟩,
   ⟨(some 8), (.alloc [(.int .i64 0), (.int .i64 0), (.int .i64 0)]), none⟩,
   ⟨none, (.store 3 (.tmp 8) (.tmp 69)), none⟩] none)
  (.seq
   code27_3
   (.seq
   (.region [⟨(some 94), (.fad 1 (.tmp 8)), none⟩,
    ⟨(some 95), (.load false 1 (.tmp 94)), none⟩,
    ⟨(some 96), (.bin 0 .geq (.tmp 95) (.const (.int .i64 0))), none⟩] none)
   (.cond (.tmp 96)
    (.region [⟨(some 97), (.mv (.tmp 3)), none⟩,
     ⟨(some 98), (.fad 0 (.tmp 8)), none⟩,
     ⟨(some 99), (.load false 1 (.tmp 98)), none⟩,
     ⟨(some 100), (.idx 1 (.tmp 97) (.tmp 99)), none⟩,
     ⟨(some 101), (.load false 1 (.tmp 100)), none⟩,
     ⟨(some 102), (.fad 1 (.tmp 8)), none⟩,
     ⟨(some 103), (.load false 1 (.tmp 102)), none⟩,
     ⟨(some 104), (.mv (.tmp 3)), none⟩,
     ⟨(some 105), (.fad 1 (.tmp 8)), none⟩,
     ⟨(some 106), (.load false 1 (.tmp 105)), none⟩,
     ⟨(some 107), (.idx 1 (.tmp 104) (.tmp 106)), none⟩,
     ⟨(some 108), (.load false 1 (.tmp 107)), none⟩,
     ⟨(some 109), (.fad 0 (.tmp 8)), none⟩,
     ⟨(some 110), (.load false 1 (.tmp 109)), none⟩,
     ⟨(some 111), (.idx 1 (.tmp 101) (.tmp 103)), none⟩,
     ⟨none, (.store 1 (.tmp 111) (.const (.bool true))), none⟩,
     ⟨(some 112), (.idx 1 (.tmp 108) (.tmp 110)), none⟩,
     ⟨none, (.store 1 (.tmp 112) (.const (.bool true))), none⟩] (some (.take 0 (.take 1 (.take 2 (.take 3 (.take 4 (.take 5 (.take 6 (.take 7 (.take 8 (.take 9 (.take 10 (.take 11 (.take 12 (.take 13 (.take 14 (.alt 15 (.take 16 (.alt 17 .done .alt0)) .alt0))))))))))))))))))
    .skip)))))
def code27_5 : CCode :=
 (.block 4
  (.loop
  (.seq
   (.region [⟨(some 67), (.bin 0 .lss (.tmp 66) (.tmp 65)), none⟩] none)
   (.seq
   (.cond (.tmp 67)
    .skip
    (.exit 4))
   (.seq
    code27_4
    (.region [⟨(some 113), (.bin 0 .add (.tmp 66) (.const (.int .i64 1))), none⟩,
     ⟨(some 66), (.mv (.tmp 113)), none⟩] none))))))
def code27_6 : CCode :=
 (.block 11
  (.loop
  (.seq
   (.region [⟨(some 156), (.bin 0 .lss (.tmp 155) (.tmp 154)), none⟩] none)
   (.seq
   (.cond (.tmp 156)
    .skip
    (.exit 11))
   (.seq
    (.block 12
    (.seq
     (.region [⟨(some 157), (.idx 1 (.tmp 153) (.tmp 155)), none⟩,
      ⟨(some 158), (.load false 1 (.tmp 157)), none⟩,
      ⟨(some 14), (.mv (.tmp 158)), none⟩] none)
     (.region [⟨(some 159), (.mv (.tmp 3)), none⟩,
      ⟨(some 160), (.mv (.tmp 12)), none⟩,
      ⟨(some 161), (.idx 1 (.tmp 159) (.tmp 160)), none⟩,
      ⟨(some 162), (.load false 1 (.tmp 161)), none⟩,
      ⟨(some 163), (.mv (.tmp 14)), none⟩,
      ⟨(some 164), (.mv (.tmp 3)), none⟩,
      ⟨(some 165), (.mv (.tmp 12)), none⟩,
      ⟨(some 166), (.idx 1 (.tmp 164) (.tmp 165)), none⟩,
      ⟨(some 167), (.load false 1 (.tmp 166)), none⟩,
      ⟨(some 168), (.mv (.tmp 14)), none⟩,
      ⟨(some 169), (.idx 1 (.tmp 167) (.tmp 168)), none⟩,
      ⟨(some 170), (.load false 1 (.tmp 169)), none⟩,
      ⟨(some 171), (.mv (.tmp 170)), none⟩,
      ⟨(some 172), (.mv (.tmp 0)), (some (171, false))⟩,
      ⟨(some 173), (.nilck (.tmp 172)), (some (171, false))⟩,
      ⟨(some 174), (.fad 4 (.tmp 173)), (some (171, false))⟩,
      ⟨(some 175), (.load false 1 (.tmp 174)), (some (171, false))⟩,
      ⟨(some 176), (.mv (.tmp 12)), (some (171, false))⟩,
      ⟨(some 177), (.idx 1 (.tmp 175) (.tmp 176)), (some (171, false))⟩,
      ⟨(some 178), (.load false 1 (.tmp 177)), (some (171, false))⟩,
      ⟨(some 179), (.mv (.tmp 0)), (some (171, false))⟩,
      ⟨(some 180), (.nilck (.tmp 179)), (some (171, false))⟩,
      ⟨(some 181), (.fad 4 (.tmp 180)), (some (171, false))⟩,
      ⟨(some 182), (.load false 1 (.tmp 181)), (some (171, false))⟩,
      ⟨(some 183), (.mv (.tmp 14)), (some (171, false))⟩,
      ⟨(some 184), (.idx 1 (.tmp 182) (.tmp 183)), (some (171, false))⟩,
      ⟨(some 185), (.load false 1 (.tmp 184)), (some (171, false))⟩,
      ⟨(some 186), (.bin 0 .lss (.tmp 178) (.tmp 185)), (some (171, false))⟩,
      ⟨(some 187), (.pick (.tmp 171) (.const (.bool true)) (.tmp 186)), none⟩,
      ⟨(some 188), (.idx 1 (.tmp 162) (.tmp 163)), none⟩,
      ⟨none, (.store 1 (.tmp 188) (.tmp 187)), none⟩] (some (.take 0 (.take 1 (.take 2 (.take 3 (.take 4 (.take 5 (.take 6 (.take 7 (.take 8 (.take 9 (.take 10 (.alt 11 (.take 12 (.take 13 (.take 14 (.take 15 (.take 17 (.take 20 (.take 21 (.take 22 (.take 24 (.alt 16 (.take 18 (.alt 19 (.alt 23 (.take 25 (.alt 26 (.take 27 (.take 28 (.take 29 (.alt 30 .done .alt0)))) .alt0)) .alt0) (.alt 23 (.take 25 (.alt 19 (.alt 26 (.take 27 (.take 28 (.take 29 (.alt 30 .done .alt0)))) .alt0) (.alt 26 (.alt 19 (.take 27 (.take 28 (.take 29 (.alt 30 .done .alt0)))) .alt0) .alt0))) .alt0))) (.alt 23 (.take 25 (.alt 16 (.take 18 (.alt 19 (.alt 26 (.take 27 (.take 28 (.take 29 (.alt 30 .done .alt0)))) .alt0) (.alt 26 (.alt 19 (.take 27 (.take 28 (.take 29 (.alt 30 .done .alt0)))) .alt0) .alt0))) (.alt 26 (.alt 16 (.take 18 (.alt 19 (.take 27 (.take 28 (.take 29 (.alt 30 .done .alt0)))) .alt0)) .alt0) .alt0))) .alt0))))))))))) .alt0))))))))))))))))
    (.region [⟨(some 189), (.bin 0 .add (.tmp 155) (.const (.int .i64 1))), none⟩,
     ⟨(some 155), (.mv (.tmp 189)), none⟩] none))))))
def code27_7 : CCode :=
 (.block 9
  (.loop
  (.seq
   (.region [⟨(some 148), (.bin 0 .lss (.tmp 147) (.tmp 146)), none⟩] none)
   (.seq
   (.cond (.tmp 148)
    .skip
    (.exit 9))
   (.seq
    (.block 10
    (.seq
     (.region [⟨(some 149), (.idx 1 (.tmp 145) (.tmp 147)), none⟩,
      ⟨(some 150), (.load false 1 (.tmp 149)), none⟩,
      ⟨(some 12), (.mv (.tmp 150)), none⟩] none)
     (.seq
     (.region [⟨(some 151), (.mv (.tmp 0)), none⟩,
      ⟨(some 152), (.mv (.tmp 9)), none⟩,
      ⟨(some 153), (.call (.func 44) [(.tmp 151), (.const (.int .i64 7)), (.tmp 152)]), none⟩,
      ⟨(some 154), (.len 1 (.tmp 153)), none⟩,
      ⟨(some 155), (.mv (.const (.int .i64 0))), none⟩] none)
     code27_6)))
    (.region [⟨(some 190), (.bin 0 .add (.tmp 147) (.const (.int .i64 1))), none⟩,
     ⟨(some 147), (.mv (.tmp 190)), none⟩] none))))))
def code27_8 : CCode :=
 (.block 7
  (.seq
  (.region [⟨(some 121), (.mv (.tmp 119)), none⟩,
   ⟨(some 122), (.idx 4 (.tmp 117) (.tmp 119)), none⟩,
   ⟨(some 123), (.load true 4 (.tmp 122)), none⟩,
   ⟨(some 10), (.alloc [(.int .i64 0), (.string ⟨#[]⟩), (.int .i64 0), (.int .i64 0)]), none⟩,
   ⟨(some 9), (.mv (.tmp 121)), none⟩,
   ⟨none, (.store 4 (.tmp 10) (.tmp 123)), none⟩] none)
  (.block 8
   (.seq
   (.region [⟨(some 125), (.fad 0 (.tmp 10)), none⟩,
    ⟨(some 126), (.load false 1 (.tmp 125)), none⟩,
    ⟨(some 127), (.bin 0 .eql (.tmp 126) (.const (.int .i64 4))), none⟩,
    ⟨(some 128), (.mv (.tmp 127)), none⟩,
    ⟨(some 129), (.fad 2 (.tmp 10)), (some (128, true))⟩,
    ⟨(some 130), (.load false 1 (.tmp 129)), (some (128, true))⟩,
    ⟨(some 131), (.bin 0 .gtr (.tmp 130) (.const (.int .i64 0))), (some (128, true))⟩,
    ⟨(some 132), (.pick (.tmp 128) (.tmp 131) (.const (.bool false))), none⟩,
    ⟨(some 124), (.mv (.tmp 132)), none⟩] none)
   (.cond (.tmp 124)
    (.region [⟨(some 133), (.mv (.tmp 0)), none⟩,
     ⟨(some 134), (.mv (.tmp 3)), none⟩,
     ⟨(some 135), (.mv (.tmp 9)), none⟩,
     ⟨(some 136), (.fad 2 (.tmp 10)), none⟩,
     ⟨(some 137), (.load false 1 (.tmp 136)), none⟩,
     ⟨(some 138), (.call (.func 43) [(.tmp 133), (.tmp 134), (.tmp 135), (.tmp 137)]), none⟩] none)
    (.seq
    (.region [⟨(some 140), (.fad 0 (.tmp 10)), none⟩,
     ⟨(some 141), (.load false 1 (.tmp 140)), none⟩,
     ⟨(some 142), (.bin 0 .eql (.tmp 141) (.const (.int .i64 3))), none⟩,
     ⟨(some 139), (.mv (.tmp 142)), none⟩] none)
    (.cond (.tmp 139)
     (.seq
     (.region [⟨(some 143), (.mv (.tmp 0)), none⟩,
      ⟨(some 144), (.mv (.tmp 9)), none⟩,
      ⟨(some 145), (.call (.func 44) [(.tmp 143), (.const (.int .i64 8)), (.tmp 144)]), none⟩,
      ⟨(some 146), (.len 1 (.tmp 145)), none⟩,
      ⟨(some 147), (.mv (.const (.int .i64 0))), none⟩] none)
     code27_7)
     .skip)))))))
def code27_9 : CCode :=
 (.block 6
  (.loop
  (.seq
   (.region [⟨(some 120), (.bin 0 .lss (.tmp 119) (.tmp 118)), none⟩] none)
   (.seq
   (.cond (.tmp 120)
    .skip
    (.exit 6))
   (.seq
    code27_8
    (.region [⟨(some 191), (.bin 0 .add (.tmp 119) (.const (.int .i64 1))), none⟩,
     ⟨(some 119), (.mv (.tmp 191)), none⟩] none))))))
def code27 : CCode :=
 (.seq
  (.region [⟨(some 2), (.mv (.const (.slice none 0 0))), none⟩] none)
  (.seq
  (.region [⟨(some 15), (.mv (.tmp 0)), none⟩,
   ⟨(some 16), (.nilck (.tmp 15)), none⟩,
   ⟨(some 17), (.fad 0 (.tmp 16)), none⟩,
   ⟨(some 18), (.load true 2 (.tmp 17)), none⟩,
   ⟨(some 19), (.call (.func 42) [(.tmp 18)]), none⟩,
   ⟨(some 3), (.mv (.tmp 19)), none⟩] none)
  (.seq
   (.seq
   (.region [⟨(some 20), (.mv (.tmp 3)), none⟩,
    ⟨(some 21), (.len 1 (.tmp 20)), none⟩,
    ⟨(some 22), (.mv (.const (.int .i64 0))), none⟩] none)
   code27_2)
   (.seq
   (.seq
    (.region [⟨(some 61), (.mv (.tmp 0)), none⟩,
     ⟨(some 62), (.nilck (.tmp 61)), none⟩,
     ⟨(some 63), (.fad 3 (.tmp 62)), none⟩,
     ⟨(some 64), (.load false 1 (.tmp 63)), none⟩,
     ⟨(some 65), (.len 1 (.tmp 64)), none⟩,
     ⟨(some 66), (.mv (.const (.int .i64 0))), none⟩] none)
    code27_5)
   (.seq
    (.seq
    (.region [⟨(some 114), (.mv (.tmp 0)), none⟩,
     ⟨(some 115), (.nilck (.tmp 114)), none⟩,
     ⟨(some 116), (.fad 2 (.tmp 115)), none⟩,
     ⟨(some 117), (.load false 1 (.tmp 116)), none⟩,
     ⟨(some 118), (.len 1 (.tmp 117)), none⟩,
     ⟨(some 119), (.mv (.const (.int .i64 0))), none⟩] none)
    code27_9)
    (.seq
    (.region [⟨(some 192), (.mv (.tmp 3)), none⟩,
     ⟨(some 2), (.mv (.tmp 192)), none⟩] none)
    .ret))))))
theorem tr27 : (Try.f27.body).bind (trCode Try.prog Try.f27.ntmps) = some code27 := by kernel_rfl
inductive O27_fp59__1 where
  | ok (b0 : List (List Bool)) (v0 : hb_log) (v21 : Int) (v22 : Int)
def l27_fp59__1 (n : Nat) : Nat → (List (List Bool)) → hb_log → Int → Int → Int → Int → Int → Nat → Option O27_fp59__1
  | 0, _, _, _, _, _, _, _, _ => none
  | m + 1, b0, v0, v21, v22, v28, v29, v4, v5 =>
    if decide (v29 < v28) then
      if 0 ≤ v29 ∧ v29 < (((b0.getD v5 []).length) : Int) then
        if v5 < b0.length then
          if ((b0.getD v5 []).getD v29.toNat false) = true → 0 ≤ v4 ∧ v4 < (v0.at_.length : Int) then
            if (((b0.getD v5 []).getD v29.toNat false) && (decide ((v0.at_.getD v4.toNat 0) > 0))) = true → 0 ≤ v29 ∧ v29 < (v0.at_.length : Int) then
              if 0 ≤ v29 ∧ v29 < (((b0.getD v5 []).length) : Int) then
                if v5 < b0.length then
                  l27_fp59__1 n m (b0.set v5 ((b0.getD v5 []).set v29.toNat ((((b0.getD v5 []).getD v29.toNat false) && (decide ((v0.at_.getD v4.toNat 0) > 0))) && (decide ((v0.at_.getD v29.toNat 0) > 0))))) v0 v21 v22 v28 (w64 (v29 + 1)) v4 v5
                else none
              else none
            else none
          else none
        else none
      else none
    else
      some (.ok b0 v0 v21 v22)
inductive O27_fp59__2 where
  | ok (b0 : List (List Bool)) (v0 : hb_log)
def l27_fp59__2 (n : Nat) : Nat → (List (List Bool)) → hb_log → Int → Int → Option O27_fp59__2
  | 0, _, _, _, _ => none
  | m + 1, b0, v0, v21, v22 =>
    if decide (v22 < v21) then
      if 0 ≤ v22 ∧ v22 < (b0.length : Int) then
        (match l27_fp59__1 n n b0 v0 v21 v22 (((b0.getD v22.toNat []).length) : Int) 0 v22 v22.toNat with
        | none => none
        | some (.ok b0_39 v0_39 v21_39 v22_39) =>
          l27_fp59__2 n m b0_39 v0_39 v21_39 (w64 (v22_39 + 1)))
      else none
    else
      some (.ok b0 v0)
inductive O27_fp59__3 where
  | ok (b0 : List (List Bool)) (b1 : api_Entry) (v0 : hb_log) (v64 : List api_Entry) (v65 : Int) (v66 : Int)
def l27_fp59__3 (n : Nat) (b0 : List (List Bool)) (b1 : api_Entry) (v0 : hb_log) (v64 : List api_Entry) (v65 : Int) (v66 : Int) : Option O27_fp59__3 :=
  if (decide (b1.From ≥ 0)) = true → 0 ≤ b1.Event ∧ b1.Event < (v0.s.Events.length : Int) then
    if (decide (b1.From ≥ 0)) && (((v0.s.Events.getD b1.Event.toNat default).Kind) != 1) then
      if 0 ≤ b1.From ∧ b1.From < (b0.length : Int) then
        if 0 ≤ b1.Event ∧ b1.Event < (((b0.getD b1.From.toNat []).length) : Int) then
          some (.ok (b0.set b1.From.toNat ((b0.getD b1.From.toNat []).set b1.Event.toNat true)) b1 v0 v64 v65 v66)
        else none
      else none
    else
      some (.ok b0 b1 v0 v64 v65 v66)
  else none
inductive O27_fp59__4 where
  | ok (b0 : List (List Bool)) (v0 : hb_log) (v64 : List api_Entry) (v65 : Int) (v66 : Int)
def l27_fp59__4 (n : Nat) (b0 : List (List Bool)) (v0 : hb_log) (v64 : List api_Entry) (v65 : Int) (v66 : Int) : Option O27_fp59__4 :=
  if 0 ≤ v66 ∧ v66 < (v64.length : Int) then
    (match l27_fp59__3 n b0 (v64.getD v66.toNat default) v0 v64 v65 v66 with
    | none => none
    | some (.ok b0_59 b1_59 v0_59 v64_59 v65_59 v66_59) =>
      if decide (b1_59.With ≥ 0) then
        if 0 ≤ b1_59.Event ∧ b1_59.Event < (b0_59.length : Int) then
          if 0 ≤ b1_59.With ∧ b1_59.With < (b0_59.length : Int) then
            if 0 ≤ b1_59.With ∧ b1_59.With < (((b0_59.getD b1_59.Event.toNat []).length) : Int) then
              if 0 ≤ b1_59.Event ∧ b1_59.Event < (((b0_59.getD b1_59.With.toNat []).length) : Int) then
                some (.ok ((b0_59.set b1_59.Event.toNat ((b0_59.getD b1_59.Event.toNat []).set b1_59.With.toNat true)).set b1_59.With.toNat (((b0_59.set b1_59.Event.toNat ((b0_59.getD b1_59.Event.toNat []).set b1_59.With.toNat true)).getD b1_59.With.toNat []).set b1_59.Event.toNat true)) v0_59 v64_59 v65_59 v66_59)
              else none
            else none
          else none
        else none
      else
        some (.ok b0_59 v0_59 v64_59 v65_59 v66_59))
  else none
inductive O27_fp59__5 where
  | ok (b0 : List (List Bool)) (v0 : hb_log)
def l27_fp59__5 (n : Nat) : Nat → (List (List Bool)) → hb_log → (List api_Entry) → Int → Int → Option O27_fp59__5
  | 0, _, _, _, _, _ => none
  | m + 1, b0, v0, v64, v65, v66 =>
    if decide (v66 < v65) then
      (match l27_fp59__4 n b0 v0 v64 v65 v66 with
      | none => none
      | some (.ok b0_67 v0_67 v64_67 v65_67 v66_67) =>
        l27_fp59__5 n m b0_67 v0_67 v64_67 v65_67 (w64 (v66_67 + 1)))
    else
      some (.ok b0 v0)
inductive O27_fp59__6 where
  | ok (b0 : List (List Bool)) (b1 : List Int) (v0 : hb_log) (v117 : List api_Decl) (v118 : Int) (v119 : Int) (v146 : Int) (v147 : Int) (v9 : Int)
def l27_fp59__6 (n : Nat) : Nat → (List (List Bool)) → (List Int) → (List Int) → hb_log → (List api_Decl) → Int → Int → Int → Int → Int → Int → Int → Int → Option O27_fp59__6
  | 0, _, _, _, _, _, _, _, _, _, _, _, _, _ => none
  | m + 1, b0, b1, b2, v0, v117, v118, v119, v12, v146, v147, v154, v155, v9 =>
    if decide (v155 < v154) then
      if 0 ≤ v155 ∧ v155 < (b2.length : Int) then
        if 0 ≤ v12 ∧ v12 < (b0.length : Int) then
          if 0 ≤ v12 ∧ v12 < (b0.length : Int) then
            if 0 ≤ (b2.getD v155.toNat 0) ∧ (b2.getD v155.toNat 0) < (((b0.getD v12.toNat []).length) : Int) then
              if ((b0.getD v12.toNat []).getD (b2.getD v155.toNat 0).toNat false) = false → 0 ≤ v12 ∧ v12 < (v0.at_.length : Int) then
                if ((b0.getD v12.toNat []).getD (b2.getD v155.toNat 0).toNat false) = false → 0 ≤ (b2.getD v155.toNat 0) ∧ (b2.getD v155.toNat 0) < (v0.at_.length : Int) then
                  if 0 ≤ (b2.getD v155.toNat 0) ∧ (b2.getD v155.toNat 0) < (((b0.getD v12.toNat []).length) : Int) then
                    l27_fp59__6 n m (b0.set v12.toNat ((b0.getD v12.toNat []).set (b2.getD v155.toNat 0).toNat (((b0.getD v12.toNat []).getD (b2.getD v155.toNat 0).toNat false) || (decide ((v0.at_.getD v12.toNat 0) < (v0.at_.getD (b2.getD v155.toNat 0).toNat 0)))))) b1 b2 v0 v117 v118 v119 v12 v146 v147 v154 (w64 (v155 + 1)) v9
                  else none
                else none
              else none
            else none
          else none
        else none
      else none
    else
      some (.ok b0 b1 v0 v117 v118 v119 v146 v147 v9)
inductive O27_fp59__7 where
  | ok (b0 : List (List Bool)) (v0 : hb_log) (v117 : List api_Decl) (v118 : Int) (v119 : Int)
def l27_fp59__7 (n : Nat) : Nat → (List (List Bool)) → (List Int) → hb_log → (List api_Decl) → Int → Int → Int → Int → Int → Option O27_fp59__7
  | 0, _, _, _, _, _, _, _, _, _ => none
  | m + 1, b0, b1, v0, v117, v118, v119, v146, v147, v9 =>
    if decide (v147 < v146) then
      if 0 ≤ v147 ∧ v147 < (b1.length : Int) then
        (s44_fp59dd n v0 7 v9).bind fun r95 =>
        (match l27_fp59__6 n n b0 b1 r95 v0 v117 v118 v119 (b1.getD v147.toNat 0) v146 v147 (r95.length : Int) 0 v9 with
        | none => none
        | some (.ok b0_97 b1_97 v0_97 v117_97 v118_97 v119_97 v146_97 v147_97 v9_97) =>
          l27_fp59__7 n m b0_97 b1_97 v0_97 v117_97 v118_97 v119_97 v146_97 (w64 (v147_97 + 1)) v9_97)
      else none
    else
      some (.ok b0 v0 v117 v118 v119)
inductive O27_fp59__8 where
  | ok (b0 : List (List Bool)) (v0 : hb_log) (v117 : List api_Decl) (v118 : Int) (v119 : Int)
def l27_fp59__8 (n : Nat) (b0 : List (List Bool)) (v0 : hb_log) (v117 : List api_Decl) (v118 : Int) (v119 : Int) : Option O27_fp59__8 :=
  if 0 ≤ v119 ∧ v119 < (v117.length : Int) then
    if (((v117.getD v119.toNat default).Kind) == 4) && (decide (((v117.getD v119.toNat default).Num) > 0)) then
      (s43_fp59mt42dd n v0 b0 v119 ((v117.getD v119.toNat default).Num)).bind fun r102 =>
      if r102.length = b0.length then
        some (.ok r102 v0 v117 v118 v119)
      else none
    else
      if ((v117.getD v119.toNat default).Kind) == 3 then
        (s44_fp59dd n v0 8 v119).bind fun r104 =>
        (match l27_fp59__7 n n b0 r104 v0 v117 v118 v119 (r104.length : Int) 0 v119 with
        | none => none
        | some (.ok b0_106 v0_106 v117_106 v118_106 v119_106) =>
          some (.ok b0_106 v0_106 v117_106 v118_106 v119_106))
      else
        some (.ok b0 v0 v117 v118 v119)
  else none
inductive O27_fp59__9 where
  | ok (b0 : List (List Bool))
def l27_fp59__9 (n : Nat) : Nat → (List (List Bool)) → hb_log → (List api_Decl) → Int → Int → Option O27_fp59__9
  | 0, _, _, _, _, _ => none
  | m + 1, b0, v0, v117, v118, v119 =>
    if decide (v119 < v118) then
      (match l27_fp59__8 n b0 v0 v117 v118 v119 with
      | none => none
      | some (.ok b0_111 v0_111 v117_111 v118_111 v119_111) =>
        l27_fp59__9 n m b0_111 v0_111 v117_111 v118_111 (w64 (v119_111 + 1)))
    else
      some (.ok b0)
def s27_fp59 (n : Nat) (p0 : hb_log) : Option (List (List Bool)) :=
  (s42 n p0.s).bind fun r17 =>
  (match l27_fp59__2 n n r17 p0 (r17.length : Int) 0 with
  | none => none
  | some (.ok b0_41 v0_41) =>
    (match l27_fp59__5 n n b0_41 v0_41 v0_41.l (v0_41.l.length : Int) 0 with
    | none => none
    | some (.ok b0_69 v0_69) =>
      (match l27_fp59__9 n n b0_69 v0_69 v0_69.d (v0_69.d.length : Int) 0 with
      | none => none
      | some (.ok b0_113) =>
        some b0_113)))
def E27_fp59 (r : List (List Bool)) (s : AS) : Prop := resOf s (.one 2) = some (.own 0 1 0 r.length) ∧ EndSt [(0, 0)] s.st [(0, .ml cB false r)] ∧ PinEnd (fun _ => none) s.st []
theorem t27_fp59__1 {n fuel : Nat} {b0 : List (List Bool)} {v0 : hb_log} {v21 : Int} {v22 : Int} {v28 : Int} {v29 : Int} {v4 : Int} {v5 : Nat} {out : O27_fp59__1} (h : l27_fp59__1 n fuel b0 v0 v21 v22 v28 v29 v4 v5 = some out) {Q : Ex → AS → Prop} (hok : ∀ b0 v0 v21 v22, out = .ok b0 v0 v21 v22 → Q .normal ⟨[(0, .fpt 6 (hb_log.cell v0)), (3, .own 0 1 0 b0.length), (20, .own 0 1 0 b0.length), (21, I v21), (22, I v22)], [(0, .ml cB false b0)], 1⟩) : CWP Try.prog Try.f27.ntmps code27_1 Q ⟨[(0, .fpt 6 (hb_log.cell v0)), (3, .own 0 1 0 b0.length), (4, I v4), (5, .row 0 v5 ((b0.getD v5 []).length)), (20, .own 0 1 0 b0.length), (21, I v21), (22, I v22), (28, I v28), (29, I v29)], [(0, .ml cB false b0)], 1⟩ := by
  refine CWP.block ?_
  refine CWP.loop (fun k s => ∃ b0 : List (List Bool), ∃ v0 : hb_log, ∃ v21 : Int, ∃ v22 : Int, ∃ v28 : Int, ∃ v29 : Int, ∃ v4 : Int, ∃ v5 : Nat, s = ⟨[(0, .fpt 6 (hb_log.cell v0)), (3, .own 0 1 0 b0.length), (4, I v4), (5, .row 0 v5 ((b0.getD v5 []).length)), (20, .own 0 1 0 b0.length), (21, I v21), (22, I v22), (28, I v28), (29, I v29)], [(0, .ml cB false b0)], 1⟩ ∧ l27_fp59__1 n k b0 v0 v21 v22 v28 v29 v4 v5 = some out) fuel ⟨b0, v0, v21, v22, v28, v29, v4, v5, rfl, h⟩ ?_
  clear h
  rintro k s ⟨b0, v0, v21, v22, v28, v29, v4, v5, rfl, h⟩
  cases k with
  | zero => cases h
  | succ m =>
    rw [l27_fp59__1] at h
    refine CWP.seq ?_
    refine CWP.regionT ⟨[(0, .fpt 6 (hb_log.cell v0)), (3, .own 0 1 0 b0.length), (4, I v4), (5, .row 0 v5 ((b0.getD v5 []).length)), (20, .own 0 1 0 b0.length), (21, I v21), (22, I v22), (28, I v28), (29, I v29), (30, .tst (decide (v29 < v28)))], [(0, .ml cB false b0)], 9⟩ ?_ ?_
    · exact Le.keep (live := [0, 3, 4, 5, 20, 21, 22, 28, 29, 30]) (names := [0]) (nx := 9) rfl
    refine CWP.seq ?_
    refine CWP.cond (And.intro (fun hc => ?_) (fun hc => ?_))
    · have h := ite_t h hc
      refine CWP.skip ?_
      refine CWP.seq ?_
      refine CWP.block ?_
      refine CWP.seq ?_
      refine CWP.regionT ⟨[(0, .fpt 6 (hb_log.cell v0)), (3, .own 0 1 0 b0.length), (4, I v4), (5, .row 0 v5 ((b0.getD v5 []).length)), (6, I v29), (20, .own 0 1 0 b0.length), (21, I v21), (22, I v22), (28, I v28), (29, I v29)], [(0, .ml cB false b0)], 25⟩ ?_ ?_
      · exact Le.keep (live := [0, 3, 4, 5, 6, 20, 21, 22, 28, 29]) (names := [0]) (nx := 25) rfl
      obtain ⟨hs27, h⟩ := ite_some h
      obtain ⟨hs28, h⟩ := ite_some h
      obtain ⟨hs29, h⟩ := ite_some h
      obtain ⟨hs30, h⟩ := ite_some h
      obtain ⟨hs31, h⟩ := ite_some h
      obtain ⟨hs32, h⟩ := ite_some h
      refine CWP.regionT ⟨[(0, .fpt 6 (hb_log.cell v0)), (3, .own 0 1 0 ((b0.set v5 ((b0.getD v5 []).set v29.toNat ((((b0.getD v5 []).getD v29.toNat false) && (decide ((v0.at_.getD v4.toNat 0) > 0))) && (decide ((v0.at_.getD v29.toNat 0) > 0))))).length)), (4, I v4), (5, .row 0 v5 (((b0.set v5 ((b0.getD v5 []).set v29.toNat ((((b0.getD v5 []).getD v29.toNat false) && (decide ((v0.at_.getD v4.toNat 0) > 0))) && (decide ((v0.at_.getD v29.toNat 0) > 0))))).getD v5 []).length)), (20, .own 0 1 0 ((b0.set v5 ((b0.getD v5 []).set v29.toNat ((((b0.getD v5 []).getD v29.toNat false) && (decide ((v0.at_.getD v4.toNat 0) > 0))) && (decide ((v0.at_.getD v29.toNat 0) > 0))))).length)), (21, I v21), (22, I v22), (28, I v28), (29, I v29)], [(0, .ml cB false (b0.set v5 ((b0.getD v5 []).set v29.toNat ((((b0.getD v5 []).getD v29.toNat false) && (decide ((v0.at_.getD v4.toNat 0) > 0))) && (decide ((v0.at_.getD v29.toNat 0) > 0))))))], 249⟩ ?_ ?_
      · refine And.intro hs27 ?_
        refine And.intro ⟨hs28, idx_lt hs27⟩ ?_
        refine And.intro (fun hg33 => ?_) (fun hg33 => ?_)
        · have hg33 : ((b0.getD v5 []).getD v29.toNat false) = true := hg33
          refine And.intro (hs29 (by simp only [hg33, sB, reduceIte])) ?_
          refine And.intro (fun hg34 => ?_) (fun hg34 => ?_)
          · have hg34 : (decide ((v0.at_.getD v4.toNat 0) > 0)) = true := hg34
            refine And.intro (hs30 (by simp only [hg33, hg34, sB, reduceIte])) ?_
            refine And.intro hs31 ?_
            refine SemOp.ofT ?_
            refine And.intro ⟨hs32, idx_lt hs31⟩ ?_
            refine ex_cellm b0 b0 ((((b0.getD v5 []).getD v29.toNat false) && (decide ((v0.at_.getD v4.toNat 0) > 0))) && (decide ((v0.at_.getD v29.toNat 0) > 0))) (x := 0) (cell := cB) (d := false) rfl rfl (fun _ => rfl) hs32 (idx_lt hs31) (congrArg AV.tst (by simp only [hg33, hg34, sB, reduceIte])) ?_
            exact Le.trans (Le.mat (x := 0) (n' := (b0.set v5 ((b0.getD v5 []).set v29.toNat ((((b0.getD v5 []).getD v29.toNat false) && (decide ((v0.at_.getD v4.toNat 0) > 0))) && (decide ((v0.at_.getD v29.toNat 0) > 0))))).length) (len' := fun j => ((b0.set v5 ((b0.getD v5 []).set v29.toNat ((((b0.getD v5 []).getD v29.toNat false) && (decide ((v0.at_.getD v4.toNat 0) > 0))) && (decide ((v0.at_.getD v29.toNat 0) > 0))))).getD j []).length) (f' := fun j c => cB (((b0.set v5 ((b0.getD v5 []).set v29.toNat ((((b0.getD v5 []).getD v29.toNat false) && (decide ((v0.at_.getD v4.toNat 0) > 0))) && (decide ((v0.at_.getD v29.toNat 0) > 0))))).getD j []).getD c false) 0) rfl ((List.length_set).trans rfl) (fun j _ => (fun k => (ml_len k).trans ((fun _ => rfl) k)) j) (fun _ _ _ _ => rfl)) (Le.trans (Le.rep (t := 3) rfl (RepLe.ownLen ((List.length_set).trans rfl).symm)) (Le.trans (Le.rep (t := 5) rfl (RepLe.rowLen ((fun k => (ml_len k).trans ((fun _ => rfl) k)) _).symm)) (Le.trans (Le.rep (t := 20) rfl (RepLe.ownLen ((List.length_set).trans rfl).symm)) (Le.keep (live := [0, 3, 4, 5, 20, 21, 22, 28, 29]) (names := [0]) (nx := 249) rfl))))
          · have hg34 : (decide ((v0.at_.getD v4.toNat 0) > 0)) = false := hg34
            refine And.intro hs31 ?_
            refine SemOp.ofT ?_
            refine And.intro ⟨hs32, idx_lt hs31⟩ ?_
            refine ex_cellm b0 b0 ((((b0.getD v5 []).getD v29.toNat false) && (decide ((v0.at_.getD v4.toNat 0) > 0))) && (decide ((v0.at_.getD v29.toNat 0) > 0))) (x := 0) (cell := cB) (d := false) rfl rfl (fun _ => rfl) hs32 (idx_lt hs31) (congrArg AV.tst (by simp only [hg33, hg34, sB, reduceIte])) ?_
            exact Le.trans (Le.mat (x := 0) (n' := (b0.set v5 ((b0.getD v5 []).set v29.toNat ((((b0.getD v5 []).getD v29.toNat false) && (decide ((v0.at_.getD v4.toNat 0) > 0))) && (decide ((v0.at_.getD v29.toNat 0) > 0))))).length) (len' := fun j => ((b0.set v5 ((b0.getD v5 []).set v29.toNat ((((b0.getD v5 []).getD v29.toNat false) && (decide ((v0.at_.getD v4.toNat 0) > 0))) && (decide ((v0.at_.getD v29.toNat 0) > 0))))).getD j []).length) (f' := fun j c => cB (((b0.set v5 ((b0.getD v5 []).set v29.toNat ((((b0.getD v5 []).getD v29.toNat false) && (decide ((v0.at_.getD v4.toNat 0) > 0))) && (decide ((v0.at_.getD v29.toNat 0) > 0))))).getD j []).getD c false) 0) rfl ((List.length_set).trans rfl) (fun j _ => (fun k => (ml_len k).trans ((fun _ => rfl) k)) j) (fun _ _ _ _ => rfl)) (Le.trans (Le.rep (t := 3) rfl (RepLe.ownLen ((List.length_set).trans rfl).symm)) (Le.trans (Le.rep (t := 5) rfl (RepLe.rowLen ((fun k => (ml_len k).trans ((fun _ => rfl) k)) _).symm)) (Le.trans (Le.rep (t := 20) rfl (RepLe.ownLen ((List.length_set).trans rfl).symm)) (Le.keep (live := [0, 3, 4, 5, 20, 21, 22, 28, 29]) (names := [0]) (nx := 249) rfl))))
        · have hg33 : ((b0.getD v5 []).getD v29.toNat false) = false := hg33
          refine And.intro hs31 ?_
          refine SemOp.ofT ?_
          refine And.intro ⟨hs32, idx_lt hs31⟩ ?_
          refine ex_cellm b0 b0 ((((b0.getD v5 []).getD v29.toNat false) && (decide ((v0.at_.getD v4.toNat 0) > 0))) && (decide ((v0.at_.getD v29.toNat 0) > 0))) (x := 0) (cell := cB) (d := false) rfl rfl (fun _ => rfl) hs32 (idx_lt hs31) (congrArg AV.tst (by simp only [hg33, sB, reduceIte])) ?_
          exact Le.trans (Le.mat (x := 0) (n' := (b0.set v5 ((b0.getD v5 []).set v29.toNat ((((b0.getD v5 []).getD v29.toNat false) && (decide ((v0.at_.getD v4.toNat 0) > 0))) && (decide ((v0.at_.getD v29.toNat 0) > 0))))).length) (len' := fun j => ((b0.set v5 ((b0.getD v5 []).set v29.toNat ((((b0.getD v5 []).getD v29.toNat false) && (decide ((v0.at_.getD v4.toNat 0) > 0))) && (decide ((v0.at_.getD v29.toNat 0) > 0))))).getD j []).length) (f' := fun j c => cB (((b0.set v5 ((b0.getD v5 []).set v29.toNat ((((b0.getD v5 []).getD v29.toNat false) && (decide ((v0.at_.getD v4.toNat 0) > 0))) && (decide ((v0.at_.getD v29.toNat 0) > 0))))).getD j []).getD c false) 0) rfl ((List.length_set).trans rfl) (fun j _ => (fun k => (ml_len k).trans ((fun _ => rfl) k)) j) (fun _ _ _ _ => rfl)) (Le.trans (Le.rep (t := 3) rfl (RepLe.ownLen ((List.length_set).trans rfl).symm)) (Le.trans (Le.rep (t := 5) rfl (RepLe.rowLen ((fun k => (ml_len k).trans ((fun _ => rfl) k)) _).symm)) (Le.trans (Le.rep (t := 20) rfl (RepLe.ownLen ((List.length_set).trans rfl).symm)) (Le.keep (live := [0, 3, 4, 5, 20, 21, 22, 28, 29]) (names := [0]) (nx := 249) rfl))))
      refine CWP.regionT ⟨[(0, .fpt 6 (hb_log.cell v0)), (3, .own 0 1 0 ((b0.set v5 ((b0.getD v5 []).set v29.toNat ((((b0.getD v5 []).getD v29.toNat false) && (decide ((v0.at_.getD v4.toNat 0) > 0))) && (decide ((v0.at_.getD v29.toNat 0) > 0))))).length)), (4, I v4), (5, .row 0 v5 (((b0.set v5 ((b0.getD v5 []).set v29.toNat ((((b0.getD v5 []).getD v29.toNat false) && (decide ((v0.at_.getD v4.toNat 0) > 0))) && (decide ((v0.at_.getD v29.toNat 0) > 0))))).getD v5 []).length)), (20, .own 0 1 0 ((b0.set v5 ((b0.getD v5 []).set v29.toNat ((((b0.getD v5 []).getD v29.toNat false) && (decide ((v0.at_.getD v4.toNat 0) > 0))) && (decide ((v0.at_.getD v29.toNat 0) > 0))))).length)), (21, I v21), (22, I v22), (28, I v28), (29, I (w64 (v29 + 1)))], [(0, .ml cB false (b0.set v5 ((b0.getD v5 []).set v29.toNat ((((b0.getD v5 []).getD v29.toNat false) && (decide ((v0.at_.getD v4.toNat 0) > 0))) && (decide ((v0.at_.getD v29.toNat 0) > 0))))))], 1⟩ ?_ ?_
      · exact Le.trans (Le.keep (live := [0, 3, 4, 5, 20, 21, 22, 28, 29]) (names := [0]) (nx := 265) rfl) (Le.keep (live := [0, 3, 4, 5, 20, 21, 22, 28, 29]) (names := [0]) (nx := 1) rfl)
      exact ⟨m, Nat.lt_succ_self m, _, _, _, _, _, _, _, _, rfl, h⟩
    · have h := ite_f h hc
      refine CWP.exitL (Le.keep (live := [0, 3, 20, 21, 22]) (names := [0]) (nx := 1) rfl) (s' := ⟨[(0, .fpt 6 (hb_log.cell v0)), (3, .own 0 1 0 b0.length), (20, .own 0 1 0 b0.length), (21, I v21), (22, I v22)], [(0, .ml cB false b0)], 1⟩) ?_
      exact hok _ _ _ _ (Option.some.inj h).symm
theorem t27_fp59__2 {n fuel : Nat} {b0 : List (List Bool)} {v0 : hb_log} {v21 : Int} {v22 : Int} {out : O27_fp59__2} (h : l27_fp59__2 n fuel b0 v0 v21 v22 = some out) {Q : Ex → AS → Prop} (hok : ∀ b0 v0, out = .ok b0 v0 → Q .normal ⟨[(0, .fpt 6 (hb_log.cell v0)), (3, .own 0 1 0 b0.length)], [(0, .ml cB false b0)], 1⟩) : CWP Try.prog Try.f27.ntmps code27_2 Q ⟨[(0, .fpt 6 (hb_log.cell v0)), (3, .own 0 1 0 b0.length), (20, .own 0 1 0 b0.length), (21, I v21), (22, I v22)], [(0, .ml cB false b0)], 1⟩ := by
  refine CWP.block ?_
  refine CWP.loop (fun k s => ∃ b0 : List (List Bool), ∃ v0 : hb_log, ∃ v21 : Int, ∃ v22 : Int, s = ⟨[(0, .fpt 6 (hb_log.cell v0)), (3, .own 0 1 0 b0.length), (20, .own 0 1 0 b0.length), (21, I v21), (22, I v22)], [(0, .ml cB false b0)], 1⟩ ∧ l27_fp59__2 n k b0 v0 v21 v22 = some out) fuel ⟨b0, v0, v21, v22, rfl, h⟩ ?_
  clear h
  rintro k s ⟨b0, v0, v21, v22, rfl, h⟩
  cases k with
  | zero => cases h
  | succ m =>
    rw [l27_fp59__2] at h
    refine CWP.seq ?_
    refine CWP.regionT ⟨[(0, .fpt 6 (hb_log.cell v0)), (3, .own 0 1 0 b0.length), (20, .own 0 1 0 b0.length), (21, I v21), (22, I v22), (23, .tst (decide (v22 < v21)))], [(0, .ml cB false b0)], 9⟩ ?_ ?_
    · exact Le.keep (live := [0, 3, 20, 21, 22, 23]) (names := [0]) (nx := 9) rfl
    refine CWP.seq ?_
    refine CWP.cond (And.intro (fun hc => ?_) (fun hc => ?_))
    · have h := ite_t h hc
      refine CWP.skip ?_
      refine CWP.seq ?_
      refine CWP.block ?_
      refine CWP.seq ?_
      obtain ⟨hs37, h⟩ := ite_some h
      refine CWP.regionT ⟨[(0, .fpt 6 (hb_log.cell v0)), (3, .own 0 1 0 b0.length), (4, I v22), (5, .row 0 v22.toNat ((b0.getD v22.toNat []).length)), (20, .own 0 1 0 b0.length), (21, I v21), (22, I v22)], [(0, .ml cB false b0)], 49⟩ ?_ ?_
      · refine And.intro hs37 ?_
        refine And.intro (idx_lt hs37) ?_
        exact Le.keep (live := [0, 3, 4, 5, 20, 21, 22]) (names := [0]) (nx := 49) rfl
      refine CWP.seq ?_
      refine CWP.regionT ⟨[(0, .fpt 6 (hb_log.cell v0)), (3, .own 0 1 0 b0.length), (4, I v22), (5, .row 0 v22.toNat ((b0.getD v22.toNat []).length)), (20, .own 0 1 0 b0.length), (21, I v21), (22, I v22), (28, I (((b0.getD v22.toNat []).length) : Int)), (29, I 0)], [(0, .ml cB false b0)], 73⟩ ?_ ?_
      · exact Le.keep (live := [0, 3, 4, 5, 20, 21, 22, 28, 29]) (names := [0]) (nx := 73) rfl
      generalize hn38 : l27_fp59__1 n n b0 v0 v21 v22 (((b0.getD v22.toNat []).length) : Int) 0 v22 v22.toNat = o38 at h
      rcases o38 with _ | o38
      · cases h
      refine CWP.weaken (s' := ⟨[(0, .fpt 6 (hb_log.cell v0)), (3, .own 0 1 0 b0.length), (4, I v22), (5, .row 0 v22.toNat ((b0.getD v22.toNat []).length)), (20, .own 0 1 0 b0.length), (21, I v21), (22, I v22), (28, I (((b0.getD v22.toNat []).length) : Int)), (29, I 0)], [(0, .ml cB false b0)], 1⟩) (Le.keep (live := [0, 3, 4, 5, 20, 21, 22, 28, 29]) (names := [0]) (nx := 1) rfl) ?_
      refine t27_fp59__1 hn38 ?_
      · intro b0_39 v0_39 v21_39 v22_39 e
        subst e
        dsimp only at h
        refine CWP.regionT ⟨[(0, .fpt 6 (hb_log.cell v0_39)), (3, .own 0 1 0 b0_39.length), (20, .own 0 1 0 b0_39.length), (21, I v21_39), (22, I (w64 (v22_39 + 1)))], [(0, .ml cB false b0_39)], 1⟩ ?_ ?_
        · exact Le.trans (Le.keep (live := [0, 3, 20, 21, 22]) (names := [0]) (nx := 17) rfl) (Le.keep (live := [0, 3, 20, 21, 22]) (names := [0]) (nx := 1) rfl)
        exact ⟨m, Nat.lt_succ_self m, _, _, _, _, rfl, h⟩
    · have h := ite_f h hc
      refine CWP.exitL (Le.keep (live := [0, 3]) (names := [0]) (nx := 1) rfl) (s' := ⟨[(0, .fpt 6 (hb_log.cell v0)), (3, .own 0 1 0 b0.length)], [(0, .ml cB false b0)], 1⟩) ?_
      exact hok _ _ (Option.some.inj h).symm
theorem t27_fp59__3 {n : Nat} {b0 : List (List Bool)} {b1 : api_Entry} {v0 : hb_log} {v64 : List api_Entry} {v65 : Int} {v66 : Int} {out : O27_fp59__3} (h : l27_fp59__3 n b0 b1 v0 v64 v65 v66 = some out) {Q : Ex → AS → Prop} (hok : ∀ b0 b1 v0 v64 v65 v66, out = .ok b0 b1 v0 v64 v65 v66 → Q .normal ⟨[(0, .fpt 6 (hb_log.cell v0)), (3, .own 0 1 0 b0.length), (8, .ptr 1 0), (64, api_Entry.sl v64), (65, I v65), (66, I v66)], [(0, .ml cB false b0), (1, .box (api_Entry.cs b1))], 2⟩) : CWP Try.prog Try.f27.ntmps code27_3 Q ⟨[(0, .fpt 6 (hb_log.cell v0)), (3, .own 0 1 0 b0.length), (8, .ptr 1 0), (64, api_Entry.sl v64), (65, I v65), (66, I v66)], [(0, .ml cB false b0), (1, .box (api_Entry.cs b1))], 2⟩ := by
  unfold l27_fp59__3 at h
  refine CWP.seq ?_
  obtain ⟨hs47, h⟩ := ite_some h
  refine CWP.drawT [] [] ⟨[(0, .fpt 6 (hb_log.cell v0)), (3, .own 0 1 0 b0.length), (8, .ptr 1 0), (64, api_Entry.sl v64), (65, I v65), (66, I v66), (85, .tst ((decide (b1.From ≥ 0)) && (((v0.s.Events.getD b1.Event.toNat default).Kind) != 1)))], [(0, .ml cB false b0), (1, .box (api_Entry.cs b1))], 130⟩ ?_ ?_
  · refine And.intro rfl ?_
    iterate 3 refine And.intro rfl ?_
    refine And.intro (fun hg50 => ?_) (fun hg50 => ?_)
    · have hg50 : (decide (b1.From ≥ 0)) = true := hg50
      iterate 8 refine And.intro rfl ?_
      refine And.intro (hs47 (by simp only [hg50, sB, reduceIte])) ?_
      iterate 4 refine And.intro rfl ?_
      exact Le.trans (Le.rep (t := 85) rfl (RepLe.fr rfl (FrLe.tst2 (by simp only [hg50, sB, reduceIte])))) (Le.keep (live := [0, 3, 8, 64, 65, 66, 85]) (names := [0, 1]) (nx := 130) rfl)
    · have hg50 : (decide (b1.From ≥ 0)) = false := hg50
      refine And.intro rfl ?_
      exact Le.trans (Le.rep (t := 85) rfl (RepLe.fr rfl (FrLe.tst (by simp only [hg50, sB, reduceIte])))) (Le.keep (live := [0, 3, 8, 64, 65, 66, 85]) (names := [0, 1]) (nx := 130) rfl)
  refine CWP.cond (And.intro (fun hc => ?_) (fun hc => ?_))
  · have h := ite_t h hc
    obtain ⟨hs48, h⟩ := ite_some h
    obtain ⟨hs49, h⟩ := ite_some h
    refine CWP.drawT [] [0] ⟨[(0, .fpt 6 (hb_log.cell v0)), (3, .own 0 1 0 ((b0.set b1.From.toNat ((b0.getD b1.From.toNat []).set b1.Event.toNat true)).length)), (8, .ptr 1 0), (64, api_Entry.sl v64), (65, I v65), (66, I v66)], [(0, .ml cB false (b0.set b1.From.toNat ((b0.getD b1.From.toNat []).set b1.Event.toNat true))), (1, .box (api_Entry.cs b1))], 2⟩ ?_ ?_
    · refine And.intro rfl ?_
      iterate 3 refine And.intro rfl ?_
      refine And.intro hs48 ?_
      refine And.intro rfl ?_
      refine And.intro (idx_lt hs48) ?_
      iterate 3 refine And.intro rfl ?_
      refine And.intro hs49 ?_
      refine And.intro ?_ ?_
      · refine And.intro rfl ?_
        refine SemOp.ofD rfl ?_
        refine And.intro ⟨idx_lt hs48, idx_lt hs49⟩ ?_
        refine ex_cellm b0 b0 true (x := 0) (cell := cB) (d := false) rfl rfl (fun _ => rfl) (idx_lt hs48) (idx_lt hs49) rfl ?_
        exact Le.trans (Le.trans (Le.mat (x := 0) (n' := (b0.set b1.From.toNat ((b0.getD b1.From.toNat []).set b1.Event.toNat true)).length) (len' := fun j => ((b0.set b1.From.toNat ((b0.getD b1.From.toNat []).set b1.Event.toNat true)).getD j []).length) (f' := fun j c => cB (((b0.set b1.From.toNat ((b0.getD b1.From.toNat []).set b1.Event.toNat true)).getD j []).getD c false) 0) rfl ((List.length_set).trans rfl) (fun j _ => (fun k => (ml_len k).trans ((fun _ => rfl) k)) j) (fun _ _ _ _ => rfl)) (Le.trans (Le.rep (t := 3) rfl (RepLe.ownLen ((List.length_set).trans rfl).symm)) (Le.keep (live := [0, 3, 8, 64, 65, 66]) (names := [0, 1]) (nx := 202) rfl))) (Le.keep (live := [0, 3, 8, 64, 65, 66]) (names := [0, 1]) (nx := 2) rfl)
      · exact trivial
    exact hok _ _ _ _ _ _ (Option.some.inj h).symm
  · have h := ite_f h hc
    refine CWP.skipL (Le.keep (live := [0, 3, 8, 64, 65, 66]) (names := [0, 1]) (nx := 2) rfl) (s' := ⟨[(0, .fpt 6 (hb_log.cell v0)), (3, .own 0 1 0 b0.length), (8, .ptr 1 0), (64, api_Entry.sl v64), (65, I v65), (66, I v66)], [(0, .ml cB false b0), (1, .box (api_Entry.cs b1))], 2⟩) ?_
    exact hok _ _ _ _ _ _ (Option.some.inj h).symm
theorem t27_fp59__4 {n : Nat} {b0 : List (List Bool)} {v0 : hb_log} {v64 : List api_Entry} {v65 : Int} {v66 : Int} {out : O27_fp59__4} (h : l27_fp59__4 n b0 v0 v64 v65 v66 = some out) {Q : Ex → AS → Prop} (hok : ∀ b0 v0 v64 v65 v66, out = .ok b0 v0 v64 v65 v66 → Q .normal ⟨[(0, .fpt 6 (hb_log.cell v0)), (3, .own 0 1 0 b0.length), (64, api_Entry.sl v64), (65, I v65), (66, I v66)], [(0, .ml cB false b0)], 1⟩) : CWP Try.prog Try.f27.ntmps code27_4 Q ⟨[(0, .fpt 6 (hb_log.cell v0)), (3, .own 0 1 0 b0.length), (64, api_Entry.sl v64), (65, I v65), (66, I v66)], [(0, .ml cB false b0)], 1⟩ := by
  unfold l27_fp59__4 at h
  refine CWP.block ?_
  refine CWP.seq ?_
  obtain ⟨hs57, h⟩ := ite_some h
  refine CWP.regionT ⟨[(0, .fpt 6 (hb_log.cell v0)), (3, .own 0 1 0 b0.length), (8, .ptr 17 0), (64, api_Entry.sl v64), (65, I v65), (66, I v66)], [(0, .ml cB false b0), (17, .box [I ((v64.getD v66.toNat default).Event), I ((v64.getD v66.toNat default).With), I ((v64.getD v66.toNat default).From)])], 33⟩ ?_ ?_
  · refine And.intro hs57 ?_
    refine SemOp.ofT ?_
    refine ex_refl ?_
    exact Le.keep (live := [0, 3, 8, 64, 65, 66]) (names := [0, 17]) (nx := 33) rfl
  refine CWP.seq ?_
  generalize hn58 : l27_fp59__3 n b0 (v64.getD v66.toNat default) v0 v64 v65 v66 = o58 at h
  rcases o58 with _ | o58
  · cases h
  refine CWP.weaken (s' := ⟨[(0, .fpt 6 (hb_log.cell v0)), (3, .own 0 1 0 b0.length), (8, .ptr 1 0), (64, api_Entry.sl v64), (65, I v65), (66, I v66)], [(0, .ml cB false b0), (1, .box [I ((v64.getD v66.toNat default).Event), I ((v64.getD v66.toNat default).With), I ((v64.getD v66.toNat default).From)])], 2⟩) (Le.ren [(0, 0), (1, 17)] rfl ⟨rfl, rfl, rfl, rfl, rfl, rfl, trivial⟩ ⟨⟨_, rfl, rfl⟩, ⟨_, rfl, rfl⟩, trivial⟩) ?_
  refine t27_fp59__3 hn58 ?_
  · intro b0_59 b1_59 v0_59 v64_59 v65_59 v66_59 e
    subst e
    dsimp only at h
    refine CWP.seq ?_
    refine CWP.regionT ⟨[(0, .fpt 6 (hb_log.cell v0_59)), (3, .own 0 1 0 b0_59.length), (8, .ptr 1 0), (64, api_Entry.sl v64_59), (65, I v65_59), (66, I v66_59), (96, .tst (decide (b1_59.With ≥ 0)))], [(0, .ml cB false b0_59), (1, .box (api_Entry.cs b1_59))], 26⟩ ?_ ?_
    · exact Le.keep (live := [0, 3, 8, 64, 65, 66, 96]) (names := [0, 1]) (nx := 26) rfl
    refine CWP.cond (And.intro (fun hc => ?_) (fun hc => ?_))
    · have h := ite_t h hc
      obtain ⟨hs60, h⟩ := ite_some h
      obtain ⟨hs61, h⟩ := ite_some h
      obtain ⟨hs62, h⟩ := ite_some h
      obtain ⟨hs63, h⟩ := ite_some h
      refine CWP.drawT [] [0] ⟨[(0, .fpt 6 (hb_log.cell v0_59)), (3, .own 0 1 0 (((b0_59.set b1_59.Event.toNat ((b0_59.getD b1_59.Event.toNat []).set b1_59.With.toNat true)).set b1_59.With.toNat (((b0_59.set b1_59.Event.toNat ((b0_59.getD b1_59.Event.toNat []).set b1_59.With.toNat true)).getD b1_59.With.toNat []).set b1_59.Event.toNat true)).length)), (64, api_Entry.sl v64_59), (65, I v65_59), (66, I v66_59)], [(0, .ml cB false ((b0_59.set b1_59.Event.toNat ((b0_59.getD b1_59.Event.toNat []).set b1_59.With.toNat true)).set b1_59.With.toNat (((b0_59.set b1_59.Event.toNat ((b0_59.getD b1_59.Event.toNat []).set b1_59.With.toNat true)).getD b1_59.With.toNat []).set b1_59.Event.toNat true)))], 1⟩ ?_ ?_
      · refine And.intro rfl ?_
        iterate 3 refine And.intro rfl ?_
        refine And.intro hs60 ?_
        refine And.intro rfl ?_
        refine And.intro (idx_lt hs60) ?_
        iterate 6 refine And.intro rfl ?_
        refine And.intro hs61 ?_
        refine And.intro rfl ?_
        refine And.intro (idx_lt hs61) ?_
        iterate 3 refine And.intro rfl ?_
        refine And.intro hs62 ?_
        refine And.intro ?_ ?_
        · refine And.intro rfl ?_
          refine SemOp.ofD rfl ?_
          refine And.intro ⟨idx_lt hs60, idx_lt hs62⟩ ?_
          refine ex_cellm b0_59 b0_59 true (x := 0) (cell := cB) (d := false) rfl rfl (fun _ => rfl) (idx_lt hs60) (idx_lt hs62) rfl ?_
          refine And.intro rfl ?_
          refine And.intro hs63 ?_
          refine And.intro ?_ ?_
          · refine And.intro rfl ?_
            refine SemOp.ofD rfl ?_
            refine And.intro ⟨idx_lt hs61, idx_lt hs63⟩ ?_
            refine ex_cellm (b0_59.set b1_59.Event.toNat ((b0_59.getD b1_59.Event.toNat []).set b1_59.With.toNat true)) b0_59 true (x := 0) (cell := cB) (d := false) rfl ((List.length_set).trans rfl) (fun k => (ml_len k).trans ((fun _ => rfl) k)) (idx_lt hs61) (idx_lt hs63) rfl ?_
            exact Le.trans (Le.trans (Le.mat (x := 0) (n' := ((b0_59.set b1_59.Event.toNat ((b0_59.getD b1_59.Event.toNat []).set b1_59.With.toNat true)).set b1_59.With.toNat (((b0_59.set b1_59.Event.toNat ((b0_59.getD b1_59.Event.toNat []).set b1_59.With.toNat true)).getD b1_59.With.toNat []).set b1_59.Event.toNat true)).length) (len' := fun j => (((b0_59.set b1_59.Event.toNat ((b0_59.getD b1_59.Event.toNat []).set b1_59.With.toNat true)).set b1_59.With.toNat (((b0_59.set b1_59.Event.toNat ((b0_59.getD b1_59.Event.toNat []).set b1_59.With.toNat true)).getD b1_59.With.toNat []).set b1_59.Event.toNat true)).getD j []).length) (f' := fun j c => cB ((((b0_59.set b1_59.Event.toNat ((b0_59.getD b1_59.Event.toNat []).set b1_59.With.toNat true)).set b1_59.With.toNat (((b0_59.set b1_59.Event.toNat ((b0_59.getD b1_59.Event.toNat []).set b1_59.With.toNat true)).getD b1_59.With.toNat []).set b1_59.Event.toNat true)).getD j []).getD c false) 0) rfl ((List.length_set).trans ((List.length_set).trans rfl)) (fun j _ => (fun k => (ml_len k).trans ((fun k => (ml_len k).trans ((fun _ => rfl) k)) k)) j) (fun _ _ _ _ => rfl)) (Le.trans (Le.rep (t := 3) rfl (RepLe.ownLen ((List.length_set).trans ((List.length_set).trans rfl)).symm)) (Le.keep (live := [0, 3, 64, 65, 66]) (names := [0]) (nx := 170) rfl))) (Le.keep (live := [0, 3, 64, 65, 66]) (names := [0]) (nx := 1) rfl)
          · exact trivial
        · exact trivial
      exact hok _ _ _ _ _ (Option.some.inj h).symm
    · have h := ite_f h hc
      refine CWP.skipL (Le.keep (live := [0, 3, 64, 65, 66]) (names := [0]) (nx := 1) rfl) (s' := ⟨[(0, .fpt 6 (hb_log.cell v0_59)), (3, .own 0 1 0 b0_59.length), (64, api_Entry.sl v64_59), (65, I v65_59), (66, I v66_59)], [(0, .ml cB false b0_59)], 1⟩) ?_
      exact hok _ _ _ _ _ (Option.some.inj h).symm
theorem t27_fp59__5 {n fuel : Nat} {b0 : List (List Bool)} {v0 : hb_log} {v64 : List api_Entry} {v65 : Int} {v66 : Int} {out : O27_fp59__5} (h : l27_fp59__5 n fuel b0 v0 v64 v65 v66 = some out) {Q : Ex → AS → Prop} (hok : ∀ b0 v0, out = .ok b0 v0 → Q .normal ⟨[(0, .fpt 6 (hb_log.cell v0)), (3, .own 0 1 0 b0.length)], [(0, .ml cB false b0)], 1⟩) : CWP Try.prog Try.f27.ntmps code27_5 Q ⟨[(0, .fpt 6 (hb_log.cell v0)), (3, .own 0 1 0 b0.length), (64, api_Entry.sl v64), (65, I v65), (66, I v66)], [(0, .ml cB false b0)], 1⟩ := by
  refine CWP.block ?_
  refine CWP.loop (fun k s => ∃ b0 : List (List Bool), ∃ v0 : hb_log, ∃ v64 : List api_Entry, ∃ v65 : Int, ∃ v66 : Int, s = ⟨[(0, .fpt 6 (hb_log.cell v0)), (3, .own 0 1 0 b0.length), (64, api_Entry.sl v64), (65, I v65), (66, I v66)], [(0, .ml cB false b0)], 1⟩ ∧ l27_fp59__5 n k b0 v0 v64 v65 v66 = some out) fuel ⟨b0, v0, v64, v65, v66, rfl, h⟩ ?_
  clear h
  rintro k s ⟨b0, v0, v64, v65, v66, rfl, h⟩
  cases k with
  | zero => cases h
  | succ m =>
    rw [l27_fp59__5] at h
    refine CWP.seq ?_
    refine CWP.regionT ⟨[(0, .fpt 6 (hb_log.cell v0)), (3, .own 0 1 0 b0.length), (64, api_Entry.sl v64), (65, I v65), (66, I v66), (67, .tst (decide (v66 < v65)))], [(0, .ml cB false b0)], 9⟩ ?_ ?_
    · exact Le.keep (live := [0, 3, 64, 65, 66, 67]) (names := [0]) (nx := 9) rfl
    refine CWP.seq ?_
    refine CWP.cond (And.intro (fun hc => ?_) (fun hc => ?_))
    · have h := ite_t h hc
      refine CWP.skip ?_
      refine CWP.seq ?_
      generalize hn66 : l27_fp59__4 n b0 v0 v64 v65 v66 = o66 at h
      rcases o66 with _ | o66
      · cases h
      refine CWP.weaken (s' := ⟨[(0, .fpt 6 (hb_log.cell v0)), (3, .own 0 1 0 b0.length), (64, api_Entry.sl v64), (65, I v65), (66, I v66)], [(0, .ml cB false b0)], 1⟩) (Le.keep (live := [0, 3, 64, 65, 66]) (names := [0]) (nx := 1) rfl) ?_
      refine t27_fp59__4 hn66 ?_
      · intro b0_67 v0_67 v64_67 v65_67 v66_67 e
        subst e
        dsimp only at h
        refine CWP.regionT ⟨[(0, .fpt 6 (hb_log.cell v0_67)), (3, .own 0 1 0 b0_67.length), (64, api_Entry.sl v64_67), (65, I v65_67), (66, I (w64 (v66_67 + 1)))], [(0, .ml cB false b0_67)], 1⟩ ?_ ?_
        · exact Le.trans (Le.keep (live := [0, 3, 64, 65, 66]) (names := [0]) (nx := 17) rfl) (Le.keep (live := [0, 3, 64, 65, 66]) (names := [0]) (nx := 1) rfl)
        exact ⟨m, Nat.lt_succ_self m, _, _, _, _, _, rfl, h⟩
    · have h := ite_f h hc
      refine CWP.exitL (Le.keep (live := [0, 3]) (names := [0]) (nx := 1) rfl) (s' := ⟨[(0, .fpt 6 (hb_log.cell v0)), (3, .own 0 1 0 b0.length)], [(0, .ml cB false b0)], 1⟩) ?_
      exact hok _ _ (Option.some.inj h).symm
theorem t27_fp59__6 {n fuel : Nat} {b0 : List (List Bool)} {b1 : List Int} {b2 : List Int} {v0 : hb_log} {v117 : List api_Decl} {v118 : Int} {v119 : Int} {v12 : Int} {v146 : Int} {v147 : Int} {v154 : Int} {v155 : Int} {v9 : Int} {out : O27_fp59__6} (h : l27_fp59__6 n fuel b0 b1 b2 v0 v117 v118 v119 v12 v146 v147 v154 v155 v9 = some out) {Q : Ex → AS → Prop} (hok : ∀ b0 b1 v0 v117 v118 v119 v146 v147 v9, out = .ok b0 b1 v0 v117 v118 v119 v146 v147 v9 → Q .normal ⟨[(0, .fpt 6 (hb_log.cell v0)), (3, .own 0 1 0 b0.length), (9, I v9), (117, api_Decl.sl v117), (118, I v118), (119, I v119), (145, .own 1 1 0 b1.length), (146, I v146), (147, I v147)], [(0, .ml cB false b0), (1, .li 1 cI 0 b1)], 2⟩) : CWP Try.prog Try.f27.ntmps code27_6 Q ⟨[(0, .fpt 6 (hb_log.cell v0)), (3, .own 0 1 0 b0.length), (9, I v9), (12, I v12), (117, api_Decl.sl v117), (118, I v118), (119, I v119), (145, .own 1 1 0 b1.length), (146, I v146), (147, I v147), (153, .own 2 1 0 b2.length), (154, I v154), (155, I v155)], [(0, .ml cB false b0), (1, .li 1 cI 0 b1), (2, .li 1 cI 0 b2)], 3⟩ := by
  refine CWP.block ?_
  refine CWP.loop (fun k s => ∃ b0 : List (List Bool), ∃ b1 : List Int, ∃ b2 : List Int, ∃ v0 : hb_log, ∃ v117 : List api_Decl, ∃ v118 : Int, ∃ v119 : Int, ∃ v12 : Int, ∃ v146 : Int, ∃ v147 : Int, ∃ v154 : Int, ∃ v155 : Int, ∃ v9 : Int, s = ⟨[(0, .fpt 6 (hb_log.cell v0)), (3, .own 0 1 0 b0.length), (9, I v9), (12, I v12), (117, api_Decl.sl v117), (118, I v118), (119, I v119), (145, .own 1 1 0 b1.length), (146, I v146), (147, I v147), (153, .own 2 1 0 b2.length), (154, I v154), (155, I v155)], [(0, .ml cB false b0), (1, .li 1 cI 0 b1), (2, .li 1 cI 0 b2)], 3⟩ ∧ l27_fp59__6 n k b0 b1 b2 v0 v117 v118 v119 v12 v146 v147 v154 v155 v9 = some out) fuel ⟨b0, b1, b2, v0, v117, v118, v119, v12, v146, v147, v154, v155, v9, rfl, h⟩ ?_
  clear h
  rintro k s ⟨b0, b1, b2, v0, v117, v118, v119, v12, v146, v147, v154, v155, v9, rfl, h⟩
  cases k with
  | zero => cases h
  | succ m =>
    rw [l27_fp59__6] at h
    refine CWP.seq ?_
    refine CWP.regionT ⟨[(0, .fpt 6 (hb_log.cell v0)), (3, .own 0 1 0 b0.length), (9, I v9), (12, I v12), (117, api_Decl.sl v117), (118, I v118), (119, I v119), (145, .own 1 1 0 b1.length), (146, I v146), (147, I v147), (153, .own 2 1 0 b2.length), (154, I v154), (155, I v155), (156, .tst (decide (v155 < v154)))], [(0, .ml cB false b0), (1, .li 1 cI 0 b1), (2, .li 1 cI 0 b2)], 11⟩ ?_ ?_
    · exact Le.keep (live := [0, 3, 9, 12, 117, 118, 119, 145, 146, 147, 153, 154, 155, 156]) (names := [0, 1, 2]) (nx := 11) rfl
    refine CWP.seq ?_
    refine CWP.cond (And.intro (fun hc => ?_) (fun hc => ?_))
    · have h := ite_t h hc
      refine CWP.skip ?_
      refine CWP.seq ?_
      refine CWP.block ?_
      refine CWP.seq ?_
      obtain ⟨hs84, h⟩ := ite_some h
      refine CWP.regionT ⟨[(0, .fpt 6 (hb_log.cell v0)), (3, .own 0 1 0 b0.length), (9, I v9), (12, I v12), (14, I (b2.getD v155.toNat 0)), (117, api_Decl.sl v117), (118, I v118), (119, I v119), (145, .own 1 1 0 b1.length), (146, I v146), (147, I v147), (153, .own 2 1 0 b2.length), (154, I v154), (155, I v155)], [(0, .ml cB false b0), (1, .li 1 cI 0 b1), (2, .li 1 cI 0 b2)], 35⟩ ?_ ?_
      · refine And.intro hs84 ?_
        refine And.intro (idx_lt hs84) ?_
        exact Le.keep (live := [0, 3, 9, 12, 14, 117, 118, 119, 145, 146, 147, 153, 154, 155]) (names := [0, 1, 2]) (nx := 35) rfl
      obtain ⟨hs85, h⟩ := ite_some h
      obtain ⟨hs86, h⟩ := ite_some h
      obtain ⟨hs87, h⟩ := ite_some h
      obtain ⟨hs88, h⟩ := ite_some h
      obtain ⟨hs89, h⟩ := ite_some h
      obtain ⟨hs90, h⟩ := ite_some h
      refine CWP.drawT [] [0] ⟨[(0, .fpt 6 (hb_log.cell v0)), (3, .own 0 1 0 ((b0.set v12.toNat ((b0.getD v12.toNat []).set (b2.getD v155.toNat 0).toNat (((b0.getD v12.toNat []).getD (b2.getD v155.toNat 0).toNat false) || (decide ((v0.at_.getD v12.toNat 0) < (v0.at_.getD (b2.getD v155.toNat 0).toNat 0)))))).length)), (9, I v9), (12, I v12), (117, api_Decl.sl v117), (118, I v118), (119, I v119), (145, .own 1 1 0 b1.length), (146, I v146), (147, I v147), (153, .own 2 1 0 b2.length), (154, I v154), (155, I v155)], [(0, .ml cB false (b0.set v12.toNat ((b0.getD v12.toNat []).set (b2.getD v155.toNat 0).toNat (((b0.getD v12.toNat []).getD (b2.getD v155.toNat 0).toNat false) || (decide ((v0.at_.getD v12.toNat 0) < (v0.at_.getD (b2.getD v155.toNat 0).toNat 0))))))), (1, .li 1 cI 0 b1), (2, .li 1 cI 0 b2)], 283⟩ ?_ ?_
      · refine And.intro rfl ?_
        iterate 2 refine And.intro rfl ?_
        refine And.intro hs85 ?_
        refine And.intro rfl ?_
        refine And.intro (idx_lt hs85) ?_
        iterate 4 refine And.intro rfl ?_
        refine And.intro hs86 ?_
        refine And.intro rfl ?_
        refine And.intro (idx_lt hs86) ?_
        iterate 2 refine And.intro rfl ?_
        refine And.intro hs87 ?_
        refine And.intro ?_ ?_
        · refine And.intro rfl ?_
          refine And.intro ⟨idx_lt hs86, idx_lt hs87⟩ ?_
          refine And.intro rfl ?_
          refine And.intro (fun hg91 => ?_) (fun hg91 => ?_)
          · have hg91 : ((b0.getD v12.toNat []).getD (b2.getD v155.toNat 0).toNat false) = false := hg91
            iterate 8 refine And.intro rfl ?_
            refine And.intro ?_ ?_
            · refine And.intro rfl ?_
              refine And.intro rfl ?_
              refine And.intro (hs88 (by simp only [hg91, sB, reduceIte])) ?_
              refine And.intro ?_ ?_
              · refine And.intro rfl ?_
                refine And.intro ?_ ?_
                · refine And.intro rfl ?_
                  refine And.intro rfl ?_
                  refine And.intro (hs89 (by simp only [hg91, sB, reduceIte])) ?_
                  refine And.intro ?_ ?_
                  · refine And.intro rfl ?_
                    iterate 3 refine And.intro rfl ?_
                    refine And.intro hs90 ?_
                    refine And.intro ?_ ?_
                    · refine And.intro rfl ?_
                      refine SemOp.ofD rfl ?_
                      refine And.intro ⟨idx_lt hs85, idx_lt hs90⟩ ?_
                      refine ex_cellm b0 b0 (((b0.getD v12.toNat []).getD (b2.getD v155.toNat 0).toNat false) || (decide ((v0.at_.getD v12.toNat 0) < (v0.at_.getD (b2.getD v155.toNat 0).toNat 0)))) (x := 0) (cell := cB) (d := false) rfl rfl (fun _ => rfl) (idx_lt hs85) (idx_lt hs90) (congrArg AV.tst (by simp only [hg91, sB, reduceIte])) ?_
                      exact Le.trans (Le.mat (x := 0) (n' := (b0.set v12.toNat ((b0.getD v12.toNat []).set (b2.getD v155.toNat 0).toNat (((b0.getD v12.toNat []).getD (b2.getD v155.toNat 0).toNat false) || (decide ((v0.at_.getD v12.toNat 0) < (v0.at_.getD (b2.getD v155.toNat 0).toNat 0)))))).length) (len' := fun j => ((b0.set v12.toNat ((b0.getD v12.toNat []).set (b2.getD v155.toNat 0).toNat (((b0.getD v12.toNat []).getD (b2.getD v155.toNat 0).toNat false) || (decide ((v0.at_.getD v12.toNat 0) < (v0.at_.getD (b2.getD v155.toNat 0).toNat 0)))))).getD j []).length) (f' := fun j c => cB (((b0.set v12.toNat ((b0.getD v12.toNat []).set (b2.getD v155.toNat 0).toNat (((b0.getD v12.toNat []).getD (b2.getD v155.toNat 0).toNat false) || (decide ((v0.at_.getD v12.toNat 0) < (v0.at_.getD (b2.getD v155.toNat 0).toNat 0)))))).getD j []).getD c false) 0) rfl ((List.length_set).trans rfl) (fun j _ => (fun k => (ml_len k).trans ((fun _ => rfl) k)) j) (fun _ _ _ _ => rfl)) (Le.trans (Le.rep (t := 3) rfl (RepLe.ownLen ((List.length_set).trans rfl).symm)) (Le.keep (live := [0, 3, 9, 12, 117, 118, 119, 145, 146, 147, 153, 154, 155]) (names := [0, 1, 2]) (nx := 283) rfl))
                    · exact trivial
                  · exact trivial
                · exact trivial
              · refine And.intro ?_ ?_
                · refine And.intro rfl ?_
                  refine And.intro rfl ?_
                  refine And.intro (hs89 (by simp only [hg91, sB, reduceIte])) ?_
                  refine And.intro ?_ ?_
                  · refine And.intro rfl ?_
                    refine And.intro ?_ ?_
                    · refine And.intro rfl ?_
                      iterate 3 refine And.intro rfl ?_
                      refine And.intro hs90 ?_
                      refine And.intro ?_ ?_
                      · refine And.intro rfl ?_
                        refine SemOp.ofD rfl ?_
                        refine And.intro ⟨idx_lt hs85, idx_lt hs90⟩ ?_
                        refine ex_cellm b0 b0 (((b0.getD v12.toNat []).getD (b2.getD v155.toNat 0).toNat false) || (decide ((v0.at_.getD v12.toNat 0) < (v0.at_.getD (b2.getD v155.toNat 0).toNat 0)))) (x := 0) (cell := cB) (d := false) rfl rfl (fun _ => rfl) (idx_lt hs85) (idx_lt hs90) (congrArg AV.tst (by simp only [hg91, sB, reduceIte])) ?_
                        exact Le.trans (Le.mat (x := 0) (n' := (b0.set v12.toNat ((b0.getD v12.toNat []).set (b2.getD v155.toNat 0).toNat (((b0.getD v12.toNat []).getD (b2.getD v155.toNat 0).toNat false) || (decide ((v0.at_.getD v12.toNat 0) < (v0.at_.getD (b2.getD v155.toNat 0).toNat 0)))))).length) (len' := fun j => ((b0.set v12.toNat ((b0.getD v12.toNat []).set (b2.getD v155.toNat 0).toNat (((b0.getD v12.toNat []).getD (b2.getD v155.toNat 0).toNat false) || (decide ((v0.at_.getD v12.toNat 0) < (v0.at_.getD (b2.getD v155.toNat 0).toNat 0)))))).getD j []).length) (f' := fun j c => cB (((b0.set v12.toNat ((b0.getD v12.toNat []).set (b2.getD v155.toNat 0).toNat (((b0.getD v12.toNat []).getD (b2.getD v155.toNat 0).toNat false) || (decide ((v0.at_.getD v12.toNat 0) < (v0.at_.getD (b2.getD v155.toNat 0).toNat 0)))))).getD j []).getD c false) 0) rfl ((List.length_set).trans rfl) (fun j _ => (fun k => (ml_len k).trans ((fun _ => rfl) k)) j) (fun _ _ _ _ => rfl)) (Le.trans (Le.rep (t := 3) rfl (RepLe.ownLen ((List.length_set).trans rfl).symm)) (Le.keep (live := [0, 3, 9, 12, 117, 118, 119, 145, 146, 147, 153, 154, 155]) (names := [0, 1, 2]) (nx := 283) rfl))
                      · exact trivial
                    · exact trivial
                  · refine And.intro ?_ ?_
                    · refine And.intro rfl ?_
                      refine And.intro ?_ ?_
                      · refine And.intro rfl ?_
                        iterate 3 refine And.intro rfl ?_
                        refine And.intro hs90 ?_
                        refine And.intro ?_ ?_
                        · refine And.intro rfl ?_
                          refine SemOp.ofD rfl ?_
                          refine And.intro ⟨idx_lt hs85, idx_lt hs90⟩ ?_
                          refine ex_cellm b0 b0 (((b0.getD v12.toNat []).getD (b2.getD v155.toNat 0).toNat false) || (decide ((v0.at_.getD v12.toNat 0) < (v0.at_.getD (b2.getD v155.toNat 0).toNat 0)))) (x := 0) (cell := cB) (d := false) rfl rfl (fun _ => rfl) (idx_lt hs85) (idx_lt hs90) (congrArg AV.tst (by simp only [hg91, sB, reduceIte])) ?_
                          exact Le.trans (Le.mat (x := 0) (n' := (b0.set v12.toNat ((b0.getD v12.toNat []).set (b2.getD v155.toNat 0).toNat (((b0.getD v12.toNat []).getD (b2.getD v155.toNat 0).toNat false) || (decide ((v0.at_.getD v12.toNat 0) < (v0.at_.getD (b2.getD v155.toNat 0).toNat 0)))))).length) (len' := fun j => ((b0.set v12.toNat ((b0.getD v12.toNat []).set (b2.getD v155.toNat 0).toNat (((b0.getD v12.toNat []).getD (b2.getD v155.toNat 0).toNat false) || (decide ((v0.at_.getD v12.toNat 0) < (v0.at_.getD (b2.getD v155.toNat 0).toNat 0)))))).getD j []).length) (f' := fun j c => cB (((b0.set v12.toNat ((b0.getD v12.toNat []).set (b2.getD v155.toNat 0).toNat (((b0.getD v12.toNat []).getD (b2.getD v155.toNat 0).toNat false) || (decide ((v0.at_.getD v12.toNat 0) < (v0.at_.getD (b2.getD v155.toNat 0).toNat 0)))))).getD j []).getD c false) 0) rfl ((List.length_set).trans rfl) (fun j _ => (fun k => (ml_len k).trans ((fun _ => rfl) k)) j) (fun _ _ _ _ => rfl)) (Le.trans (Le.rep (t := 3) rfl (RepLe.ownLen ((List.length_set).trans rfl).symm)) (Le.keep (live := [0, 3, 9, 12, 117, 118, 119, 145, 146, 147, 153, 154, 155]) (names := [0, 1, 2]) (nx := 283) rfl))
                        · exact trivial
                      · exact trivial
                    · exact trivial
                · exact trivial
            · refine And.intro ?_ ?_
              · refine And.intro rfl ?_
                refine And.intro rfl ?_
                refine And.intro (hs89 (by simp only [hg91, sB, reduceIte])) ?_
                refine And.intro ?_ ?_
                · refine And.intro rfl ?_
                  refine And.intro rfl ?_
                  refine And.intro (hs88 (by simp only [hg91, sB, reduceIte])) ?_
                  refine And.intro ?_ ?_
                  · refine And.intro rfl ?_
                    refine And.intro ?_ ?_
                    · refine And.intro rfl ?_
                      iterate 3 refine And.intro rfl ?_
                      refine And.intro hs90 ?_
                      refine And.intro ?_ ?_
                      · refine And.intro rfl ?_
                        refine SemOp.ofD rfl ?_
                        refine And.intro ⟨idx_lt hs85, idx_lt hs90⟩ ?_
                        refine ex_cellm b0 b0 (((b0.getD v12.toNat []).getD (b2.getD v155.toNat 0).toNat false) || (decide ((v0.at_.getD v12.toNat 0) < (v0.at_.getD (b2.getD v155.toNat 0).toNat 0)))) (x := 0) (cell := cB) (d := false) rfl rfl (fun _ => rfl) (idx_lt hs85) (idx_lt hs90) (congrArg AV.tst (by simp only [hg91, sB, reduceIte])) ?_
                        exact Le.trans (Le.mat (x := 0) (n' := (b0.set v12.toNat ((b0.getD v12.toNat []).set (b2.getD v155.toNat 0).toNat (((b0.getD v12.toNat []).getD (b2.getD v155.toNat 0).toNat false) || (decide ((v0.at_.getD v12.toNat 0) < (v0.at_.getD (b2.getD v155.toNat 0).toNat 0)))))).length) (len' := fun j => ((b0.set v12.toNat ((b0.getD v12.toNat []).set (b2.getD v155.toNat 0).toNat (((b0.getD v12.toNat []).getD (b2.getD v155.toNat 0).toNat false) || (decide ((v0.at_.getD v12.toNat 0) < (v0.at_.getD (b2.getD v155.toNat 0).toNat 0)))))).getD j []).length) (f' := fun j c => cB (((b0.set v12.toNat ((b0.getD v12.toNat []).set (b2.getD v155.toNat 0).toNat (((b0.getD v12.toNat []).getD (b2.getD v155.toNat 0).toNat false) || (decide ((v0.at_.getD v12.toNat 0) < (v0.at_.getD (b2.getD v155.toNat 0).toNat 0)))))).getD j []).getD c false) 0) rfl ((List.length_set).trans rfl) (fun j _ => (fun k => (ml_len k).trans ((fun _ => rfl) k)) j) (fun _ _ _ _ => rfl)) (Le.trans (Le.rep (t := 3) rfl (RepLe.ownLen ((List.length_set).trans rfl).symm)) (Le.keep (live := [0, 3, 9, 12, 117, 118, 119, 145, 146, 147, 153, 154, 155]) (names := [0, 1, 2]) (nx := 283) rfl))
                      · exact trivial
                    · exact trivial
                  · refine And.intro ?_ ?_
                    · refine And.intro rfl ?_
                      refine And.intro ?_ ?_
                      · refine And.intro rfl ?_
                        iterate 3 refine And.intro rfl ?_
                        refine And.intro hs90 ?_
                        refine And.intro ?_ ?_
                        · refine And.intro rfl ?_
                          refine SemOp.ofD rfl ?_
                          refine And.intro ⟨idx_lt hs85, idx_lt hs90⟩ ?_
                          refine ex_cellm b0 b0 (((b0.getD v12.toNat []).getD (b2.getD v155.toNat 0).toNat false) || (decide ((v0.at_.getD v12.toNat 0) < (v0.at_.getD (b2.getD v155.toNat 0).toNat 0)))) (x := 0) (cell := cB) (d := false) rfl rfl (fun _ => rfl) (idx_lt hs85) (idx_lt hs90) (congrArg AV.tst (by simp only [hg91, sB, reduceIte])) ?_
                          exact Le.trans (Le.mat (x := 0) (n' := (b0.set v12.toNat ((b0.getD v12.toNat []).set (b2.getD v155.toNat 0).toNat (((b0.getD v12.toNat []).getD (b2.getD v155.toNat 0).toNat false) || (decide ((v0.at_.getD v12.toNat 0) < (v0.at_.getD (b2.getD v155.toNat 0).toNat 0)))))).length) (len' := fun j => ((b0.set v12.toNat ((b0.getD v12.toNat []).set (b2.getD v155.toNat 0).toNat (((b0.getD v12.toNat []).getD (b2.getD v155.toNat 0).toNat false) || (decide ((v0.at_.getD v12.toNat 0) < (v0.at_.getD (b2.getD v155.toNat 0).toNat 0)))))).getD j []).length) (f' := fun j c => cB (((b0.set v12.toNat ((b0.getD v12.toNat []).set (b2.getD v155.toNat 0).toNat (((b0.getD v12.toNat []).getD (b2.getD v155.toNat 0).toNat false) || (decide ((v0.at_.getD v12.toNat 0) < (v0.at_.getD (b2.getD v155.toNat 0).toNat 0)))))).getD j []).getD c false) 0) rfl ((List.length_set).trans rfl) (fun j _ => (fun k => (ml_len k).trans ((fun _ => rfl) k)) j) (fun _ _ _ _ => rfl)) (Le.trans (Le.rep (t := 3) rfl (RepLe.ownLen ((List.length_set).trans rfl).symm)) (Le.keep (live := [0, 3, 9, 12, 117, 118, 119, 145, 146, 147, 153, 154, 155]) (names := [0, 1, 2]) (nx := 283) rfl))
                        · exact trivial
                      · exact trivial
                    · exact trivial
                · refine And.intro ?_ ?_
                  · refine And.intro rfl ?_
                    refine And.intro ?_ ?_
                    · refine And.intro rfl ?_
                      refine And.intro rfl ?_
                      refine And.intro (hs88 (by simp only [hg91, sB, reduceIte])) ?_
                      refine And.intro ?_ ?_
                      · refine And.intro rfl ?_
                        iterate 3 refine And.intro rfl ?_
                        refine And.intro hs90 ?_
                        refine And.intro ?_ ?_
                        · refine And.intro rfl ?_
                          refine SemOp.ofD rfl ?_
                          refine And.intro ⟨idx_lt hs85, idx_lt hs90⟩ ?_
                          refine ex_cellm b0 b0 (((b0.getD v12.toNat []).getD (b2.getD v155.toNat 0).toNat false) || (decide ((v0.at_.getD v12.toNat 0) < (v0.at_.getD (b2.getD v155.toNat 0).toNat 0)))) (x := 0) (cell := cB) (d := false) rfl rfl (fun _ => rfl) (idx_lt hs85) (idx_lt hs90) (congrArg AV.tst (by simp only [hg91, sB, reduceIte])) ?_
                          exact Le.trans (Le.mat (x := 0) (n' := (b0.set v12.toNat ((b0.getD v12.toNat []).set (b2.getD v155.toNat 0).toNat (((b0.getD v12.toNat []).getD (b2.getD v155.toNat 0).toNat false) || (decide ((v0.at_.getD v12.toNat 0) < (v0.at_.getD (b2.getD v155.toNat 0).toNat 0)))))).length) (len' := fun j => ((b0.set v12.toNat ((b0.getD v12.toNat []).set (b2.getD v155.toNat 0).toNat (((b0.getD v12.toNat []).getD (b2.getD v155.toNat 0).toNat false) || (decide ((v0.at_.getD v12.toNat 0) < (v0.at_.getD (b2.getD v155.toNat 0).toNat 0)))))).getD j []).length) (f' := fun j c => cB (((b0.set v12.toNat ((b0.getD v12.toNat []).set (b2.getD v155.toNat 0).toNat (((b0.getD v12.toNat []).getD (b2.getD v155.toNat 0).toNat false) || (decide ((v0.at_.getD v12.toNat 0) < (v0.at_.getD (b2.getD v155.toNat 0).toNat 0)))))).getD j []).getD c false) 0) rfl ((List.length_set).trans rfl) (fun j _ => (fun k => (ml_len k).trans ((fun _ => rfl) k)) j) (fun _ _ _ _ => rfl)) (Le.trans (Le.rep (t := 3) rfl (RepLe.ownLen ((List.length_set).trans rfl).symm)) (Le.keep (live := [0, 3, 9, 12, 117, 118, 119, 145, 146, 147, 153, 154, 155]) (names := [0, 1, 2]) (nx := 283) rfl))
                        · exact trivial
                      · exact trivial
                    · exact trivial
                  · exact trivial
              · exact trivial
          · have hg91 : ((b0.getD v12.toNat []).getD (b2.getD v155.toNat 0).toNat false) = true := hg91
            refine And.intro ?_ ?_
            · refine And.intro ?_ ?_
              · refine And.intro ?_ ?_
                · refine And.intro ?_ ?_
                  · refine And.intro rfl ?_
                    refine And.intro rfl ?_
                    refine And.intro hs90 ?_
                    refine And.intro ?_ ?_
                    · refine And.intro rfl ?_
                      refine SemOp.ofD rfl ?_
                      refine And.intro ⟨idx_lt hs85, idx_lt hs90⟩ ?_
                      refine ex_cellm b0 b0 (((b0.getD v12.toNat []).getD (b2.getD v155.toNat 0).toNat false) || (decide ((v0.at_.getD v12.toNat 0) < (v0.at_.getD (b2.getD v155.toNat 0).toNat 0)))) (x := 0) (cell := cB) (d := false) rfl rfl (fun _ => rfl) (idx_lt hs85) (idx_lt hs90) (congrArg AV.tst (by simp only [hg91, sB, reduceIte])) ?_
                      exact Le.trans (Le.mat (x := 0) (n' := (b0.set v12.toNat ((b0.getD v12.toNat []).set (b2.getD v155.toNat 0).toNat (((b0.getD v12.toNat []).getD (b2.getD v155.toNat 0).toNat false) || (decide ((v0.at_.getD v12.toNat 0) < (v0.at_.getD (b2.getD v155.toNat 0).toNat 0)))))).length) (len' := fun j => ((b0.set v12.toNat ((b0.getD v12.toNat []).set (b2.getD v155.toNat 0).toNat (((b0.getD v12.toNat []).getD (b2.getD v155.toNat 0).toNat false) || (decide ((v0.at_.getD v12.toNat 0) < (v0.at_.getD (b2.getD v155.toNat 0).toNat 0)))))).getD j []).length) (f' := fun j c => cB (((b0.set v12.toNat ((b0.getD v12.toNat []).set (b2.getD v155.toNat 0).toNat (((b0.getD v12.toNat []).getD (b2.getD v155.toNat 0).toNat false) || (decide ((v0.at_.getD v12.toNat 0) < (v0.at_.getD (b2.getD v155.toNat 0).toNat 0)))))).getD j []).getD c false) 0) rfl ((List.length_set).trans rfl) (fun j _ => (fun k => (ml_len k).trans ((fun _ => rfl) k)) j) (fun _ _ _ _ => rfl)) (Le.trans (Le.rep (t := 3) rfl (RepLe.ownLen ((List.length_set).trans rfl).symm)) (Le.keep (live := [0, 3, 9, 12, 117, 118, 119, 145, 146, 147, 153, 154, 155]) (names := [0, 1, 2]) (nx := 283) rfl))
                    · exact trivial
                  · exact trivial
                · exact trivial
              · refine And.intro ?_ ?_
                · refine And.intro ?_ ?_
                  · refine And.intro ?_ ?_
                    · refine And.intro rfl ?_
                      refine And.intro rfl ?_
                      refine And.intro hs90 ?_
                      refine And.intro ?_ ?_
                      · refine And.intro rfl ?_
                        refine SemOp.ofD rfl ?_
                        refine And.intro ⟨idx_lt hs85, idx_lt hs90⟩ ?_
                        refine ex_cellm b0 b0 (((b0.getD v12.toNat []).getD (b2.getD v155.toNat 0).toNat false) || (decide ((v0.at_.getD v12.toNat 0) < (v0.at_.getD (b2.getD v155.toNat 0).toNat 0)))) (x := 0) (cell := cB) (d := false) rfl rfl (fun _ => rfl) (idx_lt hs85) (idx_lt hs90) (congrArg AV.tst (by simp only [hg91, sB, reduceIte])) ?_
                        exact Le.trans (Le.mat (x := 0) (n' := (b0.set v12.toNat ((b0.getD v12.toNat []).set (b2.getD v155.toNat 0).toNat (((b0.getD v12.toNat []).getD (b2.getD v155.toNat 0).toNat false) || (decide ((v0.at_.getD v12.toNat 0) < (v0.at_.getD (b2.getD v155.toNat 0).toNat 0)))))).length) (len' := fun j => ((b0.set v12.toNat ((b0.getD v12.toNat []).set (b2.getD v155.toNat 0).toNat (((b0.getD v12.toNat []).getD (b2.getD v155.toNat 0).toNat false) || (decide ((v0.at_.getD v12.toNat 0) < (v0.at_.getD (b2.getD v155.toNat 0).toNat 0)))))).getD j []).length) (f' := fun j c => cB (((b0.set v12.toNat ((b0.getD v12.toNat []).set (b2.getD v155.toNat 0).toNat (((b0.getD v12.toNat []).getD (b2.getD v155.toNat 0).toNat false) || (decide ((v0.at_.getD v12.toNat 0) < (v0.at_.getD (b2.getD v155.toNat 0).toNat 0)))))).getD j []).getD c false) 0) rfl ((List.length_set).trans rfl) (fun j _ => (fun k => (ml_len k).trans ((fun _ => rfl) k)) j) (fun _ _ _ _ => rfl)) (Le.trans (Le.rep (t := 3) rfl (RepLe.ownLen ((List.length_set).trans rfl).symm)) (Le.keep (live := [0, 3, 9, 12, 117, 118, 119, 145, 146, 147, 153, 154, 155]) (names := [0, 1, 2]) (nx := 283) rfl))
                      · exact trivial
                    · exact trivial
                  · refine And.intro ?_ ?_
                    · refine And.intro ?_ ?_
                      · refine And.intro rfl ?_
                        refine And.intro rfl ?_
                        refine And.intro hs90 ?_
                        refine And.intro ?_ ?_
                        · refine And.intro rfl ?_
                          refine SemOp.ofD rfl ?_
                          refine And.intro ⟨idx_lt hs85, idx_lt hs90⟩ ?_
                          refine ex_cellm b0 b0 (((b0.getD v12.toNat []).getD (b2.getD v155.toNat 0).toNat false) || (decide ((v0.at_.getD v12.toNat 0) < (v0.at_.getD (b2.getD v155.toNat 0).toNat 0)))) (x := 0) (cell := cB) (d := false) rfl rfl (fun _ => rfl) (idx_lt hs85) (idx_lt hs90) (congrArg AV.tst (by simp only [hg91, sB, reduceIte])) ?_
                          exact Le.trans (Le.mat (x := 0) (n' := (b0.set v12.toNat ((b0.getD v12.toNat []).set (b2.getD v155.toNat 0).toNat (((b0.getD v12.toNat []).getD (b2.getD v155.toNat 0).toNat false) || (decide ((v0.at_.getD v12.toNat 0) < (v0.at_.getD (b2.getD v155.toNat 0).toNat 0)))))).length) (len' := fun j => ((b0.set v12.toNat ((b0.getD v12.toNat []).set (b2.getD v155.toNat 0).toNat (((b0.getD v12.toNat []).getD (b2.getD v155.toNat 0).toNat false) || (decide ((v0.at_.getD v12.toNat 0) < (v0.at_.getD (b2.getD v155.toNat 0).toNat 0)))))).getD j []).length) (f' := fun j c => cB (((b0.set v12.toNat ((b0.getD v12.toNat []).set (b2.getD v155.toNat 0).toNat (((b0.getD v12.toNat []).getD (b2.getD v155.toNat 0).toNat false) || (decide ((v0.at_.getD v12.toNat 0) < (v0.at_.getD (b2.getD v155.toNat 0).toNat 0)))))).getD j []).getD c false) 0) rfl ((List.length_set).trans rfl) (fun j _ => (fun k => (ml_len k).trans ((fun _ => rfl) k)) j) (fun _ _ _ _ => rfl)) (Le.trans (Le.rep (t := 3) rfl (RepLe.ownLen ((List.length_set).trans rfl).symm)) (Le.keep (live := [0, 3, 9, 12, 117, 118, 119, 145, 146, 147, 153, 154, 155]) (names := [0, 1, 2]) (nx := 283) rfl))
                        · exact trivial
                      · exact trivial
                    · exact trivial
                · exact trivial
            · refine And.intro ?_ ?_
              · refine And.intro ?_ ?_
                · refine And.intro ?_ ?_
                  · refine And.intro ?_ ?_
                    · refine And.intro rfl ?_
                      refine And.intro rfl ?_
                      refine And.intro hs90 ?_
                      refine And.intro ?_ ?_
                      · refine And.intro rfl ?_
                        refine SemOp.ofD rfl ?_
                        refine And.intro ⟨idx_lt hs85, idx_lt hs90⟩ ?_
                        refine ex_cellm b0 b0 (((b0.getD v12.toNat []).getD (b2.getD v155.toNat 0).toNat false) || (decide ((v0.at_.getD v12.toNat 0) < (v0.at_.getD (b2.getD v155.toNat 0).toNat 0)))) (x := 0) (cell := cB) (d := false) rfl rfl (fun _ => rfl) (idx_lt hs85) (idx_lt hs90) (congrArg AV.tst (by simp only [hg91, sB, reduceIte])) ?_
                        exact Le.trans (Le.mat (x := 0) (n' := (b0.set v12.toNat ((b0.getD v12.toNat []).set (b2.getD v155.toNat 0).toNat (((b0.getD v12.toNat []).getD (b2.getD v155.toNat 0).toNat false) || (decide ((v0.at_.getD v12.toNat 0) < (v0.at_.getD (b2.getD v155.toNat 0).toNat 0)))))).length) (len' := fun j => ((b0.set v12.toNat ((b0.getD v12.toNat []).set (b2.getD v155.toNat 0).toNat (((b0.getD v12.toNat []).getD (b2.getD v155.toNat 0).toNat false) || (decide ((v0.at_.getD v12.toNat 0) < (v0.at_.getD (b2.getD v155.toNat 0).toNat 0)))))).getD j []).length) (f' := fun j c => cB (((b0.set v12.toNat ((b0.getD v12.toNat []).set (b2.getD v155.toNat 0).toNat (((b0.getD v12.toNat []).getD (b2.getD v155.toNat 0).toNat false) || (decide ((v0.at_.getD v12.toNat 0) < (v0.at_.getD (b2.getD v155.toNat 0).toNat 0)))))).getD j []).getD c false) 0) rfl ((List.length_set).trans rfl) (fun j _ => (fun k => (ml_len k).trans ((fun _ => rfl) k)) j) (fun _ _ _ _ => rfl)) (Le.trans (Le.rep (t := 3) rfl (RepLe.ownLen ((List.length_set).trans rfl).symm)) (Le.keep (live := [0, 3, 9, 12, 117, 118, 119, 145, 146, 147, 153, 154, 155]) (names := [0, 1, 2]) (nx := 283) rfl))
                      · exact trivial
                    · exact trivial
                  · refine And.intro ?_ ?_
                    · refine And.intro ?_ ?_
                      · refine And.intro rfl ?_
                        refine And.intro rfl ?_
                        refine And.intro hs90 ?_
                        refine And.intro ?_ ?_
                        · refine And.intro rfl ?_
                          refine SemOp.ofD rfl ?_
                          refine And.intro ⟨idx_lt hs85, idx_lt hs90⟩ ?_
                          refine ex_cellm b0 b0 (((b0.getD v12.toNat []).getD (b2.getD v155.toNat 0).toNat false) || (decide ((v0.at_.getD v12.toNat 0) < (v0.at_.getD (b2.getD v155.toNat 0).toNat 0)))) (x := 0) (cell := cB) (d := false) rfl rfl (fun _ => rfl) (idx_lt hs85) (idx_lt hs90) (congrArg AV.tst (by simp only [hg91, sB, reduceIte])) ?_
                          exact Le.trans (Le.mat (x := 0) (n' := (b0.set v12.toNat ((b0.getD v12.toNat []).set (b2.getD v155.toNat 0).toNat (((b0.getD v12.toNat []).getD (b2.getD v155.toNat 0).toNat false) || (decide ((v0.at_.getD v12.toNat 0) < (v0.at_.getD (b2.getD v155.toNat 0).toNat 0)))))).length) (len' := fun j => ((b0.set v12.toNat ((b0.getD v12.toNat []).set (b2.getD v155.toNat 0).toNat (((b0.getD v12.toNat []).getD (b2.getD v155.toNat 0).toNat false) || (decide ((v0.at_.getD v12.toNat 0) < (v0.at_.getD (b2.getD v155.toNat 0).toNat 0)))))).getD j []).length) (f' := fun j c => cB (((b0.set v12.toNat ((b0.getD v12.toNat []).set (b2.getD v155.toNat 0).toNat (((b0.getD v12.toNat []).getD (b2.getD v155.toNat 0).toNat false) || (decide ((v0.at_.getD v12.toNat 0) < (v0.at_.getD (b2.getD v155.toNat 0).toNat 0)))))).getD j []).getD c false) 0) rfl ((List.length_set).trans rfl) (fun j _ => (fun k => (ml_len k).trans ((fun _ => rfl) k)) j) (fun _ _ _ _ => rfl)) (Le.trans (Le.rep (t := 3) rfl (RepLe.ownLen ((List.length_set).trans rfl).symm)) (Le.keep (live := [0, 3, 9, 12, 117, 118, 119, 145, 146, 147, 153, 154, 155]) (names := [0, 1, 2]) (nx := 283) rfl))
                        · exact trivial
                      · exact trivial
                    · exact trivial
                · refine And.intro ?_ ?_
                  · refine And.intro ?_ ?_
                    · refine And.intro ?_ ?_
                      · refine And.intro rfl ?_
                        refine And.intro rfl ?_
                        refine And.intro hs90 ?_
                        refine And.intro ?_ ?_
                        · refine And.intro rfl ?_
                          refine SemOp.ofD rfl ?_
                          refine And.intro ⟨idx_lt hs85, idx_lt hs90⟩ ?_
                          refine ex_cellm b0 b0 (((b0.getD v12.toNat []).getD (b2.getD v155.toNat 0).toNat false) || (decide ((v0.at_.getD v12.toNat 0) < (v0.at_.getD (b2.getD v155.toNat 0).toNat 0)))) (x := 0) (cell := cB) (d := false) rfl rfl (fun _ => rfl) (idx_lt hs85) (idx_lt hs90) (congrArg AV.tst (by simp only [hg91, sB, reduceIte])) ?_
                          exact Le.trans (Le.mat (x := 0) (n' := (b0.set v12.toNat ((b0.getD v12.toNat []).set (b2.getD v155.toNat 0).toNat (((b0.getD v12.toNat []).getD (b2.getD v155.toNat 0).toNat false) || (decide ((v0.at_.getD v12.toNat 0) < (v0.at_.getD (b2.getD v155.toNat 0).toNat 0)))))).length) (len' := fun j => ((b0.set v12.toNat ((b0.getD v12.toNat []).set (b2.getD v155.toNat 0).toNat (((b0.getD v12.toNat []).getD (b2.getD v155.toNat 0).toNat false) || (decide ((v0.at_.getD v12.toNat 0) < (v0.at_.getD (b2.getD v155.toNat 0).toNat 0)))))).getD j []).length) (f' := fun j c => cB (((b0.set v12.toNat ((b0.getD v12.toNat []).set (b2.getD v155.toNat 0).toNat (((b0.getD v12.toNat []).getD (b2.getD v155.toNat 0).toNat false) || (decide ((v0.at_.getD v12.toNat 0) < (v0.at_.getD (b2.getD v155.toNat 0).toNat 0)))))).getD j []).getD c false) 0) rfl ((List.length_set).trans rfl) (fun j _ => (fun k => (ml_len k).trans ((fun _ => rfl) k)) j) (fun _ _ _ _ => rfl)) (Le.trans (Le.rep (t := 3) rfl (RepLe.ownLen ((List.length_set).trans rfl).symm)) (Le.keep (live := [0, 3, 9, 12, 117, 118, 119, 145, 146, 147, 153, 154, 155]) (names := [0, 1, 2]) (nx := 283) rfl))
                        · exact trivial
                      · exact trivial
                    · exact trivial
                  · exact trivial
              · exact trivial
        · exact trivial
      refine CWP.regionT ⟨[(0, .fpt 6 (hb_log.cell v0)), (3, .own 0 1 0 ((b0.set v12.toNat ((b0.getD v12.toNat []).set (b2.getD v155.toNat 0).toNat (((b0.getD v12.toNat []).getD (b2.getD v155.toNat 0).toNat false) || (decide ((v0.at_.getD v12.toNat 0) < (v0.at_.getD (b2.getD v155.toNat 0).toNat 0)))))).length)), (9, I v9), (12, I v12), (117, api_Decl.sl v117), (118, I v118), (119, I v119), (145, .own 1 1 0 b1.length), (146, I v146), (147, I v147), (153, .own 2 1 0 b2.length), (154, I v154), (155, I (w64 (v155 + 1)))], [(0, .ml cB false (b0.set v12.toNat ((b0.getD v12.toNat []).set (b2.getD v155.toNat 0).toNat (((b0.getD v12.toNat []).getD (b2.getD v155.toNat 0).toNat false) || (decide ((v0.at_.getD v12.toNat 0) < (v0.at_.getD (b2.getD v155.toNat 0).toNat 0))))))), (1, .li 1 cI 0 b1), (2, .li 1 cI 0 b2)], 3⟩ ?_ ?_
      · exact Le.trans (Le.keep (live := [0, 3, 9, 12, 117, 118, 119, 145, 146, 147, 153, 154, 155]) (names := [0, 1, 2]) (nx := 299) rfl) (Le.keep (live := [0, 3, 9, 12, 117, 118, 119, 145, 146, 147, 153, 154, 155]) (names := [0, 1, 2]) (nx := 3) rfl)
      exact ⟨m, Nat.lt_succ_self m, _, _, _, _, _, _, _, _, _, _, _, _, _, rfl, h⟩
    · have h := ite_f h hc
      refine CWP.exitL (Le.keep (live := [0, 3, 9, 117, 118, 119, 145, 146, 147]) (names := [0, 1]) (nx := 2) rfl) (s' := ⟨[(0, .fpt 6 (hb_log.cell v0)), (3, .own 0 1 0 b0.length), (9, I v9), (117, api_Decl.sl v117), (118, I v118), (119, I v119), (145, .own 1 1 0 b1.length), (146, I v146), (147, I v147)], [(0, .ml cB false b0), (1, .li 1 cI 0 b1)], 2⟩) ?_
      exact hok _ _ _ _ _ _ _ _ _ (Option.some.inj h).symm
theorem t27_fp59__7 {n fuel : Nat} {b0 : List (List Bool)} {b1 : List Int} {v0 : hb_log} {v117 : List api_Decl} {v118 : Int} {v119 : Int} {v146 : Int} {v147 : Int} {v9 : Int} {out : O27_fp59__7} (h : l27_fp59__7 n fuel b0 b1 v0 v117 v118 v119 v146 v147 v9 = some out) {Q : Ex → AS → Prop} (hok : ∀ b0 v0 v117 v118 v119, out = .ok b0 v0 v117 v118 v119 → Q .normal ⟨[(0, .fpt 6 (hb_log.cell v0)), (3, .own 0 1 0 b0.length), (117, api_Decl.sl v117), (118, I v118), (119, I v119)], [(0, .ml cB false b0)], 1⟩) : CWP Try.prog Try.f27.ntmps code27_7 Q ⟨[(0, .fpt 6 (hb_log.cell v0)), (3, .own 0 1 0 b0.length), (9, I v9), (117, api_Decl.sl v117), (118, I v118), (119, I v119), (145, .own 1 1 0 b1.length), (146, I v146), (147, I v147)], [(0, .ml cB false b0), (1, .li 1 cI 0 b1)], 2⟩ := by
  refine CWP.block ?_
  refine CWP.loop (fun k s => ∃ b0 : List (List Bool), ∃ b1 : List Int, ∃ v0 : hb_log, ∃ v117 : List api_Decl, ∃ v118 : Int, ∃ v119 : Int, ∃ v146 : Int, ∃ v147 : Int, ∃ v9 : Int, s = ⟨[(0, .fpt 6 (hb_log.cell v0)), (3, .own 0 1 0 b0.length), (9, I v9), (117, api_Decl.sl v117), (118, I v118), (119, I v119), (145, .own 1 1 0 b1.length), (146, I v146), (147, I v147)], [(0, .ml cB false b0), (1, .li 1 cI 0 b1)], 2⟩ ∧ l27_fp59__7 n k b0 b1 v0 v117 v118 v119 v146 v147 v9 = some out) fuel ⟨b0, b1, v0, v117, v118, v119, v146, v147, v9, rfl, h⟩ ?_
  clear h
  rintro k s ⟨b0, b1, v0, v117, v118, v119, v146, v147, v9, rfl, h⟩
  cases k with
  | zero => cases h
  | succ m =>
    rw [l27_fp59__7] at h
    refine CWP.seq ?_
    refine CWP.regionT ⟨[(0, .fpt 6 (hb_log.cell v0)), (3, .own 0 1 0 b0.length), (9, I v9), (117, api_Decl.sl v117), (118, I v118), (119, I v119), (145, .own 1 1 0 b1.length), (146, I v146), (147, I v147), (148, .tst (decide (v147 < v146)))], [(0, .ml cB false b0), (1, .li 1 cI 0 b1)], 10⟩ ?_ ?_
    · exact Le.keep (live := [0, 3, 9, 117, 118, 119, 145, 146, 147, 148]) (names := [0, 1]) (nx := 10) rfl
    refine CWP.seq ?_
    refine CWP.cond (And.intro (fun hc => ?_) (fun hc => ?_))
    · have h := ite_t h hc
      refine CWP.skip ?_
      refine CWP.seq ?_
      refine CWP.block ?_
      refine CWP.seq ?_
      obtain ⟨hs94, h⟩ := ite_some h
      refine CWP.regionT ⟨[(0, .fpt 6 (hb_log.cell v0)), (3, .own 0 1 0 b0.length), (9, I v9), (12, I (b1.getD v147.toNat 0)), (117, api_Decl.sl v117), (118, I v118), (119, I v119), (145, .own 1 1 0 b1.length), (146, I v146), (147, I v147)], [(0, .ml cB false b0), (1, .li 1 cI 0 b1)], 34⟩ ?_ ?_
      · refine And.intro hs94 ?_
        refine And.intro (idx_lt hs94) ?_
        exact Le.keep (live := [0, 3, 9, 12, 117, 118, 119, 145, 146, 147]) (names := [0, 1]) (nx := 34) rfl
      refine CWP.seq ?_
      obtain ⟨r95, hr95, h⟩ := Option.bind_eq_some_iff.1 h
      refine CWP.regionT ⟨[(0, .fpt 6 (hb_log.cell v0)), (3, .own 0 1 0 b0.length), (9, I v9), (12, I (b1.getD v147.toNat 0)), (117, api_Decl.sl v117), (118, I v118), (119, I v119), (145, .own 1 1 0 b1.length), (146, I v146), (147, I v147), (153, .own 50 1 0 r95.length), (154, I (r95.length : Int)), (155, I 0)], [(0, .ml cB false b0), (1, .li 1 cI 0 b1), (50, .li 1 cI 0 r95)], 74⟩ ?_ ?_
      · refine FC.semT rfl rfl rfl trivial (c44_fp59dd hr95) (Or.inl rfl) ?_
        refine ex_refl ?_
        exact Le.keep (live := [0, 3, 9, 12, 117, 118, 119, 145, 146, 147, 153, 154, 155]) (names := [0, 1, 50]) (nx := 74) rfl
      generalize hn96 : l27_fp59__6 n n b0 b1 r95 v0 v117 v118 v119 (b1.getD v147.toNat 0) v146 v147 (r95.length : Int) 0 v9 = o96 at h
      rcases o96 with _ | o96
      · cases h
      refine CWP.weaken (s' := ⟨[(0, .fpt 6 (hb_log.cell v0)), (3, .own 0 1 0 b0.length), (9, I v9), (12, I (b1.getD v147.toNat 0)), (117, api_Decl.sl v117), (118, I v118), (119, I v119), (145, .own 1 1 0 b1.length), (146, I v146), (147, I v147), (153, .own 2 1 0 r95.length), (154, I (r95.length : Int)), (155, I 0)], [(0, .ml cB false b0), (1, .li 1 cI 0 b1), (2, .li 1 cI 0 r95)], 3⟩) (Le.ren [(0, 0), (1, 1), (2, 50)] rfl ⟨rfl, rfl, rfl, rfl, rfl, rfl, rfl, rfl, rfl, rfl, rfl, rfl, rfl, trivial⟩ ⟨⟨_, rfl, rfl⟩, ⟨_, rfl, rfl⟩, ⟨_, rfl, rfl⟩, trivial⟩) ?_
      refine t27_fp59__6 hn96 ?_
      · intro b0_97 b1_97 v0_97 v117_97 v118_97 v119_97 v146_97 v147_97 v9_97 e
        subst e
        dsimp only at h
        refine CWP.regionT ⟨[(0, .fpt 6 (hb_log.cell v0_97)), (3, .own 0 1 0 b0_97.length), (9, I v9_97), (117, api_Decl.sl v117_97), (118, I v118_97), (119, I v119_97), (145, .own 1 1 0 b1_97.length), (146, I v146_97), (147, I (w64 (v147_97 + 1)))], [(0, .ml cB false b0_97), (1, .li 1 cI 0 b1_97)], 2⟩ ?_ ?_
        · exact Le.trans (Le.keep (live := [0, 3, 9, 117, 118, 119, 145, 146, 147]) (names := [0, 1]) (nx := 18) rfl) (Le.keep (live := [0, 3, 9, 117, 118, 119, 145, 146, 147]) (names := [0, 1]) (nx := 2) rfl)
        exact ⟨m, Nat.lt_succ_self m, _, _, _, _, _, _, _, _, _, rfl, h⟩
    · have h := ite_f h hc
      refine CWP.exitL (Le.keep (live := [0, 3, 117, 118, 119]) (names := [0]) (nx := 1) rfl) (s' := ⟨[(0, .fpt 6 (hb_log.cell v0)), (3, .own 0 1 0 b0.length), (117, api_Decl.sl v117), (118, I v118), (119, I v119)], [(0, .ml cB false b0)], 1⟩) ?_
      exact hok _ _ _ _ _ (Option.some.inj h).symm
theorem t27_fp59__8 {n : Nat} {b0 : List (List Bool)} {v0 : hb_log} {v117 : List api_Decl} {v118 : Int} {v119 : Int} {out : O27_fp59__8} (h : l27_fp59__8 n b0 v0 v117 v118 v119 = some out) {Q : Ex → AS → Prop} (hok : ∀ b0 v0 v117 v118 v119, out = .ok b0 v0 v117 v118 v119 → Q .normal ⟨[(0, .fpt 6 (hb_log.cell v0)), (3, .own 0 1 0 b0.length), (117, api_Decl.sl v117), (118, I v118), (119, I v119)], [(0, .ml cB false b0)], 1⟩) : CWP Try.prog Try.f27.ntmps code27_8 Q ⟨[(0, .fpt 6 (hb_log.cell v0)), (3, .own 0 1 0 b0.length), (117, api_Decl.sl v117), (118, I v118), (119, I v119)], [(0, .ml cB false b0)], 1⟩ := by
  unfold l27_fp59__8 at h
  refine CWP.block ?_
  refine CWP.seq ?_
  obtain ⟨hs101, h⟩ := ite_some h
  refine CWP.regionT ⟨[(0, .fpt 6 (hb_log.cell v0)), (3, .own 0 1 0 b0.length), (9, I v119), (10, .ptr 25 0), (117, api_Decl.sl v117), (118, I v118), (119, I v119)], [(0, .ml cB false b0), (25, .box [I ((v117.getD v119.toNat default).Kind), .raw (.string ((v117.getD v119.toNat default).Name)), I ((v117.getD v119.toNat default).Num), I ((v117.getD v119.toNat default).At)])], 49⟩ ?_ ?_
  · refine And.intro hs101 ?_
    refine SemOp.ofT ?_
    refine ex_refl ?_
    exact Le.keep (live := [0, 3, 9, 10, 117, 118, 119]) (names := [0, 25]) (nx := 49) rfl
  refine CWP.block ?_
  refine CWP.seq ?_
  refine CWP.regionT ⟨[(0, .fpt 6 (hb_log.cell v0)), (3, .own 0 1 0 b0.length), (9, I v119), (10, .ptr 25 0), (117, api_Decl.sl v117), (118, I v118), (119, I v119), (124, .tst ((((v117.getD v119.toNat default).Kind) == 4) && (decide (((v117.getD v119.toNat default).Num) > 0))))], [(0, .ml cB false b0), (25, .box [I ((v117.getD v119.toNat default).Kind), .raw (.string ((v117.getD v119.toNat default).Name)), I ((v117.getD v119.toNat default).Num), I ((v117.getD v119.toNat default).At)])], 121⟩ ?_ ?_
  · refine And.intro (fun hg107 => ?_) (fun hg107 => ?_)
    · have hg107 : (((v117.getD v119.toNat default).Kind) == 4) = true := hg107
      exact Le.trans (Le.rep (t := 124) rfl (RepLe.fr rfl (FrLe.tst2 (by simp only [hg107, sB, reduceIte])))) (Le.keep (live := [0, 3, 9, 10, 117, 118, 119, 124]) (names := [0, 25]) (nx := 121) rfl)
    · have hg107 : (((v117.getD v119.toNat default).Kind) == 4) = false := hg107
      exact Le.trans (Le.rep (t := 124) rfl (RepLe.fr rfl (FrLe.tst (by simp only [hg107, sB, reduceIte])))) (Le.keep (live := [0, 3, 9, 10, 117, 118, 119, 124]) (names := [0, 25]) (nx := 121) rfl)
  refine CWP.cond (And.intro (fun hc => ?_) (fun hc => ?_))
  · have h := ite_t h hc
    obtain ⟨r102, hr102, h⟩ := Option.bind_eq_some_iff.1 h
    obtain ⟨hs103, h⟩ := ite_some h
    refine CWP.regionT ⟨[(0, .fpt 6 (hb_log.cell v0)), (3, .own 0 1 0 r102.length), (117, api_Decl.sl v117), (118, I v118), (119, I v119)], [(0, .ml cB false r102)], 1⟩ ?_ ?_
    · refine SemOp.post (SemOp.call rfl rfl (RC.callOk 2 [(0, 0)] (c43_fp59mt42dd hr102) (RepLes.refl _) ⟨⟨_, _, rfl, rfl, BlkLe.refl _⟩, trivial⟩ rfl wrT ?_))
      refine Exists.intro ⟨[(0, .fpt 6 (hb_log.cell v0)), (3, .own 0 1 0 r102.length), (9, I v119), (10, .ptr 25 0), (117, api_Decl.sl v117), (118, I v118), (119, I v119), (124, .tst ((((v117.getD v119.toNat default).Kind) == 4) && (decide (((v117.getD v119.toNat default).Num) > 0)))), (133, .fpt 6 (hb_log.cell v0)), (134, .own 0 1 0 r102.length), (135, I v119), (136, .ptr 25 2), (137, I ((v117.getD v119.toNat default).Num)), (138, .tup [])], [(0, .ml cB false r102), (25, .box [I ((v117.getD v119.toNat default).Kind), .raw (.string ((v117.getD v119.toNat default).Name)), I ((v117.getD v119.toNat default).Num), I ((v117.getD v119.toNat default).At)])], 121⟩ (And.intro (LeM.trans (LeM.ownLen (t := 3) rfl hs103.symm) (LeM.ownLen (t := 134) rfl hs103.symm)) ?_)
      exact Le.trans (Le.keep (live := [0, 3, 117, 118, 119]) (names := [0]) (nx := 169) rfl) (Le.keep (live := [0, 3, 117, 118, 119]) (names := [0]) (nx := 1) rfl)
    exact hok _ _ _ _ _ (Option.some.inj h).symm
  · have h := ite_f h hc
    refine CWP.seq ?_
    refine CWP.regionT ⟨[(0, .fpt 6 (hb_log.cell v0)), (3, .own 0 1 0 b0.length), (9, I v119), (117, api_Decl.sl v117), (118, I v118), (119, I v119), (139, .tst (((v117.getD v119.toNat default).Kind) == 3))], [(0, .ml cB false b0)], 153⟩ ?_ ?_
    · exact Le.keep (live := [0, 3, 9, 117, 118, 119, 139]) (names := [0]) (nx := 153) rfl
    refine CWP.cond (And.intro (fun hc => ?_) (fun hc => ?_))
    · have h := ite_t h hc
      refine CWP.seq ?_
      obtain ⟨r104, hr104, h⟩ := Option.bind_eq_some_iff.1 h
      refine CWP.regionT ⟨[(0, .fpt 6 (hb_log.cell v0)), (3, .own 0 1 0 b0.length), (9, I v119), (117, api_Decl.sl v117), (118, I v118), (119, I v119), (145, .own 169 1 0 r104.length), (146, I (r104.length : Int)), (147, I 0)], [(0, .ml cB false b0), (169, .li 1 cI 0 r104)], 193⟩ ?_ ?_
      · refine FC.semT rfl rfl rfl trivial (c44_fp59dd hr104) (Or.inl rfl) ?_
        refine ex_refl ?_
        exact Le.keep (live := [0, 3, 9, 117, 118, 119, 145, 146, 147]) (names := [0, 169]) (nx := 193) rfl
      generalize hn105 : l27_fp59__7 n n b0 r104 v0 v117 v118 v119 (r104.length : Int) 0 v119 = o105 at h
      rcases o105 with _ | o105
      · cases h
      refine CWP.weaken (s' := ⟨[(0, .fpt 6 (hb_log.cell v0)), (3, .own 0 1 0 b0.length), (9, I v119), (117, api_Decl.sl v117), (118, I v118), (119, I v119), (145, .own 1 1 0 r104.length), (146, I (r104.length : Int)), (147, I 0)], [(0, .ml cB false b0), (1, .li 1 cI 0 r104)], 2⟩) (Le.ren [(0, 0), (1, 169)] rfl ⟨rfl, rfl, rfl, rfl, rfl, rfl, rfl, rfl, rfl, trivial⟩ ⟨⟨_, rfl, rfl⟩, ⟨_, rfl, rfl⟩, trivial⟩) ?_
      refine CWP.closure ?_
      refine t27_fp59__7 hn105 ?_
      · intro b0_106 v0_106 v117_106 v118_106 v119_106 e
        subst e
        dsimp only at h
        refine Exists.intro ⟨[(0, .fpt 6 (hb_log.cell v0_106)), (3, .own 0 1 0 b0_106.length), (117, api_Decl.sl v117_106), (118, I v118_106), (119, I v119_106)], [(0, .ml cB false b0_106)], 1⟩ (And.intro (Le.keep (live := [0, 3, 117, 118, 119]) (names := [0]) (nx := 1) rfl) ?_)
        exact hok _ _ _ _ _ (Option.some.inj h).symm
    · have h := ite_f h hc
      refine CWP.skipL (Le.keep (live := [0, 3, 117, 118, 119]) (names := [0]) (nx := 1) rfl) (s' := ⟨[(0, .fpt 6 (hb_log.cell v0)), (3, .own 0 1 0 b0.length), (117, api_Decl.sl v117), (118, I v118), (119, I v119)], [(0, .ml cB false b0)], 1⟩) ?_
      exact hok _ _ _ _ _ (Option.some.inj h).symm
theorem t27_fp59__9 {n fuel : Nat} {b0 : List (List Bool)} {v0 : hb_log} {v117 : List api_Decl} {v118 : Int} {v119 : Int} {out : O27_fp59__9} (h : l27_fp59__9 n fuel b0 v0 v117 v118 v119 = some out) {Q : Ex → AS → Prop} (hok : ∀ b0, out = .ok b0 → Q .normal ⟨[(3, .own 0 1 0 b0.length)], [(0, .ml cB false b0)], 1⟩) : CWP Try.prog Try.f27.ntmps code27_9 Q ⟨[(0, .fpt 6 (hb_log.cell v0)), (3, .own 0 1 0 b0.length), (117, api_Decl.sl v117), (118, I v118), (119, I v119)], [(0, .ml cB false b0)], 1⟩ := by
  refine CWP.block ?_
  refine CWP.loop (fun k s => ∃ b0 : List (List Bool), ∃ v0 : hb_log, ∃ v117 : List api_Decl, ∃ v118 : Int, ∃ v119 : Int, s = ⟨[(0, .fpt 6 (hb_log.cell v0)), (3, .own 0 1 0 b0.length), (117, api_Decl.sl v117), (118, I v118), (119, I v119)], [(0, .ml cB false b0)], 1⟩ ∧ l27_fp59__9 n k b0 v0 v117 v118 v119 = some out) fuel ⟨b0, v0, v117, v118, v119, rfl, h⟩ ?_
  clear h
  rintro k s ⟨b0, v0, v117, v118, v119, rfl, h⟩
  cases k with
  | zero => cases h
  | succ m =>
    rw [l27_fp59__9] at h
    refine CWP.seq ?_
    refine CWP.regionT ⟨[(0, .fpt 6 (hb_log.cell v0)), (3, .own 0 1 0 b0.length), (117, api_Decl.sl v117), (118, I v118), (119, I v119), (120, .tst (decide (v119 < v118)))], [(0, .ml cB false b0)], 9⟩ ?_ ?_
    · exact Le.keep (live := [0, 3, 117, 118, 119, 120]) (names := [0]) (nx := 9) rfl
    refine CWP.seq ?_
    refine CWP.cond (And.intro (fun hc => ?_) (fun hc => ?_))
    · have h := ite_t h hc
      refine CWP.skip ?_
      refine CWP.seq ?_
      generalize hn110 : l27_fp59__8 n b0 v0 v117 v118 v119 = o110 at h
      rcases o110 with _ | o110
      · cases h
      refine CWP.weaken (s' := ⟨[(0, .fpt 6 (hb_log.cell v0)), (3, .own 0 1 0 b0.length), (117, api_Decl.sl v117), (118, I v118), (119, I v119)], [(0, .ml cB false b0)], 1⟩) (Le.keep (live := [0, 3, 117, 118, 119]) (names := [0]) (nx := 1) rfl) ?_
      refine t27_fp59__8 hn110 ?_
      · intro b0_111 v0_111 v117_111 v118_111 v119_111 e
        subst e
        dsimp only at h
        refine CWP.regionT ⟨[(0, .fpt 6 (hb_log.cell v0_111)), (3, .own 0 1 0 b0_111.length), (117, api_Decl.sl v117_111), (118, I v118_111), (119, I (w64 (v119_111 + 1)))], [(0, .ml cB false b0_111)], 1⟩ ?_ ?_
        · exact Le.trans (Le.keep (live := [0, 3, 117, 118, 119]) (names := [0]) (nx := 17) rfl) (Le.keep (live := [0, 3, 117, 118, 119]) (names := [0]) (nx := 1) rfl)
        exact ⟨m, Nat.lt_succ_self m, _, _, _, _, _, rfl, h⟩
    · have h := ite_f h hc
      refine CWP.exitL (Le.keep (live := [3]) (names := [0]) (nx := 1) rfl) (s' := ⟨[(3, .own 0 1 0 b0.length)], [(0, .ml cB false b0)], 1⟩) ?_
      exact hok _ (Option.some.inj h).symm
theorem wf27_fp59 {n : Nat} {p0 : hb_log} {r : List (List Bool)} (h : s27_fp59 n p0 = some r) : CWP Try.prog Try.f27.ntmps code27 (AtE (E27_fp59 r)) ⟨[(0, .fpt 6 (hb_log.cell p0))], [], 0⟩ := by
  unfold s27_fp59 at h
  refine CWP.seq ?_
  refine CWP.regionT ⟨[(0, .fpt 6 (hb_log.cell p0))], [], 8⟩ ?_ ?_
  · exact Le.keep (live := [0]) (names := []) (nx := 8) rfl
  refine CWP.seq ?_
  obtain ⟨r17, hr17, h⟩ := Option.bind_eq_some_iff.1 h
  refine CWP.regionT ⟨[(0, .fpt 6 (hb_log.cell p0)), (3, .own 40 1 0 r17.length)], [(40, .ml cB false r17)], 56⟩ ?_ ?_
  · refine FC.semT rfl rfl rfl trivial (c42 hr17) (Or.inl rfl) ?_
    refine ex_refl ?_
    exact Le.keep (live := [0, 3]) (names := [40]) (nx := 56) rfl
  refine CWP.seq ?_
  refine CWP.seq ?_
  refine CWP.regionT ⟨[(0, .fpt 6 (hb_log.cell p0)), (3, .own 40 1 0 r17.length), (20, .own 40 1 0 r17.length), (21, I (r17.length : Int)), (22, I 0)], [(40, .ml cB false r17)], 80⟩ ?_ ?_
  · exact Le.keep (live := [0, 3, 20, 21, 22]) (names := [40]) (nx := 80) rfl
  generalize hn40 : l27_fp59__2 n n r17 p0 (r17.length : Int) 0 = o40 at h
  rcases o40 with _ | o40
  · cases h
  refine CWP.weaken (s' := ⟨[(0, .fpt 6 (hb_log.cell p0)), (3, .own 0 1 0 r17.length), (20, .own 0 1 0 r17.length), (21, I (r17.length : Int)), (22, I 0)], [(0, .ml cB false r17)], 1⟩) (Le.ren [(0, 40)] rfl ⟨rfl, rfl, rfl, rfl, rfl, trivial⟩ ⟨⟨_, rfl, rfl⟩, trivial⟩) ?_
  refine t27_fp59__2 hn40 ?_
  · intro b0_41 v0_41 e
    subst e
    dsimp only at h
    refine CWP.seq ?_
    refine CWP.seq ?_
    refine CWP.regionT ⟨[(0, .fpt 6 (hb_log.cell v0_41)), (3, .own 0 1 0 b0_41.length), (64, api_Entry.sl v0_41.l), (65, I (v0_41.l.length : Int)), (66, I 0)], [(0, .ml cB false b0_41)], 49⟩ ?_ ?_
    · exact Le.keep (live := [0, 3, 64, 65, 66]) (names := [0]) (nx := 49) rfl
    generalize hn68 : l27_fp59__5 n n b0_41 v0_41 v0_41.l (v0_41.l.length : Int) 0 = o68 at h
    rcases o68 with _ | o68
    · cases h
    refine CWP.weaken (s' := ⟨[(0, .fpt 6 (hb_log.cell v0_41)), (3, .own 0 1 0 b0_41.length), (64, api_Entry.sl v0_41.l), (65, I (v0_41.l.length : Int)), (66, I 0)], [(0, .ml cB false b0_41)], 1⟩) (Le.keep (live := [0, 3, 64, 65, 66]) (names := [0]) (nx := 1) rfl) ?_
    refine t27_fp59__5 hn68 ?_
    · intro b0_69 v0_69 e
      subst e
      dsimp only at h
      refine CWP.seq ?_
      refine CWP.seq ?_
      refine CWP.regionT ⟨[(0, .fpt 6 (hb_log.cell v0_69)), (3, .own 0 1 0 b0_69.length), (117, api_Decl.sl v0_69.d), (118, I (v0_69.d.length : Int)), (119, I 0)], [(0, .ml cB false b0_69)], 49⟩ ?_ ?_
      · exact Le.keep (live := [0, 3, 117, 118, 119]) (names := [0]) (nx := 49) rfl
      generalize hn112 : l27_fp59__9 n n b0_69 v0_69 v0_69.d (v0_69.d.length : Int) 0 = o112 at h
      rcases o112 with _ | o112
      · cases h
      refine CWP.weaken (s' := ⟨[(0, .fpt 6 (hb_log.cell v0_69)), (3, .own 0 1 0 b0_69.length), (117, api_Decl.sl v0_69.d), (118, I (v0_69.d.length : Int)), (119, I 0)], [(0, .ml cB false b0_69)], 1⟩) (Le.keep (live := [0, 3, 117, 118, 119]) (names := [0]) (nx := 1) rfl) ?_
      refine t27_fp59__9 hn112 ?_
      · intro b0_113 e
        subst e
        dsimp only at h
        refine CWP.seq ?_
        refine CWP.regionT ⟨[(2, .own 0 1 0 b0_113.length)], [(0, .ml cB false b0_113)], 17⟩ ?_ ?_
        · exact Le.keep (live := [2]) (names := [0]) (nx := 17) rfl
        refine CWP.weaken (s' := ⟨[(2, .own 0 1 0 b0_113.length)], [(0, .ml cB false b0_113)], 1⟩) (Le.keep (live := [2]) (names := [0]) (nx := 1) rfl) ?_
        refine CWP.ret ?_
        have e := Option.some.inj h
        subst e
        exact ⟨rfl, ⟨⟨_, rfl, rfl⟩, trivial⟩, trivial⟩
theorem c27_fp59 {n : Nat} {p0 : hb_log} {r : List (List Bool)} (h : s27_fp59 n p0 = some r) : FC Try.prog 27 [.fpt 6 (hb_log.cell p0)] (.own 0 1 0 r.length) [(0, .ml cB false r)] true := FC.new rfl rfl (RC.ofE (st := []) (r := .own 0 1 0 r.length) (st' := [(0, .ml cB false r)]) (pins := []) 0 [(0, 0)] (fn := Try.f27) (cc := code27) (res := .one 2) (by kernel_rfl) (by kernel_rfl) tr27 (by kernel_rfl) (Nat.le_of_ble_eq_true rfl) rfl rfl (fun β => wf27_fp59 h)) rfl ⟨(fun _ _ _ _ => rfl), trivial⟩
def code32 : CCode :=
 (.seq
  (.region [⟨(some 2), (.mv (.const (.bool false))), none⟩] none)
  (.seq
  (.region [⟨(some 3), (.mv (.tmp 0)), none⟩,
   ⟨(some 4), (.bin 0 .eql (.tmp 3) (.const (.int .i64 1))), none⟩,
   ⟨(some 5), (.mv (.tmp 4)), none⟩,
   ⟨(some 6), (.mv (.tmp 0)), (some (5, false))⟩,
   ⟨(some 7), (.bin 0 .eql (.tmp 6) (.const (.int .i64 2))), (some (5, false))⟩,
   ⟨(some 8), (.pick (.tmp 5) (.const (.bool true)) (.tmp 7)), none⟩,
   ⟨(some 2), (.mv (.tmp 8)), none⟩] none)
  .ret))
theorem tr32 : (Try.f32.body).bind (trCode Try.prog Try.f32.ntmps) = some code32 := by kernel_rfl
def s32 (n : Nat) (p0 : Int) : Option Bool :=
  some ((p0 == 1) || (p0 == 2))
def E32 (r : Bool) (s : AS) : Prop := resOf s (.one 2) = some (.tst r)
theorem wf32 {n : Nat} {p0 : Int} {r : Bool} (h : s32 n p0 = some r) : CWP Try.prog Try.f32.ntmps code32 (AtE (E32 r)) ⟨[(0, I p0)], [], 0⟩ := by
  unfold s32 at h
  refine CWP.seq ?_
  refine CWP.regionT ⟨[(0, I p0)], [], 8⟩ ?_ ?_
  · exact Le.keep (live := [0]) (names := []) (nx := 8) rfl
  refine CWP.seq ?_
  refine CWP.regionT ⟨[(2, .tst ((p0 == 1) || (p0 == 2)))], [], 64⟩ ?_ ?_
  · refine And.intro (fun hg120 => ?_) (fun hg120 => ?_)
    · have hg120 : (p0 == 1) = false := hg120
      exact Le.trans (Le.rep (t := 2) rfl (RepLe.fr rfl (FrLe.tst2 (by simp only [hg120, sB, reduceIte])))) (Le.keep (live := [2]) (names := []) (nx := 64) rfl)
    · have hg120 : (p0 == 1) = true := hg120
      exact Le.trans (Le.rep (t := 2) rfl (RepLe.fr rfl (FrLe.tst (by simp only [hg120, sB, reduceIte])))) (Le.keep (live := [2]) (names := []) (nx := 64) rfl)
  refine CWP.ret ?_
  have e := Option.some.inj h
  subst e
  exact rfl
theorem c32 {n : Nat} {p0 : Int} {r : Bool} (h : s32 n p0 = some r) : FC Try.prog 32 [I p0] (.tst r) [] false := FC.pureE (fn := Try.f32) (cc := code32) (res := .one 2) (by kernel_rfl) (by kernel_rfl) tr32 (by kernel_rfl) (Nat.le_of_ble_eq_true rfl) rfl (wf32 h)
end Go.AM
