/- Calls that are told, one behind the other: each by what it comes to. -/
import Derived.Test.YtbopmdbejfcbcaaGreatVs
set_option maxRecDepth 100000
namespace Go.Proofs.YtbopmdbejfcbcaaGreat
open Go.VM
variable [Val]
def iv (n : Int) : D := .num .i64 n
def inst (a b c d e f g : Int) : List D := [iv a, iv b, iv c, iv d, iv e, iv f, iv g]
def demo : D := .agg [iv 1, .sl 4 1 [iv 1, .str [120], iv 0, iv 0], .sl 6 1 [iv 1, .str [], iv 1, iv 0, iv 0, iv 0], .sl 1 2 [.sl 7 2 (inst 11 1 0 0 0 (-1) (-1) ++ inst 2 0 0 0 0 (-1) (-1)), .sl 7 1 (inst 1 0 0 0 0 0 (-1))], iv 1]
def turn (a b c : Int) : D := .agg [iv a, iv b, iv c]
/- fathom/unroll.Check -/
def mCheck : Memo := ⟨46, [demo], .one (iv 0)⟩
theorem mCheck_ok {G : Nat → Nat → Go.Value → Prop} {m : Int} (hg : G 0 0 (.int .i64 m)) : MemoOk Tryz.prog G mCheck := memo_of (prims_ok Tryz.strFns (ms := []) hg memos_nil) 5000 (by kernel_rfl)
def mCheck_ms : List Memo := mCheck :: []
theorem mCheck_mk {G : Nat → Nat → Go.Value → Prop} {m : Int} (hg : G 0 0 (.int .i64 m)) : ∀ x ∈ mCheck_ms, MemoOk Tryz.prog G x := memos_cons (mCheck_ok hg) memos_nil
/- fathom/shape.Make -/
def mMake : Memo := ⟨111, [demo], .many [.agg [.sl 4 3 [iv 0, iv 0, iv 11, iv 1, iv 0, iv 1, iv 2, iv 0, iv 1, iv 0, iv 1, iv 0], .sl 1 2 [iv (-1), iv 0]], iv 0]⟩
theorem mMake_ok {G : Nat → Nat → Go.Value → Prop} {m : Int} (hg : G 0 0 (.int .i64 m)) : MemoOk Tryz.prog G mMake := memo_of (prims_ok Tryz.strFns (ms := mCheck_ms) hg (mCheck_mk hg)) 5000 (by kernel_rfl)
def mMake_ms : List Memo := mMake :: mCheck_ms
theorem mMake_mk {G : Nat → Nat → Go.Value → Prop} {m : Int} (hg : G 0 0 (.int .i64 m)) : ∀ x ∈ mMake_ms, MemoOk Tryz.prog G x := memos_cons (mMake_ok hg) (mCheck_mk hg)
/- fathom/step.Begin -/
def mBegin : Memo := ⟨49, [demo], .many [.agg [.sl 1 2 [iv 0, iv 0], .sl 1 2 [.bool true, .bool false], .sl 1 2 [.bool false, .bool false], .sl 1 1 [iv 0], .sl 1 1 [iv 0], .sl 1 1 [.nils], .bool false], iv 0]⟩
theorem mBegin_ok {G : Nat → Nat → Go.Value → Prop} {m : Int} (hg : G 0 0 (.int .i64 m)) : MemoOk Tryz.prog G mBegin := memo_of (prims_ok Tryz.strFns (ms := mMake_ms) hg (mMake_mk hg)) 5000 (by kernel_rfl)
def mBegin_ms : List Memo := mBegin :: mMake_ms
theorem mBegin_mk {G : Nat → Nat → Go.Value → Prop} {m : Int} (hg : G 0 0 (.int .i64 m)) : ∀ x ∈ mBegin_ms, MemoOk Tryz.prog G x := memos_cons (mBegin_ok hg) (mMake_mk hg)
/- fathom/step.Check -/
def mC0 : Memo := ⟨134, [demo, (.agg [.sl 1 2 [iv 0, iv 0], .sl 1 2 [.bool true, .bool false], .sl 1 2 [.bool false, .bool false], .sl 1 1 [iv 0], .sl 1 1 [iv 0], .sl 1 1 [.nils], .bool false])], .one (iv 0)⟩
theorem mC0_ok {G : Nat → Nat → Go.Value → Prop} {m : Int} (hg : G 0 0 (.int .i64 m)) : MemoOk Tryz.prog G mC0 := memo_of (prims_ok Tryz.strFns (ms := mBegin_ms) hg (mBegin_mk hg)) 5000 (by kernel_rfl)
def mC0_ms : List Memo := mC0 :: mBegin_ms
theorem mC0_mk {G : Nat → Nat → Go.Value → Prop} {m : Int} (hg : G 0 0 (.int .i64 m)) : ∀ x ∈ mC0_ms, MemoOk Tryz.prog G x := memos_cons (mC0_ok hg) (mBegin_mk hg)
/- fathom/step.Turns -/
def mT0 : Memo := ⟨70, [demo, (.agg [.sl 1 2 [iv 0, iv 0], .sl 1 2 [.bool true, .bool false], .sl 1 2 [.bool false, .bool false], .sl 1 1 [iv 0], .sl 1 1 [iv 0], .sl 1 1 [.nils], .bool false])], .one (.sl 3 1 [iv 0, iv (-1), iv (-1)])⟩
theorem mT0_ok {G : Nat → Nat → Go.Value → Prop} {m : Int} (hg : G 0 0 (.int .i64 m)) : MemoOk Tryz.prog G mT0 := memo_of (prims_ok Tryz.strFns (ms := mC0_ms) hg (mC0_mk hg)) 5000 (by kernel_rfl)
def mT0_ms : List Memo := mT0 :: mC0_ms
theorem mT0_mk {G : Nat → Nat → Go.Value → Prop} {m : Int} (hg : G 0 0 (.int .i64 m)) : ∀ x ∈ mT0_ms, MemoOk Tryz.prog G x := memos_cons (mT0_ok hg) (mC0_mk hg)
/- fathom/step.Now -/
def mN00 : Memo := ⟨157, [demo, (.agg [.sl 1 2 [iv 0, iv 0], .sl 1 2 [.bool true, .bool false], .sl 1 2 [.bool false, .bool false], .sl 1 1 [iv 0], .sl 1 1 [iv 0], .sl 1 1 [.nils], .bool false]), iv 0], .many [iv 0, .bool true]⟩
theorem mN00_ok {G : Nat → Nat → Go.Value → Prop} {m : Int} (hg : G 0 0 (.int .i64 m)) : MemoOk Tryz.prog G mN00 := memo_of (prims_ok Tryz.strFns (ms := mT0_ms) hg (mT0_mk hg)) 5000 (by kernel_rfl)
def mN00_ms : List Memo := mN00 :: mT0_ms
theorem mN00_mk {G : Nat → Nat → Go.Value → Prop} {m : Int} (hg : G 0 0 (.int .i64 m)) : ∀ x ∈ mN00_ms, MemoOk Tryz.prog G x := memos_cons (mN00_ok hg) (mT0_mk hg)
/- fathom/step.Do -/
def mD0 : Memo := ⟨50, [demo, (.agg [.sl 1 2 [iv 0, iv 0], .sl 1 2 [.bool true, .bool false], .sl 1 2 [.bool false, .bool false], .sl 1 1 [iv 0], .sl 1 1 [iv 0], .sl 1 1 [.nils], .bool false]), turn 0 (-1) (-1)], .many [.agg [.sl 1 2 [iv 1, iv 0], .sl 1 2 [.bool true, .bool true], .sl 1 2 [.bool false, .bool false], .sl 1 1 [iv 0], .sl 1 1 [iv 0], .sl 1 1 [.nils], .bool false], iv 0]⟩
theorem mD0_ok {G : Nat → Nat → Go.Value → Prop} {m : Int} (hg : G 0 0 (.int .i64 m)) : MemoOk Tryz.prog G mD0 := memo_of (prims_ok Tryz.strFns (ms := mN00_ms) hg (mN00_mk hg)) 5000 (by kernel_rfl)
def mD0_ms : List Memo := mD0 :: mN00_ms
theorem mD0_mk {G : Nat → Nat → Go.Value → Prop} {m : Int} (hg : G 0 0 (.int .i64 m)) : ∀ x ∈ mD0_ms, MemoOk Tryz.prog G x := memos_cons (mD0_ok hg) (mN00_mk hg)
/- fathom/step.Check -/
def mC1 : Memo := ⟨134, [demo, (.agg [.sl 1 2 [iv 1, iv 0], .sl 1 2 [.bool true, .bool true], .sl 1 2 [.bool false, .bool false], .sl 1 1 [iv 0], .sl 1 1 [iv 0], .sl 1 1 [.nils], .bool false])], .one (iv 0)⟩
theorem mC1_ok {G : Nat → Nat → Go.Value → Prop} {m : Int} (hg : G 0 0 (.int .i64 m)) : MemoOk Tryz.prog G mC1 := memo_of (prims_ok Tryz.strFns (ms := mD0_ms) hg (mD0_mk hg)) 5000 (by kernel_rfl)
def mC1_ms : List Memo := mC1 :: mD0_ms
theorem mC1_mk {G : Nat → Nat → Go.Value → Prop} {m : Int} (hg : G 0 0 (.int .i64 m)) : ∀ x ∈ mC1_ms, MemoOk Tryz.prog G x := memos_cons (mC1_ok hg) (mD0_mk hg)
/- fathom/step.Turns -/
def mT1 : Memo := ⟨70, [demo, (.agg [.sl 1 2 [iv 1, iv 0], .sl 1 2 [.bool true, .bool true], .sl 1 2 [.bool false, .bool false], .sl 1 1 [iv 0], .sl 1 1 [iv 0], .sl 1 1 [.nils], .bool false])], .one (.sl 3 2 [iv 0, iv (-1), iv (-1), iv 1, iv (-1), iv (-1)])⟩
theorem mT1_ok {G : Nat → Nat → Go.Value → Prop} {m : Int} (hg : G 0 0 (.int .i64 m)) : MemoOk Tryz.prog G mT1 := memo_of (prims_ok Tryz.strFns (ms := mC1_ms) hg (mC1_mk hg)) 5000 (by kernel_rfl)
def mT1_ms : List Memo := mT1 :: mC1_ms
theorem mT1_mk {G : Nat → Nat → Go.Value → Prop} {m : Int} (hg : G 0 0 (.int .i64 m)) : ∀ x ∈ mT1_ms, MemoOk Tryz.prog G x := memos_cons (mT1_ok hg) (mC1_mk hg)
/- fathom/step.Now -/
def mN10 : Memo := ⟨157, [demo, (.agg [.sl 1 2 [iv 1, iv 0], .sl 1 2 [.bool true, .bool true], .sl 1 2 [.bool false, .bool false], .sl 1 1 [iv 0], .sl 1 1 [iv 0], .sl 1 1 [.nils], .bool false]), iv 0], .many [iv 1, .bool true]⟩
theorem mN10_ok {G : Nat → Nat → Go.Value → Prop} {m : Int} (hg : G 0 0 (.int .i64 m)) : MemoOk Tryz.prog G mN10 := memo_of (prims_ok Tryz.strFns (ms := mT1_ms) hg (mT1_mk hg)) 5000 (by kernel_rfl)
def mN10_ms : List Memo := mN10 :: mT1_ms
theorem mN10_mk {G : Nat → Nat → Go.Value → Prop} {m : Int} (hg : G 0 0 (.int .i64 m)) : ∀ x ∈ mN10_ms, MemoOk Tryz.prog G x := memos_cons (mN10_ok hg) (mT1_mk hg)
/- fathom/step.Now -/
def mN11 : Memo := ⟨157, [demo, (.agg [.sl 1 2 [iv 1, iv 0], .sl 1 2 [.bool true, .bool true], .sl 1 2 [.bool false, .bool false], .sl 1 1 [iv 0], .sl 1 1 [iv 0], .sl 1 1 [.nils], .bool false]), iv 1], .many [iv 0, .bool true]⟩
theorem mN11_ok {G : Nat → Nat → Go.Value → Prop} {m : Int} (hg : G 0 0 (.int .i64 m)) : MemoOk Tryz.prog G mN11 := memo_of (prims_ok Tryz.strFns (ms := mN10_ms) hg (mN10_mk hg)) 5000 (by kernel_rfl)
def mN11_ms : List Memo := mN11 :: mN10_ms
theorem mN11_mk {G : Nat → Nat → Go.Value → Prop} {m : Int} (hg : G 0 0 (.int .i64 m)) : ∀ x ∈ mN11_ms, MemoOk Tryz.prog G x := memos_cons (mN11_ok hg) (mN10_mk hg)
/- fathom/shape.Check -/
def mShape : Memo := ⟨159, [(.agg [.sl 4 3 [iv 0, iv 0, iv 11, iv 1, iv 0, iv 1, iv 2, iv 0, iv 1, iv 0, iv 1, iv 0], .sl 1 2 [iv (-1), iv 0]])], .one (iv 0)⟩
theorem mShape_ok {G : Nat → Nat → Go.Value → Prop} {m : Int} (hg : G 0 0 (.int .i64 m)) : MemoOk Tryz.prog G mShape := memo_of (prims_ok Tryz.strFns (ms := mN11_ms) hg (mN11_mk hg)) 5000 (by kernel_rfl)
def mShape_ms : List Memo := mShape :: mN11_ms
theorem mShape_mk {G : Nat → Nat → Go.Value → Prop} {m : Int} (hg : G 0 0 (.int .i64 m)) : ∀ x ∈ mShape_ms, MemoOk Tryz.prog G x := memos_cons (mShape_ok hg) (mN11_mk hg)
/- fathom/shape.At -/
def mA00 : Memo := ⟨158, [(.agg [.sl 4 3 [iv 0, iv 0, iv 11, iv 1, iv 0, iv 1, iv 2, iv 0, iv 1, iv 0, iv 1, iv 0], .sl 1 2 [iv (-1), iv 0]]), iv 0, iv 0], .one (iv 0)⟩
theorem mA00_ok {G : Nat → Nat → Go.Value → Prop} {m : Int} (hg : G 0 0 (.int .i64 m)) : MemoOk Tryz.prog G mA00 := memo_of (prims_ok Tryz.strFns (ms := mShape_ms) hg (mShape_mk hg)) 5000 (by kernel_rfl)
def mA00_ms : List Memo := mA00 :: mShape_ms
theorem mA00_mk {G : Nat → Nat → Go.Value → Prop} {m : Int} (hg : G 0 0 (.int .i64 m)) : ∀ x ∈ mA00_ms, MemoOk Tryz.prog G x := memos_cons (mA00_ok hg) (mShape_mk hg)
/- fathom/shape.At -/
def mA01 : Memo := ⟨158, [(.agg [.sl 4 3 [iv 0, iv 0, iv 11, iv 1, iv 0, iv 1, iv 2, iv 0, iv 1, iv 0, iv 1, iv 0], .sl 1 2 [iv (-1), iv 0]]), iv 0, iv 1], .one (iv 1)⟩
theorem mA01_ok {G : Nat → Nat → Go.Value → Prop} {m : Int} (hg : G 0 0 (.int .i64 m)) : MemoOk Tryz.prog G mA01 := memo_of (prims_ok Tryz.strFns (ms := mA00_ms) hg (mA00_mk hg)) 5000 (by kernel_rfl)
def mA01_ms : List Memo := mA01 :: mA00_ms
theorem mA01_mk {G : Nat → Nat → Go.Value → Prop} {m : Int} (hg : G 0 0 (.int .i64 m)) : ∀ x ∈ mA01_ms, MemoOk Tryz.prog G x := memos_cons (mA01_ok hg) (mA00_mk hg)
/- fathom/shape.At -/
def mA10 : Memo := ⟨158, [(.agg [.sl 4 3 [iv 0, iv 0, iv 11, iv 1, iv 0, iv 1, iv 2, iv 0, iv 1, iv 0, iv 1, iv 0], .sl 1 2 [iv (-1), iv 0]]), iv 1, iv 0], .one (iv 2)⟩
theorem mA10_ok {G : Nat → Nat → Go.Value → Prop} {m : Int} (hg : G 0 0 (.int .i64 m)) : MemoOk Tryz.prog G mA10 := memo_of (prims_ok Tryz.strFns (ms := mA01_ms) hg (mA01_mk hg)) 5000 (by kernel_rfl)
def mA10_ms : List Memo := mA10 :: mA01_ms
theorem mA10_mk {G : Nat → Nat → Go.Value → Prop} {m : Int} (hg : G 0 0 (.int .i64 m)) : ∀ x ∈ mA10_ms, MemoOk Tryz.prog G x := memos_cons (mA10_ok hg) (mA01_mk hg)
/- fathom/step.Do -/
def mD1 : Memo := ⟨50, [demo, (.agg [.sl 1 2 [iv 1, iv 0], .sl 1 2 [.bool true, .bool true], .sl 1 2 [.bool false, .bool false], .sl 1 1 [iv 0], .sl 1 1 [iv 0], .sl 1 1 [.nils], .bool false]), turn 0 (-1) (-1)], .many [.agg [.sl 1 2 [iv 2, iv 0], .sl 1 2 [.bool true, .bool true], .sl 1 2 [.bool false, .bool false], .sl 1 1 [iv 0], .sl 1 1 [iv 1], .sl 1 1 [.nils], .bool false], iv 0]⟩
theorem mD1_ok {G : Nat → Nat → Go.Value → Prop} {m : Int} (hg : G 0 0 (.int .i64 m)) : MemoOk Tryz.prog G mD1 := memo_of (prims_ok Tryz.strFns (ms := mA10_ms) hg (mA10_mk hg)) 5000 (by kernel_rfl)
def mD1_ms : List Memo := mD1 :: mA10_ms
theorem mD1_mk {G : Nat → Nat → Go.Value → Prop} {m : Int} (hg : G 0 0 (.int .i64 m)) : ∀ x ∈ mD1_ms, MemoOk Tryz.prog G x := memos_cons (mD1_ok hg) (mA10_mk hg)
/- fathom/step.Check -/
def mC2 : Memo := ⟨134, [demo, (.agg [.sl 1 2 [iv 2, iv 0], .sl 1 2 [.bool true, .bool true], .sl 1 2 [.bool false, .bool false], .sl 1 1 [iv 0], .sl 1 1 [iv 1], .sl 1 1 [.nils], .bool false])], .one (iv 0)⟩
theorem mC2_ok {G : Nat → Nat → Go.Value → Prop} {m : Int} (hg : G 0 0 (.int .i64 m)) : MemoOk Tryz.prog G mC2 := memo_of (prims_ok Tryz.strFns (ms := mD1_ms) hg (mD1_mk hg)) 5000 (by kernel_rfl)
def mC2_ms : List Memo := mC2 :: mD1_ms
theorem mC2_mk {G : Nat → Nat → Go.Value → Prop} {m : Int} (hg : G 0 0 (.int .i64 m)) : ∀ x ∈ mC2_ms, MemoOk Tryz.prog G x := memos_cons (mC2_ok hg) (mD1_mk hg)
/- fathom/step.Turns -/
def mT2 : Memo := ⟨70, [demo, (.agg [.sl 1 2 [iv 2, iv 0], .sl 1 2 [.bool true, .bool true], .sl 1 2 [.bool false, .bool false], .sl 1 1 [iv 0], .sl 1 1 [iv 1], .sl 1 1 [.nils], .bool false])], .one (.sl 3 1 [iv 1, iv (-1), iv (-1)])⟩
theorem mT2_ok {G : Nat → Nat → Go.Value → Prop} {m : Int} (hg : G 0 0 (.int .i64 m)) : MemoOk Tryz.prog G mT2 := memo_of (prims_ok Tryz.strFns (ms := mC2_ms) hg (mC2_mk hg)) 5000 (by kernel_rfl)
def mT2_ms : List Memo := mT2 :: mC2_ms
theorem mT2_mk {G : Nat → Nat → Go.Value → Prop} {m : Int} (hg : G 0 0 (.int .i64 m)) : ∀ x ∈ mT2_ms, MemoOk Tryz.prog G x := memos_cons (mT2_ok hg) (mC2_mk hg)
/- fathom/step.Now -/
def mN21 : Memo := ⟨157, [demo, (.agg [.sl 1 2 [iv 2, iv 0], .sl 1 2 [.bool true, .bool true], .sl 1 2 [.bool false, .bool false], .sl 1 1 [iv 0], .sl 1 1 [iv 1], .sl 1 1 [.nils], .bool false]), iv 1], .many [iv 0, .bool true]⟩
theorem mN21_ok {G : Nat → Nat → Go.Value → Prop} {m : Int} (hg : G 0 0 (.int .i64 m)) : MemoOk Tryz.prog G mN21 := memo_of (prims_ok Tryz.strFns (ms := mT2_ms) hg (mT2_mk hg)) 5000 (by kernel_rfl)
def mN21_ms : List Memo := mN21 :: mT2_ms
theorem mN21_mk {G : Nat → Nat → Go.Value → Prop} {m : Int} (hg : G 0 0 (.int .i64 m)) : ∀ x ∈ mN21_ms, MemoOk Tryz.prog G x := memos_cons (mN21_ok hg) (mT2_mk hg)
/- fathom/hb.Sees -/
def mS1 : Memo := ⟨121, [(.agg [.sl 4 3 [iv 0, iv 0, iv 11, iv 1, iv 0, iv 1, iv 2, iv 0, iv 1, iv 0, iv 1, iv 0], .sl 1 2 [iv (-1), iv 0]]), .sl 4 1 [iv 1, .str [120], iv 0, iv 0], .sl 3 2 [iv 0, iv (-1), iv (-1), iv 2, iv (-1), iv (-1)], iv 2], .one (.sl 1 1 [iv (-1)])⟩
theorem mS1_ok {G : Nat → Nat → Go.Value → Prop} {m : Int} (hg : G 0 0 (.int .i64 m)) : MemoOk Tryz.prog G mS1 := memo_of (prims_ok Tryz.strFns (ms := mN21_ms) hg (mN21_mk hg)) 5000 (by kernel_rfl)
def mS1_ms : List Memo := mS1 :: mN21_ms
theorem mS1_mk {G : Nat → Nat → Go.Value → Prop} {m : Int} (hg : G 0 0 (.int .i64 m)) : ∀ x ∈ mS1_ms, MemoOk Tryz.prog G x := memos_cons (mS1_ok hg) (mN21_mk hg)
/- fathom/hb.Sees -/
def mS2 : Memo := ⟨121, [(.agg [.sl 4 3 [iv 0, iv 0, iv 11, iv 1, iv 0, iv 1, iv 2, iv 0, iv 1, iv 0, iv 1, iv 0], .sl 1 2 [iv (-1), iv 0]]), .sl 4 1 [iv 1, .str [120], iv 0, iv 0], .sl 3 3 [iv 0, iv (-1), iv (-1), iv 1, iv (-1), iv (-1), iv 2, iv (-1), iv (-1)], iv 2], .one (.sl 1 2 [iv (-1), iv 1])⟩
theorem mS2_ok {G : Nat → Nat → Go.Value → Prop} {m : Int} (hg : G 0 0 (.int .i64 m)) : MemoOk Tryz.prog G mS2 := memo_of (prims_ok Tryz.strFns (ms := mS1_ms) hg (mS1_mk hg)) 5000 (by kernel_rfl)
def mS2_ms : List Memo := mS2 :: mS1_ms
theorem mS2_mk {G : Nat → Nat → Go.Value → Prop} {m : Int} (hg : G 0 0 (.int .i64 m)) : ∀ x ∈ mS2_ms, MemoOk Tryz.prog G x := memos_cons (mS2_ok hg) (mS1_mk hg)
/- fathom/step.Check -/
def mC3 : Memo := ⟨134, [demo, .agg [.sl 1 2 [iv 2, iv 1], .sl 1 2 [.bool true, .bool true], .sl 1 2 [.bool false, .bool false], .sl 1 1 [iv 1], .sl 1 1 [iv 1], .sl 1 1 [.nils], .bool false]], .one (iv 0)⟩
theorem mC3_ok {G : Nat → Nat → Go.Value → Prop} {m : Int} (hg : G 0 0 (.int .i64 m)) : MemoOk Tryz.prog G mC3 := memo_of (prims_ok Tryz.strFns (ms := mS2_ms) hg (mS2_mk hg)) 5000 (by kernel_rfl)
def mC3_ms : List Memo := mC3 :: mS2_ms
theorem mC3_mk {G : Nat → Nat → Go.Value → Prop} {m : Int} (hg : G 0 0 (.int .i64 m)) : ∀ x ∈ mC3_ms, MemoOk Tryz.prog G x := memos_cons (mC3_ok hg) (mS2_mk hg)
/- fathom/step.Turns -/
def mT3 : Memo := ⟨70, [demo, .agg [.sl 1 2 [iv 2, iv 1], .sl 1 2 [.bool true, .bool true], .sl 1 2 [.bool false, .bool false], .sl 1 1 [iv 1], .sl 1 1 [iv 1], .sl 1 1 [.nils], .bool false]], .one (.nils)⟩
theorem mT3_ok {G : Nat → Nat → Go.Value → Prop} {m : Int} (hg : G 0 0 (.int .i64 m)) : MemoOk Tryz.prog G mT3 := memo_of (prims_ok Tryz.strFns (ms := mC3_ms) hg (mC3_mk hg)) 5000 (by kernel_rfl)
def mT3_ms : List Memo := mT3 :: mC3_ms
theorem mT3_mk {G : Nat → Nat → Go.Value → Prop} {m : Int} (hg : G 0 0 (.int .i64 m)) : ∀ x ∈ mT3_ms, MemoOk Tryz.prog G x := memos_cons (mT3_ok hg) (mC3_mk hg)
/- fathom/step.Waits -/
def mW3 : Memo := ⟨69, [demo, .agg [.sl 1 2 [iv 2, iv 1], .sl 1 2 [.bool true, .bool true], .sl 1 2 [.bool false, .bool false], .sl 1 1 [iv 1], .sl 1 1 [iv 1], .sl 1 1 [.nils], .bool false]], .one (.nils)⟩
theorem mW3_ok {G : Nat → Nat → Go.Value → Prop} {m : Int} (hg : G 0 0 (.int .i64 m)) : MemoOk Tryz.prog G mW3 := memo_of (prims_ok Tryz.strFns (ms := mT3_ms) hg (mT3_mk hg)) 5000 (by kernel_rfl)
def mW3_ms : List Memo := mW3 :: mT3_ms
theorem mW3_mk {G : Nat → Nat → Go.Value → Prop} {m : Int} (hg : G 0 0 (.int .i64 m)) : ∀ x ∈ mW3_ms, MemoOk Tryz.prog G x := memos_cons (mW3_ok hg) (mT3_mk hg)
/- fathom/hb.Races -/
def mR3 : Memo := ⟨67, [(.agg [.sl 4 3 [iv 0, iv 0, iv 11, iv 1, iv 0, iv 1, iv 2, iv 0, iv 1, iv 0, iv 1, iv 0], .sl 1 2 [iv (-1), iv 0]]), .sl 4 1 [iv 1, .str [120], iv 0, iv 0], .sl 3 3 [iv 0, iv (-1), iv (-1), iv 1, iv (-1), iv (-1), iv 2, iv (-1), iv 1]], .one (.sl 2 1 [iv 1, iv 2])⟩
theorem mR3_ok {G : Nat → Nat → Go.Value → Prop} {m : Int} (hg : G 0 0 (.int .i64 m)) : MemoOk Tryz.prog G mR3 := memo_of (prims_ok Tryz.strFns (ms := mW3_ms) hg (mW3_mk hg)) 5000 (by kernel_rfl)
def mR3_ms : List Memo := mR3 :: mW3_ms
theorem mR3_mk {G : Nat → Nat → Go.Value → Prop} {m : Int} (hg : G 0 0 (.int .i64 m)) : ∀ x ∈ mR3_ms, MemoOk Tryz.prog G x := memos_cons (mR3_ok hg) (mW3_mk hg)
/- fathom/fathomlaw31.awake -/
def mAw : Memo := ⟨8, [], .one (.bool true)⟩
theorem mAw_ok {G : Nat → Nat → Go.Value → Prop} {m : Int} (hg : G 0 0 (.int .i64 m)) : MemoOk Tryz.prog G mAw := memo_of (prims_ok Tryz.strFns (ms := mR3_ms) hg (mR3_mk hg)) 5000 (by kernel_rfl)
def mAw_ms : List Memo := mAw :: mR3_ms
theorem mAw_mk {G : Nat → Nat → Go.Value → Prop} {m : Int} (hg : G 0 0 (.int .i64 m)) : ∀ x ∈ mAw_ms, MemoOk Tryz.prog G x := memos_cons (mAw_ok hg) (mR3_mk hg)
end Go.Proofs.YtbopmdbejfcbcaaGreat
