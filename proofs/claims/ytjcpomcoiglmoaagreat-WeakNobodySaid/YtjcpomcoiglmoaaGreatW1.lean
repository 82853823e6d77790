/- Calls that are told, one behind the other: each by what it comes to. -/
import Derived.Test.YtjcpomcoiglmoaaGreatVs
set_option maxRecDepth 100000
namespace Go.Proofs.YtjcpomcoiglmoaaGreat
open Go.VM
def iv (n : Int) : D := .num .i64 n
def inst (a b c d e f g : Int) : List D := [iv a, iv b, iv c, iv d, iv e, iv f, iv g]
def demo : D := .agg [iv 1, .sl 4 1 [iv 1, .str [120], iv 0, iv 0], .sl 6 1 [iv 1, .str [], iv 1, iv 0, iv 0, iv 0], .sl 1 2 [.sl 7 2 (inst 11 1 0 0 0 (-1) (-1) ++ inst 2 0 0 0 0 (-1) (-1)), .sl 7 1 (inst 1 0 0 0 0 0 (-1))], iv 1]
def turn (a b c : Int) : D := .agg [iv a, iv b, iv c]
/- fathom/unroll.Check -/
def mCheck : Memo := ⟨78, [demo], .one (iv 0)⟩
theorem mCheck_ok (m : Int) : MemoOk Tryz.prog (GInt 0 m) mCheck := memo_of (prims_ok Tryz.strFns (ms := []) memos_nil) 5000 (by kernel_rfl)
def mCheck_ms : List Memo := mCheck :: []
theorem mCheck_mk (m : Int) : ∀ x ∈ mCheck_ms, MemoOk Tryz.prog (GInt 0 m) x := memos_cons (mCheck_ok m) memos_nil
/- fathom/shape.Make -/
def mMake : Memo := ⟨39, [demo], .many [.agg [.sl 4 3 [iv 0, iv 0, iv 11, iv 1, iv 0, iv 1, iv 2, iv 0, iv 1, iv 0, iv 1, iv 0], .sl 1 2 [iv (-1), iv 0]], iv 0]⟩
theorem mMake_ok (m : Int) : MemoOk Tryz.prog (GInt 0 m) mMake := memo_of (prims_ok Tryz.strFns (ms := mCheck_ms) (mCheck_mk m)) 5000 (by kernel_rfl)
def mMake_ms : List Memo := mMake :: mCheck_ms
theorem mMake_mk (m : Int) : ∀ x ∈ mMake_ms, MemoOk Tryz.prog (GInt 0 m) x := memos_cons (mMake_ok m) (mCheck_mk m)
/- fathom/step.Begin -/
def mBegin : Memo := ⟨40, [demo], .many [.agg [.sl 1 2 [iv 0, iv 0], .sl 1 2 [.bool true, .bool false], .sl 1 2 [.bool false, .bool false], .sl 1 1 [iv 0], .sl 1 1 [iv 0], .sl 1 1 [.nils], .bool false], iv 0]⟩
theorem mBegin_ok (m : Int) : MemoOk Tryz.prog (GInt 0 m) mBegin := memo_of (prims_ok Tryz.strFns (ms := mMake_ms) (mMake_mk m)) 5000 (by kernel_rfl)
def mBegin_ms : List Memo := mBegin :: mMake_ms
theorem mBegin_mk (m : Int) : ∀ x ∈ mBegin_ms, MemoOk Tryz.prog (GInt 0 m) x := memos_cons (mBegin_ok m) (mMake_mk m)
/- fathom/step.Check -/
def mC0 : Memo := ⟨110, [demo, (.agg [.sl 1 2 [iv 0, iv 0], .sl 1 2 [.bool true, .bool false], .sl 1 2 [.bool false, .bool false], .sl 1 1 [iv 0], .sl 1 1 [iv 0], .sl 1 1 [.nils], .bool false])], .one (iv 0)⟩
theorem mC0_ok (m : Int) : MemoOk Tryz.prog (GInt 0 m) mC0 := memo_of (prims_ok Tryz.strFns (ms := mBegin_ms) (mBegin_mk m)) 5000 (by kernel_rfl)
def mC0_ms : List Memo := mC0 :: mBegin_ms
theorem mC0_mk (m : Int) : ∀ x ∈ mC0_ms, MemoOk Tryz.prog (GInt 0 m) x := memos_cons (mC0_ok m) (mBegin_mk m)
/- fathom/step.Turns -/
def mT0 : Memo := ⟨33, [demo, (.agg [.sl 1 2 [iv 0, iv 0], .sl 1 2 [.bool true, .bool false], .sl 1 2 [.bool false, .bool false], .sl 1 1 [iv 0], .sl 1 1 [iv 0], .sl 1 1 [.nils], .bool false])], .one (.sl 3 1 [iv 0, iv (-1), iv (-1)])⟩
theorem mT0_ok (m : Int) : MemoOk Tryz.prog (GInt 0 m) mT0 := memo_of (prims_ok Tryz.strFns (ms := mC0_ms) (mC0_mk m)) 5000 (by kernel_rfl)
def mT0_ms : List Memo := mT0 :: mC0_ms
theorem mT0_mk (m : Int) : ∀ x ∈ mT0_ms, MemoOk Tryz.prog (GInt 0 m) x := memos_cons (mT0_ok m) (mC0_mk m)
/- fathom/step.Now -/
def mN00 : Memo := ⟨87, [demo, (.agg [.sl 1 2 [iv 0, iv 0], .sl 1 2 [.bool true, .bool false], .sl 1 2 [.bool false, .bool false], .sl 1 1 [iv 0], .sl 1 1 [iv 0], .sl 1 1 [.nils], .bool false]), iv 0], .many [iv 0, .bool true]⟩
theorem mN00_ok (m : Int) : MemoOk Tryz.prog (GInt 0 m) mN00 := memo_of (prims_ok Tryz.strFns (ms := mT0_ms) (mT0_mk m)) 5000 (by kernel_rfl)
def mN00_ms : List Memo := mN00 :: mT0_ms
theorem mN00_mk (m : Int) : ∀ x ∈ mN00_ms, MemoOk Tryz.prog (GInt 0 m) x := memos_cons (mN00_ok m) (mT0_mk m)
/- fathom/step.Do -/
def mD0 : Memo := ⟨52, [demo, (.agg [.sl 1 2 [iv 0, iv 0], .sl 1 2 [.bool true, .bool false], .sl 1 2 [.bool false, .bool false], .sl 1 1 [iv 0], .sl 1 1 [iv 0], .sl 1 1 [.nils], .bool false]), turn 0 (-1) (-1)], .many [.agg [.sl 1 2 [iv 1, iv 0], .sl 1 2 [.bool true, .bool true], .sl 1 2 [.bool false, .bool false], .sl 1 1 [iv 0], .sl 1 1 [iv 0], .sl 1 1 [.nils], .bool false], iv 0]⟩
theorem mD0_ok (m : Int) : MemoOk Tryz.prog (GInt 0 m) mD0 := memo_of (prims_ok Tryz.strFns (ms := mN00_ms) (mN00_mk m)) 5000 (by kernel_rfl)
def mD0_ms : List Memo := mD0 :: mN00_ms
theorem mD0_mk (m : Int) : ∀ x ∈ mD0_ms, MemoOk Tryz.prog (GInt 0 m) x := memos_cons (mD0_ok m) (mN00_mk m)
/- fathom/step.Check -/
def mC1 : Memo := ⟨110, [demo, (.agg [.sl 1 2 [iv 1, iv 0], .sl 1 2 [.bool true, .bool true], .sl 1 2 [.bool false, .bool false], .sl 1 1 [iv 0], .sl 1 1 [iv 0], .sl 1 1 [.nils], .bool false])], .one (iv 0)⟩
theorem mC1_ok (m : Int) : MemoOk Tryz.prog (GInt 0 m) mC1 := memo_of (prims_ok Tryz.strFns (ms := mD0_ms) (mD0_mk m)) 5000 (by kernel_rfl)
def mC1_ms : List Memo := mC1 :: mD0_ms
theorem mC1_mk (m : Int) : ∀ x ∈ mC1_ms, MemoOk Tryz.prog (GInt 0 m) x := memos_cons (mC1_ok m) (mD0_mk m)
/- fathom/step.Turns -/
def mT1 : Memo := ⟨33, [demo, (.agg [.sl 1 2 [iv 1, iv 0], .sl 1 2 [.bool true, .bool true], .sl 1 2 [.bool false, .bool false], .sl 1 1 [iv 0], .sl 1 1 [iv 0], .sl 1 1 [.nils], .bool false])], .one (.sl 3 2 [iv 0, iv (-1), iv (-1), iv 1, iv (-1), iv (-1)])⟩
theorem mT1_ok (m : Int) : MemoOk Tryz.prog (GInt 0 m) mT1 := memo_of (prims_ok Tryz.strFns (ms := mC1_ms) (mC1_mk m)) 5000 (by kernel_rfl)
def mT1_ms : List Memo := mT1 :: mC1_ms
theorem mT1_mk (m : Int) : ∀ x ∈ mT1_ms, MemoOk Tryz.prog (GInt 0 m) x := memos_cons (mT1_ok m) (mC1_mk m)
/- fathom/step.Now -/
def mN10 : Memo := ⟨87, [demo, (.agg [.sl 1 2 [iv 1, iv 0], .sl 1 2 [.bool true, .bool true], .sl 1 2 [.bool false, .bool false], .sl 1 1 [iv 0], .sl 1 1 [iv 0], .sl 1 1 [.nils], .bool false]), iv 0], .many [iv 1, .bool true]⟩
theorem mN10_ok (m : Int) : MemoOk Tryz.prog (GInt 0 m) mN10 := memo_of (prims_ok Tryz.strFns (ms := mT1_ms) (mT1_mk m)) 5000 (by kernel_rfl)
def mN10_ms : List Memo := mN10 :: mT1_ms
theorem mN10_mk (m : Int) : ∀ x ∈ mN10_ms, MemoOk Tryz.prog (GInt 0 m) x := memos_cons (mN10_ok m) (mT1_mk m)
/- fathom/step.Now -/
def mN11 : Memo := ⟨87, [demo, (.agg [.sl 1 2 [iv 1, iv 0], .sl 1 2 [.bool true, .bool true], .sl 1 2 [.bool false, .bool false], .sl 1 1 [iv 0], .sl 1 1 [iv 0], .sl 1 1 [.nils], .bool false]), iv 1], .many [iv 0, .bool true]⟩
theorem mN11_ok (m : Int) : MemoOk Tryz.prog (GInt 0 m) mN11 := memo_of (prims_ok Tryz.strFns (ms := mN10_ms) (mN10_mk m)) 5000 (by kernel_rfl)
def mN11_ms : List Memo := mN11 :: mN10_ms
theorem mN11_mk (m : Int) : ∀ x ∈ mN11_ms, MemoOk Tryz.prog (GInt 0 m) x := memos_cons (mN11_ok m) (mN10_mk m)
/- fathom/shape.Check -/
def mShape : Memo := ⟨125, [(.agg [.sl 4 3 [iv 0, iv 0, iv 11, iv 1, iv 0, iv 1, iv 2, iv 0, iv 1, iv 0, iv 1, iv 0], .sl 1 2 [iv (-1), iv 0]])], .one (iv 0)⟩
theorem mShape_ok (m : Int) : MemoOk Tryz.prog (GInt 0 m) mShape := memo_of (prims_ok Tryz.strFns (ms := mN11_ms) (mN11_mk m)) 5000 (by kernel_rfl)
def mShape_ms : List Memo := mShape :: mN11_ms
theorem mShape_mk (m : Int) : ∀ x ∈ mShape_ms, MemoOk Tryz.prog (GInt 0 m) x := memos_cons (mShape_ok m) (mN11_mk m)
/- fathom/shape.At -/
def mA00 : Memo := ⟨88, [(.agg [.sl 4 3 [iv 0, iv 0, iv 11, iv 1, iv 0, iv 1, iv 2, iv 0, iv 1, iv 0, iv 1, iv 0], .sl 1 2 [iv (-1), iv 0]]), iv 0, iv 0], .one (iv 0)⟩
theorem mA00_ok (m : Int) : MemoOk Tryz.prog (GInt 0 m) mA00 := memo_of (prims_ok Tryz.strFns (ms := mShape_ms) (mShape_mk m)) 5000 (by kernel_rfl)
def mA00_ms : List Memo := mA00 :: mShape_ms
theorem mA00_mk (m : Int) : ∀ x ∈ mA00_ms, MemoOk Tryz.prog (GInt 0 m) x := memos_cons (mA00_ok m) (mShape_mk m)
/- fathom/shape.At -/
def mA01 : Memo := ⟨88, [(.agg [.sl 4 3 [iv 0, iv 0, iv 11, iv 1, iv 0, iv 1, iv 2, iv 0, iv 1, iv 0, iv 1, iv 0], .sl 1 2 [iv (-1), iv 0]]), iv 0, iv 1], .one (iv 1)⟩
theorem mA01_ok (m : Int) : MemoOk Tryz.prog (GInt 0 m) mA01 := memo_of (prims_ok Tryz.strFns (ms := mA00_ms) (mA00_mk m)) 5000 (by kernel_rfl)
def mA01_ms : List Memo := mA01 :: mA00_ms
theorem mA01_mk (m : Int) : ∀ x ∈ mA01_ms, MemoOk Tryz.prog (GInt 0 m) x := memos_cons (mA01_ok m) (mA00_mk m)
/- fathom/shape.At -/
def mA10 : Memo := ⟨88, [(.agg [.sl 4 3 [iv 0, iv 0, iv 11, iv 1, iv 0, iv 1, iv 2, iv 0, iv 1, iv 0, iv 1, iv 0], .sl 1 2 [iv (-1), iv 0]]), iv 1, iv 0], .one (iv 2)⟩
theorem mA10_ok (m : Int) : MemoOk Tryz.prog (GInt 0 m) mA10 := memo_of (prims_ok Tryz.strFns (ms := mA01_ms) (mA01_mk m)) 5000 (by kernel_rfl)
def mA10_ms : List Memo := mA10 :: mA01_ms
theorem mA10_mk (m : Int) : ∀ x ∈ mA10_ms, MemoOk Tryz.prog (GInt 0 m) x := memos_cons (mA10_ok m) (mA01_mk m)
/- fathom/step.Do -/
def mD1 : Memo := ⟨52, [demo, (.agg [.sl 1 2 [iv 1, iv 0], .sl 1 2 [.bool true, .bool true], .sl 1 2 [.bool false, .bool false], .sl 1 1 [iv 0], .sl 1 1 [iv 0], .sl 1 1 [.nils], .bool false]), turn 0 (-1) (-1)], .many [.agg [.sl 1 2 [iv 2, iv 0], .sl 1 2 [.bool true, .bool true], .sl 1 2 [.bool false, .bool false], .sl 1 1 [iv 0], .sl 1 1 [iv 1], .sl 1 1 [.nils], .bool false], iv 0]⟩
theorem mD1_ok (m : Int) : MemoOk Tryz.prog (GInt 0 m) mD1 := memo_of (prims_ok Tryz.strFns (ms := mA10_ms) (mA10_mk m)) 5000 (by kernel_rfl)
def mD1_ms : List Memo := mD1 :: mA10_ms
theorem mD1_mk (m : Int) : ∀ x ∈ mD1_ms, MemoOk Tryz.prog (GInt 0 m) x := memos_cons (mD1_ok m) (mA10_mk m)
/- fathom/step.Check -/
def mC2 : Memo := ⟨110, [demo, (.agg [.sl 1 2 [iv 2, iv 0], .sl 1 2 [.bool true, .bool true], .sl 1 2 [.bool false, .bool false], .sl 1 1 [iv 0], .sl 1 1 [iv 1], .sl 1 1 [.nils], .bool false])], .one (iv 0)⟩
theorem mC2_ok (m : Int) : MemoOk Tryz.prog (GInt 0 m) mC2 := memo_of (prims_ok Tryz.strFns (ms := mD1_ms) (mD1_mk m)) 5000 (by kernel_rfl)
def mC2_ms : List Memo := mC2 :: mD1_ms
theorem mC2_mk (m : Int) : ∀ x ∈ mC2_ms, MemoOk Tryz.prog (GInt 0 m) x := memos_cons (mC2_ok m) (mD1_mk m)
/- fathom/step.Turns -/
def mT2 : Memo := ⟨33, [demo, (.agg [.sl 1 2 [iv 2, iv 0], .sl 1 2 [.bool true, .bool true], .sl 1 2 [.bool false, .bool false], .sl 1 1 [iv 0], .sl 1 1 [iv 1], .sl 1 1 [.nils], .bool false])], .one (.sl 3 1 [iv 1, iv (-1), iv (-1)])⟩
theorem mT2_ok (m : Int) : MemoOk Tryz.prog (GInt 0 m) mT2 := memo_of (prims_ok Tryz.strFns (ms := mC2_ms) (mC2_mk m)) 5000 (by kernel_rfl)
def mT2_ms : List Memo := mT2 :: mC2_ms
theorem mT2_mk (m : Int) : ∀ x ∈ mT2_ms, MemoOk Tryz.prog (GInt 0 m) x := memos_cons (mT2_ok m) (mC2_mk m)
/- fathom/step.Now -/
def mN21 : Memo := ⟨87, [demo, (.agg [.sl 1 2 [iv 2, iv 0], .sl 1 2 [.bool true, .bool true], .sl 1 2 [.bool false, .bool false], .sl 1 1 [iv 0], .sl 1 1 [iv 1], .sl 1 1 [.nils], .bool false]), iv 1], .many [iv 0, .bool true]⟩
theorem mN21_ok (m : Int) : MemoOk Tryz.prog (GInt 0 m) mN21 := memo_of (prims_ok Tryz.strFns (ms := mT2_ms) (mT2_mk m)) 5000 (by kernel_rfl)
def mN21_ms : List Memo := mN21 :: mT2_ms
theorem mN21_mk (m : Int) : ∀ x ∈ mN21_ms, MemoOk Tryz.prog (GInt 0 m) x := memos_cons (mN21_ok m) (mT2_mk m)
/- fathom/hb.Sees -/
def mS1 : Memo := ⟨72, [(.agg [.sl 4 3 [iv 0, iv 0, iv 11, iv 1, iv 0, iv 1, iv 2, iv 0, iv 1, iv 0, iv 1, iv 0], .sl 1 2 [iv (-1), iv 0]]), .sl 4 1 [iv 1, .str [120], iv 0, iv 0], .sl 3 2 [iv 0, iv (-1), iv (-1), iv 2, iv (-1), iv (-1)], iv 2], .one (.sl 1 1 [iv (-1)])⟩
theorem mS1_ok (m : Int) : MemoOk Tryz.prog (GInt 0 m) mS1 := memo_of (prims_ok Tryz.strFns (ms := mN21_ms) (mN21_mk m)) 5000 (by kernel_rfl)
def mS1_ms : List Memo := mS1 :: mN21_ms
theorem mS1_mk (m : Int) : ∀ x ∈ mS1_ms, MemoOk Tryz.prog (GInt 0 m) x := memos_cons (mS1_ok m) (mN21_mk m)
/- fathom/hb.Sees -/
def mS2 : Memo := ⟨72, [(.agg [.sl 4 3 [iv 0, iv 0, iv 11, iv 1, iv 0, iv 1, iv 2, iv 0, iv 1, iv 0, iv 1, iv 0], .sl 1 2 [iv (-1), iv 0]]), .sl 4 1 [iv 1, .str [120], iv 0, iv 0], .sl 3 3 [iv 0, iv (-1), iv (-1), iv 1, iv (-1), iv (-1), iv 2, iv (-1), iv (-1)], iv 2], .one (.sl 1 2 [iv (-1), iv 1])⟩
theorem mS2_ok (m : Int) : MemoOk Tryz.prog (GInt 0 m) mS2 := memo_of (prims_ok Tryz.strFns (ms := mS1_ms) (mS1_mk m)) 5000 (by kernel_rfl)
def mS2_ms : List Memo := mS2 :: mS1_ms
theorem mS2_mk (m : Int) : ∀ x ∈ mS2_ms, MemoOk Tryz.prog (GInt 0 m) x := memos_cons (mS2_ok m) (mS1_mk m)
end Go.Proofs.YtjcpomcoiglmoaaGreat
