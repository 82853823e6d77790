/- Texts of a proof, joined. -/
import Derived.Shelf.Small.Bits
import Derived.Shelf.Small.Strs
import Derived.Shelf.Strconv.Itoa0
import Derived.Shelf.Strings.Search1
import Derived.Shelf.Strings.Search2
import Derived.Shelf.Strings.Search3
import Derived.Shelf.LaysM
import Derived.Shelf.Strings.Shaped
import Derived.Shelf.Slices.Turned
import Derived.Shelf.Slices.Equal
import Derived.Ground.Names2Prog
import Derived.Shelf.Slices.Clone
import Derived.Shelf.Slices.Empties2
import Derived.Ground.SlgnProg
import Derived.Shelf.SlicesE.Clone
import Derived.Test.YtddfajkgaomnhaaGreatProg
import Derived.Test.YtddfajkgaomnhaaGreatQ2
set_option linter.unusedVariables false
set_option linter.unusedSectionVars false
set_option linter.unusedSimpArgs false
set_option linter.constructorNameAsVariable false
section
/- Two functions of the library that search texts, for the VM (by the shelf's plain mode). -/
namespace Go.Proofs
open Go.Shelf
def Tryz.lays137_ren : Go.Shelf.Ren := ⟨fun | 137 => 363 | 217 => 367 | 266 => 370 | n => n, fun | 9 => 9 | 5 => 5 | 3 => 3 | n => n, fun | n => n⟩
theorem Tryz.lays137 : Go.Proofs.Lays.n137 Tryz.prog Tryz.lays137_ren := {
  mixed := by kernel_rfl
  f137 := Tryz.func363.trans (congrArg some (by kernel_rfl))
  f217 := Tryz.func367.trans (congrArg some (by kernel_rfl))
  f266 := Tryz.func370.trans (congrArg some (by kernel_rfl))
  t3 := Tryz.underlying3
  a3 := Tryz.isAgg3
  z3 := Tryz.sizeOf3
  v3 := Tryz.zeroValue3
  t5 := Tryz.underlying5
  a5 := Tryz.isAgg5
  z5 := Tryz.sizeOf5
  v5 := Tryz.zeroValue5
  t9 := Tryz.underlying9
  a9 := Tryz.isAgg9
  z9 := Tryz.sizeOf9
  v9 := Tryz.zeroValue9 }
def Tryz.lays144_ren : Go.Shelf.Ren := ⟨fun | 144 => 364 | 143 => 368 | 219 => 371 | 217 => 367 | 225 => 372 | 224 => 373 | 267 => 374 | 266 => 370 | 314 => 375 | n => n, fun | 9 => 9 | 4 => 4 | 3 => 3 | 5 => 5 | 46 => 284 | 146 => 366 | 51 => 318 | n => n, fun | 1 => 0 | n => n⟩
theorem Tryz.lays144 : Go.Proofs.Lays.n144 Tryz.prog Tryz.lays144_ren := {
  mixed := by kernel_rfl
  f143 := Tryz.func368.trans (congrArg some (by kernel_rfl))
  f144 := Tryz.func364.trans (congrArg some (by kernel_rfl))
  f217 := Tryz.func367.trans (congrArg some (by kernel_rfl))
  f219 := Tryz.func371.trans (congrArg some (by kernel_rfl))
  f224 := Tryz.func373.trans (congrArg some (by kernel_rfl))
  f225 := Tryz.func372.trans (congrArg some (by kernel_rfl))
  f266 := Tryz.func370.trans (congrArg some (by kernel_rfl))
  f267 := Tryz.func374.trans (congrArg some (by kernel_rfl))
  f314 := Tryz.func375.trans (congrArg some (by kernel_rfl))
  t3 := Tryz.underlying3
  a3 := Tryz.isAgg3
  z3 := Tryz.sizeOf3
  v3 := Tryz.zeroValue3
  t4 := Tryz.underlying4
  a4 := Tryz.isAgg4
  z4 := Tryz.sizeOf4
  v4 := Tryz.zeroValue4
  t5 := Tryz.underlying5
  a5 := Tryz.isAgg5
  z5 := Tryz.sizeOf5
  v5 := Tryz.zeroValue5
  t9 := Tryz.underlying9
  a9 := Tryz.isAgg9
  z9 := Tryz.sizeOf9
  v9 := Tryz.zeroValue9
  t46 := Tryz.underlying284
  a46 := Tryz.isAgg284
  z46 := Tryz.sizeOf284
  v46 := Tryz.zeroValue284
  t51 := Tryz.underlying318
  a51 := Tryz.isAgg318
  z51 := Tryz.sizeOf318
  v51 := Tryz.zeroValue318
  t146 := Tryz.underlying366
  a146 := Tryz.isAgg366
  z146 := Tryz.sizeOf366
  v146 := Tryz.zeroValue366
  g1 := by kernel_rfl }
open Go.RowKit Go.Lib in
theorem Tryz.strings_IndexByte (s : ByteArray) (c : Int) (w : World) :
    Calls Tryz.prog 363 #[.string s, .int .u8 c] w fun e w' => e = .returned (.int .i64 (Lib.indexByte s.data.toList c.toNat.toUInt8)) ∧ w' = w := Any.strings_IndexByte Tryz.lays137 s c w
open Go.RowKit Go.Lib in
theorem Tryz.strings_Contains (s sub : ByteArray) (m : Int) (w : World) (hs : s.size < 4294967281) (hm : w.cell? ⟨0, 0, none⟩ = some (.int .i64 m)) :
    Calls Tryz.prog 364 #[.string s, .string sub] w fun e w' => e = .returned (.bool (Lib.contains s.data.toList sub.data.toList)) ∧ w' = w := Any.strings_Contains Tryz.lays144 s sub m w hs hm
theorem Tryz.strFns : Go.VM.StrFns Tryz.prog 363 364 0 := ⟨Tryz.strings_IndexByte, fun s sub m w hs hm => Tryz.strings_Contains s sub m w hs hm, ⟨_, Tryz.func363, by kernel_rfl, by kernel_rfl⟩, ⟨_, Tryz.func364, by kernel_rfl, by kernel_rfl⟩⟩
theorem Tryz.maxLen (w : World) (h : w.ShapedOpen Tryz.prog) : ∃ m, Go.VM.GAll w 0 0 (.int .i64 m) :=
  Go.Proofs.cell_of_shapedOpen_int (zero := #[.int .i64 0]) (t := 3) h (of_decide_eq_true (by kernel_rfl)) (by kernel_rfl) rfl (by kernel_rfl) (by kernel_rfl) Tryz.underlying3
end Go.Proofs
end

section
/- Calls that are told, one behind the other: each by what it comes to. -/
set_option maxRecDepth 100000
namespace Go.Proofs.YtddfajkgaomnhaaGreat
open Go.VM
variable [Val]
def iv (n : Int) : D := .num .i64 n
def inst (a b c d e f g : Int) : List D := [iv a, iv b, iv c, iv d, iv e, iv f, iv g]
def demo : D := .agg [iv 1, .sl 4 1 [iv 3, .str [109], iv 0, iv 0], .sl 6 1 [iv 1, .str [], iv 1, iv 0, iv 0, iv 0], .sl 1 2 [.sl 7 2 (inst 11 1 0 0 0 (-1) (-1) ++ inst 7 0 0 0 0 (-1) (-1)), .sl 7 1 (inst 7 0 0 0 0 (-1) (-1))], iv 0]
/- fathom/unroll.Check -/
def mCheck : Memo := ⟨163, [demo], .one (iv 0)⟩
theorem mCheck_ok {G : Nat → Nat → Go.Value → Prop} {m : Int} (hg : G 0 0 (.int .i64 m)) : MemoOk Tryz.prog G mCheck := memo_of (prims_ok Tryz.strFns (ms := []) hg memos_nil) 5000 (by kernel_rfl)
def mCheck_ms : List Memo := mCheck :: []
theorem mCheck_mk {G : Nat → Nat → Go.Value → Prop} {m : Int} (hg : G 0 0 (.int .i64 m)) : ∀ x ∈ mCheck_ms, MemoOk Tryz.prog G x := memos_cons (mCheck_ok hg) memos_nil
/- fathom/shape.Make -/
def mMake : Memo := ⟨70, [demo], .many [.agg [.sl 4 3 [iv 0, iv 0, iv 11, iv 1, iv 0, iv 1, iv 7, iv 0, iv 1, iv 0, iv 7, iv 0], .sl 1 2 [iv (-1), iv 0]], iv 0]⟩
theorem mMake_ok {G : Nat → Nat → Go.Value → Prop} {m : Int} (hg : G 0 0 (.int .i64 m)) : MemoOk Tryz.prog G mMake := memo_of (prims_ok Tryz.strFns (ms := mCheck_ms) hg (mCheck_mk hg)) 5000 (by kernel_rfl)
def mMake_ms : List Memo := mMake :: mCheck_ms
theorem mMake_mk {G : Nat → Nat → Go.Value → Prop} {m : Int} (hg : G 0 0 (.int .i64 m)) : ∀ x ∈ mMake_ms, MemoOk Tryz.prog G x := memos_cons (mMake_ok hg) (mCheck_mk hg)
/- fathom/shape.Check -/
def mShape : Memo := ⟨51, [(.agg [.sl 4 3 [iv 0, iv 0, iv 11, iv 1, iv 0, iv 1, iv 7, iv 0, iv 1, iv 0, iv 7, iv 0], .sl 1 2 [iv (-1), iv 0]])], .one (iv 0)⟩
theorem mShape_ok {G : Nat → Nat → Go.Value → Prop} {m : Int} (hg : G 0 0 (.int .i64 m)) : MemoOk Tryz.prog G mShape := memo_of (prims_ok Tryz.strFns (ms := mMake_ms) hg (mMake_mk hg)) 5000 (by kernel_rfl)
def mShape_ms : List Memo := mShape :: mMake_ms
theorem mShape_mk {G : Nat → Nat → Go.Value → Prop} {m : Int} (hg : G 0 0 (.int .i64 m)) : ∀ x ∈ mShape_ms, MemoOk Tryz.prog G x := memos_cons (mShape_ok hg) (mMake_mk hg)
/- fathom/shape.Ahead -/
def mAhead : Memo := ⟨74, [(.agg [.sl 4 3 [iv 0, iv 0, iv 11, iv 1, iv 0, iv 1, iv 7, iv 0, iv 1, iv 0, iv 7, iv 0], .sl 1 2 [iv (-1), iv 0]])], .one (.sl 1 3 [.sl 1 3 [.bool false, .bool true, .bool true], .sl 1 3 [.bool false, .bool false, .bool false], .sl 1 3 [.bool false, .bool false, .bool false]])⟩
theorem mAhead_ok {G : Nat → Nat → Go.Value → Prop} {m : Int} (hg : G 0 0 (.int .i64 m)) : MemoOk Tryz.prog G mAhead := memo_of (prims_ok Tryz.strFns (ms := mShape_ms) hg (mShape_mk hg)) 5000 (by kernel_rfl)
def mAhead_ms : List Memo := mAhead :: mShape_ms
theorem mAhead_mk {G : Nat → Nat → Go.Value → Prop} {m : Int} (hg : G 0 0 (.int .i64 m)) : ∀ x ∈ mAhead_ms, MemoOk Tryz.prog G x := memos_cons (mAhead_ok hg) (mShape_mk hg)
/- fathom/fathomlaw35.awake -/
def mAw : Memo := ⟨7, [], .one (.bool true)⟩
theorem mAw_ok {G : Nat → Nat → Go.Value → Prop} {m : Int} (hg : G 0 0 (.int .i64 m)) : MemoOk Tryz.prog G mAw := memo_of (prims_ok Tryz.strFns (ms := mAhead_ms) hg (mAhead_mk hg)) 5000 (by kernel_rfl)
def mAw_ms : List Memo := mAw :: mAhead_ms
theorem mAw_mk {G : Nat → Nat → Go.Value → Prop} {m : Int} (hg : G 0 0 (.int .i64 m)) : ∀ x ∈ mAw_ms, MemoOk Tryz.prog G x := memos_cons (mAw_ok hg) (mAhead_mk hg)
end Go.Proofs.YtddfajkgaomnhaaGreat
end
