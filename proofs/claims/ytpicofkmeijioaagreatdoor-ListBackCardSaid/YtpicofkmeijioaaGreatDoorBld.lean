/- strings.Builder: WriteString and String, laid at this program by hand (the tool passes over copyCheck, whose body here names no text). -/
import Derived.Test.YtpicofkmeijioaaGreatDoorMem
import Derived.Test.YtpicofkmeijioaaGreatDoorShelf
import Derived.Shelf.Strings.Builder1
namespace Go.Proofs
open Go.Shelf
def Tryz.bld166_ren : Go.Shelf.Ren := ⟨fun | 166 => 83 | 240 => 131 | 276 => 167 | n => n, fun | 0 => 0 | 3 => 3 | 4 => 4 | 5 => 5 | 9 => 9 | 20 => 20 | 37 => 85 | 70 => 125 | 72 => 127 | 75 => 59 | 80 => 130 | 164 => 206 | n => n, fun | n => n⟩
theorem Tryz.bld166 : Go.Proofs.Lays.n166 Tryz.prog Tryz.bld166_ren := {
  mixed := by kernel_rfl
  f166 := Tryz.func83.trans (congrArg some (by kernel_rfl))
  f240 := Tryz.func131.trans (congrArg some (by kernel_rfl))
  f276 := Tryz.func167.trans (congrArg some (by kernel_rfl))
  t0 := Tryz.underlying0
  a0 := Tryz.isAgg0
  z0 := Tryz.sizeOf0
  v0 := Tryz.zeroValue0
  t3 := Tryz.underlying3
  a3 := Tryz.isAgg3
  z3 := Tryz.sizeOf3
  v3 := Tryz.zeroValue3
  t4 := Tryz.underlying4
  a4 := Tryz.isAgg4
  z4 := Tryz.sizeOf4
  v4 := Tryz.zeroValue4
  t9 := Tryz.underlying9
  a9 := Tryz.isAgg9
  z9 := Tryz.sizeOf9
  v9 := Tryz.zeroValue9
  t20 := Tryz.underlying20
  a20 := Tryz.isAgg20
  z20 := Tryz.sizeOf20
  v20 := Tryz.zeroValue20
  t37 := Tryz.underlying85
  a37 := Tryz.isAgg85
  z37 := Tryz.sizeOf85
  v37 := Tryz.zeroValue85
  t70 := Tryz.underlying125
  a70 := Tryz.isAgg125
  z70 := Tryz.sizeOf125
  v70 := Tryz.zeroValue125
  t72 := Tryz.underlying127
  a72 := Tryz.isAgg127
  z72 := Tryz.sizeOf127
  v72 := Tryz.zeroValue127
  t75 := Tryz.underlying59
  a75 := Tryz.isAgg59
  z75 := Tryz.sizeOf59
  v75 := Tryz.zeroValue59
  t164 := Tryz.underlying206
  a164 := Tryz.isAgg206
  z164 := Tryz.sizeOf206
  v164 := Tryz.zeroValue206 }
theorem Tryz.bldX166 : Builder.Extra Tryz.prog Tryz.bld166_ren where
  sizeBuilder := by kernel_rfl
  liesBuilder := by kernel_rfl
  t5 := Tryz.underlying5
  a5 := Tryz.isAgg5
  z5 := Tryz.sizeOf5
  v5 := Tryz.zeroValue5
  infoByte := by kernel_rfl
  cellsByte := by kernel_rfl
  sizeByte := by kernel_rfl
  neB5 := by decide
end Go.Proofs
namespace Go.Proofs.YtpicofkmeijioaaGreatDoor
open Go.RowKit
/-- A builder of the call's own that holds the text s. -/
abbrev BldAt (B b : Nat) (s : Str) (w : World) : Prop := Lib.IsBuilder 127 5 B b (Lib.byteCells s) w
theorem bldWrite_any (B b : Nat) (s t : Str) (w : World) (h : BldAt B b s w) (hl : s.length + t.length ≤ 1000000) (hB : B ≤ w.heap.size) :
    Calls Tryz.prog 83 #[.pointer (some ⟨b, 0, none⟩), S t] w fun e w' => e = .returned (.tuple #[.int .i64 t.length, .nilIface]) ∧ BldAt B b (s ++ t) w' ∧ Below B w w' := by
  refine (Any.Builder_WriteString Tryz.bld166 Tryz.bldX166 B b (Lib.byteCells s) ⟨t.toArray⟩ w h (by simp [Lib.byteCells, ByteArray.size]; omega) hB).mono ?_
  rintro e w' ⟨rfl, h1, h2⟩
  refine ⟨by simp [ByteArray.size], .inr ?_, h2⟩
  have e1 : Lib.byteCells s ++ Lib.strCells ⟨t.toArray⟩ = Lib.byteCells (s ++ t) := by simp [Lib.byteCells, Lib.strCells]
  rw [← e1]
  exact h1
theorem bldString_any (B b : Nat) (s : Str) (w : World) (h : BldAt B b s w) (hB : B ≤ w.heap.size) :
    Calls Tryz.prog 85 #[.pointer (some ⟨b, 0, none⟩)] w fun e w' => e = .returned (S s) ∧ Below B w w' :=
  Tryz.Builder_String_any B b s w h hB
end Go.Proofs.YtpicofkmeijioaaGreatDoor
