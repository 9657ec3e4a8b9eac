/-
  Go's decoder of a slice's first rune, at this program's numbers.
-/
import Derived.Test.YteokfknkcbmigaaGreatDoorWalkU
import Derived.Shelf.Spec.DecodeRune
namespace Go.Proofs.YteokfknkcbmigaaGreatDoor
open Go.RowKit Go.Rp Go.Shelf Go.Maps Go.Nm

def ren7 : Go.Shelf.Ren := ⟨fun | 32 => 99 | 49 => 109 | n => n, fun | 0 => 0 | 3 => 3 | 4 => 4 | 5 => 5 | 21 => 21 | 25 => 153 | 30 => 38 | 33 => 100 | 66 => 133 | 68 => 164 | 69 => 165 | n => n, fun | 2 => 4 | 3 => 5 | n => n⟩
theorem lays7 : Lays7.n32 Tryz.prog ren7 := {
  mixed := by kernel_rfl
  f32 := Tryz.func99.trans (congrArg some (by kernel_rfl))
  f49 := Tryz.func109.trans (congrArg some (by kernel_rfl))
  t0 := Tryz.underlying0
  a0 := Tryz.isAgg0
  z0 := Tryz.sizeOf0
  v0 := Tryz.zeroValue0
  i0 := by kernel_rfl
  t3 := Tryz.underlying3
  a3 := Tryz.isAgg3
  z3 := Tryz.sizeOf3
  v3 := Tryz.zeroValue3
  i3 := by kernel_rfl
  t4 := Tryz.underlying4
  a4 := Tryz.isAgg4
  z4 := Tryz.sizeOf4
  v4 := Tryz.zeroValue4
  i4 := by kernel_rfl
  t5 := Tryz.underlying5
  a5 := Tryz.isAgg5
  z5 := Tryz.sizeOf5
  v5 := Tryz.zeroValue5
  i5 := by kernel_rfl
  t21 := Tryz.underlying21
  a21 := Tryz.isAgg21
  z21 := Tryz.sizeOf21
  v21 := Tryz.zeroValue21
  i21 := by kernel_rfl
  t25 := Tryz.underlying153
  a25 := Tryz.isAgg153
  z25 := Tryz.sizeOf153
  v25 := Tryz.zeroValue153
  i25 := by kernel_rfl
  t30 := Tryz.underlying38
  a30 := Tryz.isAgg38
  z30 := Tryz.sizeOf38
  v30 := Tryz.zeroValue38
  i30 := by kernel_rfl
  t33 := Tryz.underlying100
  a33 := Tryz.isAgg100
  z33 := Tryz.sizeOf100
  v33 := Tryz.zeroValue100
  i33 := by kernel_rfl
  t66 := Tryz.underlying133
  a66 := Tryz.isAgg133
  z66 := Tryz.sizeOf133
  t68 := Tryz.underlying164
  a68 := Tryz.isAgg164
  z68 := Tryz.sizeOf164
  v68 := Tryz.zeroValue164
  i68 := by kernel_rfl
  t69 := Tryz.underlying165
  a69 := Tryz.isAgg165
  z69 := Tryz.sizeOf165
  v69 := Tryz.zeroValue165
  i69 := by kernel_rfl
  g2 := by kernel_rfl
  g3 := by kernel_rfl }
theorem u8_DecodeRune (s : ByteArray) (b off cap : Nat) (w : World) (hT : Tabs w) (hp : ∀ j, j < s.size → w.cell? ⟨b, off + j, none⟩ = some (.int .u8 (s.get! j).toNat)) :
    Calls Tryz.prog 99 #[.slice (some ⟨b, off, none⟩) s.size cap] w fun e w' => e = .returned (.tuple #[.int .i32 (Lib.decodeGo s).1, .int .i64 (Lib.decodeGo s).2]) ∧ Ext w w' :=
  Any7.utf8_DecodeRune lays7 s b off cap w hT.u8 hp
end Go.Proofs.YteokfknkcbmigaaGreatDoor
