/-
  Go's decoder of a slice's first rune, at this program's numbers.
-/
import Derived.Test.YteokfknkcbmigaaDoorWalkU
import Derived.Shelf.Spec.DecodeRune
namespace Go.Proofs.YteokfknkcbmigaaDoor
open Go.RowKit Go.Rp Go.Shelf Go.Maps Go.Nm

def ren7 : Go.Shelf.Ren := ⟨fun | 32 => 74 | 49 => 84 | n => n, fun | 0 => 0 | 3 => 3 | 4 => 4 | 5 => 5 | 21 => 21 | 25 => 127 | 30 => 26 | 33 => 76 | 66 => 106 | 68 => 138 | 69 => 139 | n => n, fun | 2 => 4 | 3 => 5 | n => n⟩
theorem lays7 : Lays7.n32 Tryd.prog ren7 := {
  mixed := by kernel_rfl
  f32 := Tryd.func74.trans (congrArg some (by kernel_rfl))
  f49 := Tryd.func84.trans (congrArg some (by kernel_rfl))
  t0 := Tryd.underlying0
  a0 := Tryd.isAgg0
  z0 := Tryd.sizeOf0
  v0 := Tryd.zeroValue0
  i0 := by kernel_rfl
  t3 := Tryd.underlying3
  a3 := Tryd.isAgg3
  z3 := Tryd.sizeOf3
  v3 := Tryd.zeroValue3
  i3 := by kernel_rfl
  t4 := Tryd.underlying4
  a4 := Tryd.isAgg4
  z4 := Tryd.sizeOf4
  v4 := Tryd.zeroValue4
  i4 := by kernel_rfl
  t5 := Tryd.underlying5
  a5 := Tryd.isAgg5
  z5 := Tryd.sizeOf5
  v5 := Tryd.zeroValue5
  i5 := by kernel_rfl
  t21 := Tryd.underlying21
  a21 := Tryd.isAgg21
  z21 := Tryd.sizeOf21
  v21 := Tryd.zeroValue21
  i21 := by kernel_rfl
  t25 := Tryd.underlying127
  a25 := Tryd.isAgg127
  z25 := Tryd.sizeOf127
  v25 := Tryd.zeroValue127
  i25 := by kernel_rfl
  t30 := Tryd.underlying26
  a30 := Tryd.isAgg26
  z30 := Tryd.sizeOf26
  v30 := Tryd.zeroValue26
  i30 := by kernel_rfl
  t33 := Tryd.underlying76
  a33 := Tryd.isAgg76
  z33 := Tryd.sizeOf76
  v33 := Tryd.zeroValue76
  i33 := by kernel_rfl
  t66 := Tryd.underlying106
  a66 := Tryd.isAgg106
  z66 := Tryd.sizeOf106
  t68 := Tryd.underlying138
  a68 := Tryd.isAgg138
  z68 := Tryd.sizeOf138
  v68 := Tryd.zeroValue138
  i68 := by kernel_rfl
  t69 := Tryd.underlying139
  a69 := Tryd.isAgg139
  z69 := Tryd.sizeOf139
  v69 := Tryd.zeroValue139
  i69 := by kernel_rfl
  g2 := by kernel_rfl
  g3 := by kernel_rfl }
theorem u8_DecodeRune (s : ByteArray) (b off cap : Nat) (w : World) (hT : Tabs w) (hp : ∀ j, j < s.size → w.cell? ⟨b, off + j, none⟩ = some (.int .u8 (s.get! j).toNat)) :
    Calls Tryd.prog 74 #[.slice (some ⟨b, off, none⟩) s.size cap] w fun e w' => e = .returned (.tuple #[.int .i32 (Lib.decodeGo s).1, .int .i64 (Lib.decodeGo s).2]) ∧ Ext w w' :=
  Any7.utf8_DecodeRune lays7 s b off cap w hT.u8 hp
end Go.Proofs.YteokfknkcbmigaaDoor
