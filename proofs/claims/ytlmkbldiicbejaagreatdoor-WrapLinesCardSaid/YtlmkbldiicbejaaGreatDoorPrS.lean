/-
  What stands on the shelf, as the walks take it.
-/
import Derived.Test.YtlmkbldiicbejaaGreatDoorPrAC
import Derived.Test.YtlmkbldiicbejaaGreatDoorShelf
import Derived.Lib.CountLaws
import Derived.Shelf.Abstract
namespace Go.Proofs.YtlmkbldiicbejaaGreatDoor
open Go.RowKit Go.Rp Go.Maps Go.Cl Go.Shelf

/-- The library's tables, and one number of its own. -/
structure TabsW (w : World) : Prop where
  u8 : Lib.Utf8Tabs 0 1 w
  m : ∃ m, w.cell? ⟨2, 0, none⟩ = some (.int .i64 m)
theorem TabsW.ext {w w' : World} (h : TabsW w) (hx : Ext w w') : TabsW w' := ⟨Utf8Tabs_below h.u8 hx, h.m.imp fun _ h => hx.cell h⟩
theorem prefC (s p : ByteArray) (w : World) : Calls Tryz.prog 155 #[.string s, .string p] w fun e w' => e = .returned (.bool (p.data.toList.isPrefixOf s.data.toList)) ∧ Ext w w' :=
  (Tryz.strings_HasPrefix s p w).mono fun e w' h => ⟨h.1, by rw [h.2]; exact Ext.refl _⟩
/-- Without blanks at both ends. -/
theorem c_TrimB (s : ByteArray) (w : World) (hs : s.size ≤ 9223372036854775807) : Calls Tryz.prog 70 #[.string s, .string ⟨#[32, 9]⟩] w fun e w' => e = .returned (.string ⟨(trimB s.data.toList).toArray⟩) ∧ Ext w w' := by
  refine (Any.strings_Trim_laid Tryz.lays160 (by kernel_rfl) s ⟨#[32, 9]⟩ w hs (by decide) ?_).mono fun e w' h => h
  intro j b hb
  have : b ∈ ([32, 9] : List UInt8) := List.mem_of_getElem? hb
  simp at this
  rcases this with rfl | rfl <;> decide
theorem split_bytes (s : List UInt8) (c : UInt8) : (Lib.splitB ⟨#[c]⟩ 0 (Lib.countB ⟨s.toArray⟩ ⟨#[c]⟩) ⟨s.toArray⟩).map Value.string = (splitC c [] s).map fun l => Value.string ⟨l.toArray⟩ := by
  have h1 := Lib.splitB_data ⟨#[c]⟩ 0 (Lib.countB ⟨s.toArray⟩ ⟨#[c]⟩) ⟨s.toArray⟩
  have h2 := split_C c s.length s (Nat.le_refl _)
  have h3 : Lib.splitK [c] 0 (Lib.count s [c]) s = splitC c [] s := h2
  rw [show Lib.splitK (⟨#[c]⟩ : ByteArray).data.toList 0 (Lib.countB ⟨s.toArray⟩ ⟨#[c]⟩) (⟨s.toArray⟩ : ByteArray).data.toList = Lib.splitK [c] 0 (Lib.count s [c]) s from by simp [Lib.countB], h3] at h1
  rw [← h1, List.map_map]
  refine List.map_congr_left fun x _ => ?_
  simp
/-- Cut at a byte. -/
theorem c_SplitW (s : List UInt8) (c : UInt8) (w : World) (hT : TabsW w) (hs : s.length ≤ 1000000) :
    Calls Tryz.prog 54 #[.string ⟨s.toArray⟩, .string ⟨#[c]⟩] w fun e w' => e = .returned (.slice (some ⟨w.heap.size, 0, none⟩) (splitC c [] s).length (splitC c [] s).length) ∧ w' = w.alloc (.cells ((splitC c [] s).map fun l => Value.string ⟨l.toArray⟩).toArray 9) := by
  obtain ⟨m, hm⟩ := hT.m
  have hb := split_bytes s c
  have hl : Lib.countB ⟨s.toArray⟩ ⟨#[c]⟩ + 1 = (splitC c [] s).length := by
    have h1 := Lib.splitB_all ⟨#[c]⟩ (Nat.le_refl 1) 0 _ ⟨s.toArray⟩ rfl
    have h2 := congrArg List.length hb
    rw [List.length_map, List.length_map] at h2
    omega
  refine (Tryz.strings_Split ⟨s.toArray⟩ ⟨#[c]⟩ m w (by show s.toArray.size < _; simp; omega) hm (Nat.le_refl 1)).mono ?_
  rintro e w' ⟨rfl, rfl⟩
  rw [hl, hb]
  exact ⟨rfl, rfl⟩
/-- Tabs taken for blanks, where there is no tab. -/
theorem c_ReplT (s : ByteArray) (w : World) (hT : TabsW w) (hs : s.size ≤ 1000000) (h : ∀ c ∈ s.data.toList, c ≠ 9) : Calls Tryz.prog 73 #[.string s, .string ⟨#[9]⟩, .string ⟨#[32]⟩] w fun e w' => e = .returned (.string s) ∧ Ext w w' := by
  obtain ⟨m, hm⟩ := hT.m
  have hc : Lib.countB s ⟨#[9]⟩ = 0 := Lib.count_miss (index_no 9 _ h)
  have hcon := Tryz.strings_Replace_absent s ⟨#[9]⟩ ⟨#[32]⟩ (-1) m w (by omega) hm (Nat.le_refl 1) (by decide) (by decide) hc
  go_enter Tryz.func73, Tryz.ntmps73
  go_wp2_with fail
  refine hcon.mono ?_
  rintro e w' ⟨rfl, rfl⟩
  go_wp2_with fail
  exact ret_one rfl rfl rfl ⟨rfl, Ext.refl _⟩
end Go.Proofs.YtlmkbldiicbejaaGreatDoor
