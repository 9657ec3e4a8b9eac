/-
  A block of one class.
-/
import Derived.Test.YtbbemipidkhmfaaWalkB
namespace Go.Proofs.Ytbbemipidkhmfaa
open Go.RowKit

/-- The classes of a block of one class. -/
def rep (c : Int) : List Int := List.replicate 128 c
theorem rep_length (c : Int) : (rep c).length = 128 := by simp [rep]
theorem Holds83.new (w : World) : Holds83 (w.alloc (.cells Try.zeroCells83 83)) w.heap.size (rep 0) := by
  show (w.alloc (.cells Try.zeroCells83 83)).heap[_]? = some (Obj.cells (u8s (List.replicate 128 0)) _)
  rw [← zeros83]
  exact World.alloc_heap_new w _
theorem Holds83.otherRow {w : World} {b b' : Nat} {l : List Int} (h : Holds83 w b l) (hne : b' ≠ b) (c : Array Value) : Holds83 (w.setRow b' c) b l := by
  show (w.heap.modify b' _)[b]? = _
  rw [Array.getElem?_modify, if_neg hne]
  exact h

set_option maxRecDepth 100000 in
set_option maxHeartbeats 2000000 in
theorem c_uniform (c : Int) (w : World) (h0 : 0 ≤ c) (h1 : c ≤ 255) :
    Calls Try.prog 75 #[.int .i64 c] w fun e w' => e = .returned (.agg (u8s (rep c))) ∧ Ext w w' := by
  go_enter Try.func75, Try.ntmps75
  go_wp2_with fail
  refine (c_fill (.slice none 0 0) [] c 0 _ _ (Ext.refl _) (RgRow.nil _) trivial (by omega) h0 h1).mono ?_
  rintro e w1 ⟨v', j, rfl, _, _, hx⟩
  rw [show blkOf (clsOf [] c) 0 = rep c from blkOf_const (fun i hi => rfl)]
  have hz1 := (Holds83.new w).ext hx
  have hz2 := Holds83.new w1
  have hz3 := hz2.setRow (rep c)
  have hz4 := (hz1.ext ((Ext.refl w1).alloc (.cells Try.zeroCells83 83))).otherRow (b' := w1.heap.size) (by have := hx.sz; simp at this; omega) (u8s (rep c))
  have hz5 := hz4.setRow (rep c)
  have ld := hz5.loadVar (rep_length c)
  have hx1 : Ext w w1 := Below.trans ((Ext.refl w).alloc _) (Below.mono hx (by simp))
  have hx2 := ((hx1.alloc (.cells Try.zeroCells83 83)).setRow w1.heap.size hx1.sz (u8s (rep c))).setRow w.heap.size (Nat.le_refl _) (u8s (rep c))
  go_wp2_with (first | refine wpList_store83 rfl (.tmp 3) (.tmp 8) rfl rfl rfl hz2 (rep_length 0) (rep_length c) ?_ | refine wpList_load83 rfl (.tmp 3) rfl rfl hz3 (rep_length c) ?_ | refine wpList_store83 rfl (.tmp 2) (.tmp 10) rfl rfl rfl hz4 (rep_length 0) (rep_length c) ?_)
  refine bodyPost_ret (v := .agg (u8s (rep c))) ?_ rfl ⟨rfl, hx2⟩
  simp [results, Try.results75, asAddr, ld, Result.andThen, Act.put]
end Go.Proofs.Ytbbemipidkhmfaa
