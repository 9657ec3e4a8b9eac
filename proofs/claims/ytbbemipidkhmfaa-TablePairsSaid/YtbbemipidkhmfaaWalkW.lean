/-
  live.
-/
import Derived.Test.YtbbemipidkhmfaaFacts
namespace Go.Proofs.Ytbbemipidkhmfaa
open Go.RowKit Go.Maps Go.Shelf

theorem c_num (x : Int) (w : World) : Calls Try.prog 10 #[.int .i64 x] w fun e w' => e = .returned (.int .i64 x) ∧ w' = w := by
  go_enter Try.func10, Try.ntmps10
  go_wp2_with fail
  go_ret
  exact ⟨rfl, rfl⟩
theorem rg_two (w : World) (x y : Rng) : RgRow (w.alloc (.cells #[.int .i32 x.lo, .int .i32 x.hi, .int .i64 x.cl, .int .i32 y.lo, .int .i32 y.hi, .int .i64 y.cl] 32)) (.slice (some ⟨w.heap.size, 0, none⟩) 2 2) [x, y] := by
  have hb := World.alloc_heap_new w (.cells #[.int .i32 x.lo, .int .i32 x.hi, .int .i64 x.cl, .int .i32 y.lo, .int .i32 y.hi, .int .i64 y.cl] 32)
  refine ⟨_, 2, rfl, by simp, fun _ => ⟨w.heap.size, 0, rfl, blk_lt hb, fun i hi => ?_⟩⟩
  have hi' : i = 0 ∨ i = 1 := by simp at hi; omega
  rcases hi' with rfl | rfl
  · exact ⟨cell_blk hb 0, cell_blk hb 1, cell_blk hb 2⟩
  · exact ⟨cell_blk hb 3, cell_blk hb 4, cell_blk hb 5⟩

set_option maxRecDepth 100000 in
set_option maxHeartbeats 8000000 in
theorem c_live (w : World) : Calls Try.prog 11 #[] w fun e w' => e = .returned (.bool true) ∧ Ext w w' := by
  go_enter Try.func11, Try.ntmps11
  go_wp2_with fail
  refine (c_Build _ lv 0 _ (rg_two w ⟨768, 879, 2⟩ ⟨97, 122, 1⟩)).mono ?_
  rintro e w1 ⟨hx1, (⟨hne, -⟩ | ⟨-, T1, rfl, htb, -⟩)⟩
  · exact absurd (by rw [lv_check]) hne
  obtain ⟨T, U, ix, ob, oc, ub, uc, rfl, ht⟩ := htb
  have hU := lv_count ht
  have hx01 : Ext w w1 := Ext.trans ((Ext.refl w).alloc _) hx1
  clear hx1
  go_wp2_with fail
  refine (c_num 0 w1).mono ?_
  rintro e w1' ⟨rfl, rfl⟩
  go_wp2_with fail
  refine (c_Get 98 w1' ht).mono ?_
  rintro e w2 ⟨rfl, hx2⟩
  rw [show getOf 0 (clsOf lv 0) 98 = 1 from rfl]
  have ht2 := ht.ext hx2
  go_wp2_with fail
  refine (c_Get 769 w2 ht2).mono ?_
  rintro e w3 ⟨rfl, hx3⟩
  rw [show getOf 0 (clsOf lv 0) 769 = 2 from rfl]
  have ht3 := ht2.ext hx3
  go_wp2_with fail
  refine (c_Get (-1) w3 ht3).mono ?_
  rintro e w4 ⟨rfl, hx4⟩
  rw [show getOf 0 (clsOf lv 0) (-1) = 0 from rfl]
  have ht4 := ht3.ext hx4
  go_wp2_with fail
  refine (c_Blocks w4 ht4).mono ?_
  rintro e w4' ⟨rfl, rfl⟩
  rw [hU]
  go_wp2_with fail
  refine (c_Count 1 w4' ht4).mono ?_
  rintro e w5 ⟨rfl, hx5⟩
  rw [total_runs lv_runs, show sumR 1 lvR = 26 from rfl]
  have ht5 := ht4.ext hx5
  have hx05 : Ext w w5 := Ext.trans (Ext.trans (Ext.trans (Ext.trans hx01 hx2) hx3) hx4) hx5
  clear hx2 hx3 hx4 hx5 hx01 ht ht2 ht3 ht4
  go_wp2_with fail
  refine (c_Bytes w5 ht5).mono ?_
  rintro e w6 ⟨bv, L, rfl, hL, hob, hx6⟩
  obtain rfl := hL.unique lv_runs
  rw [lv_bytes] at hob
  have hbr := ByRow.of_own hob (by decide)
  have ht6 := ht5.ext hx6
  clear hob
  go_wp2_with fail
  refine (c_Load bv _ w6 hbr (by decide)).mono ?_
  rintro e w7 ⟨hx7, htl, -⟩
  obtain ⟨T2, rfl, htb⟩ := lv_loads htl
  obtain ⟨T2, U2, ix2, ob2, oc2, ub2, uc2, rfl, htt⟩ := htb
  have ht7 := ht6.ext hx7
  have hx07 : Ext w w7 := Ext.trans (Ext.trans hx05 hx6) hx7
  clear htl hx6 hx7 ht5 ht6 hx05 hbr
  go_wp2_with fail
  refine (c_num 0 w7).mono ?_
  rintro e w7' ⟨rfl, rfl⟩
  go_wp2_with fail
  refine (c_Equal true w7' ht7 htt (by simp)).mono ?_
  rintro e w8 ⟨rfl, hx8⟩
  have htt8 := htt.ext hx8
  have ht8 := ht7.ext hx8
  go_wp2_with fail
  refine (c_Ranges w8 htt8).mono ?_
  rintro e w9 ⟨rv, L, rfl, hL, hor, hx9⟩
  obtain rfl := hL.unique lv_runs
  obtain ⟨g9, cap9, rfl⟩ := ownsRow_pos hor (by decide)
  have ht9 := ht8.ext hx9
  have hfl : (lvR.filter (fun x => !(x.cl == 0))).length = 2 := rfl
  rw [hfl]
  go_wp2_with fail
  refine (c_Bytes w9 ht9).mono ?_
  rintro e w10 ⟨bv2, L, rfl, hL, hob, hx10⟩
  obtain rfl := hL.unique lv_runs
  rw [lv_bytes] at hob
  obtain ⟨g10, cap10, rfl⟩ := ownsRow_pos hob (by decide)
  go_wp2_with fail
  go_ret
  exact ⟨rfl, Ext.trans (Ext.trans (Ext.trans hx07 hx8) hx9) hx10⟩
end Go.Proofs.Ytbbemipidkhmfaa
