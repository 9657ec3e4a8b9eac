/-
  The sum of two texts out of their sums; nodes asked for their sums and depths; branches.
-/
import Derived.Test.YtohpekbooapcjaaDoorWalkB
namespace Go.Proofs.YtohpekbooapcjaaDoor
open Go.RowKit Go.Rp

theorem sum_size (x y : ByteArray) : ((x ++ y).size : Int) = (x.size : Int) + (y.size : Int) := by rw [ByteArray.size_append]; omega
theorem toList_append (x y : ByteArray) : (x ++ y).data.toList = x.data.toList ++ y.data.toList := by simp
theorem toList_tlB (x : ByteArray) : (tlB x).data.toList = tl x.data.toList := by
  unfold tlB tl
  rw [ByteArray.data_extract, Array.toList_extract, List.extract_eq_take_drop, len_eq, List.take_of_length_le]
  simp
theorem toList_hdB (x : ByteArray) : (hdB x).data.toList = hd x.data.toList := by
  unfold hdB hd
  rw [ByteArray.data_extract, Array.toList_extract, List.extract_eq_take_drop]
  simp only [List.drop_zero, Nat.sub_zero]
  by_cases h : 3 ≤ x.size
  · rw [Nat.min_eq_left h]
  · rw [Nat.min_eq_right (by omega), List.take_of_length_le (by rw [len_eq]; omega), List.take_of_length_le (by rw [len_eq]; omega)]
theorem sum_runes (x y : ByteArray) : (nRunes x : Int) + nRunes y + nRunes (tlB x ++ hdB y) - nRunes (tlB x) - nRunes (hdB y) = nRunes (x ++ y) := by
  have := runes_seam x.data.toList y.data.toList
  unfold nRunes
  simp only [toList_append, toList_tlB, toList_hdB]
  omega
theorem sum_units (x y : ByteArray) : (nUnits x : Int) + nUnits y + nUnits (tlB x ++ hdB y) - nUnits (tlB x) - nUnits (hdB y) = nUnits (x ++ y) := by
  have := units_seam x.data.toList y.data.toList
  unfold nUnits
  simp only [toList_append, toList_tlB, toList_hdB]
  omega
theorem sum_breaks (x y : ByteArray) : (nBreaks x : Int) + nBreaks y = nBreaks (x ++ y) := by
  unfold nBreaks
  rw [toList_append, List.filter_append, List.length_append]
  omega
theorem ext_ba {x y : ByteArray} (h : x.data.toList = y.data.toList) : x = y := by
  cases x; cases y; simp at h; simp [h]
theorem sum_hd (x y : ByteArray) : hdB (hdB x ++ hdB y) = hdB (x ++ y) := by
  apply ext_ba
  rw [toList_hdB, toList_append, toList_hdB, toList_hdB, toList_hdB, toList_append]
  unfold hd
  simp only [List.take_append, List.take_take, List.length_take]
  rw [show min 3 3 = 3 from rfl]
  congr 1
  rw [show min (3 - min 3 x.data.toList.length) 3 = 3 - x.data.toList.length from by omega]
theorem tl_rev (l : List UInt8) : tl l = (hd l.reverse).reverse := by
  unfold tl hd
  rw [List.take_reverse, List.reverse_reverse]
theorem sum_tl (x y : ByteArray) : tlB (tlB x ++ tlB y) = tlB (x ++ y) := by
  apply ext_ba
  rw [toList_tlB, toList_append, toList_tlB, toList_tlB, toList_tlB, toList_append]
  rw [tl_rev (x.data.toList ++ y.data.toList), tl_rev x.data.toList, tl_rev y.data.toList, tl_rev]
  simp only [List.reverse_append, List.reverse_reverse]
  congr 1
  unfold hd
  generalize x.data.toList.reverse = a
  generalize y.data.toList.reverse = b
  simp only [List.take_append, List.take_take, List.length_take]
  rw [show min 3 3 = 3 from rfl]
  congr 1
  rw [show min (3 - min 3 b.length) 3 = 3 - b.length from by omega]
theorem add_hd (x y : ByteArray) : (hdB x ++ hdB y).extract 0 (min 3 (((hdB x).size : Int) + (hdB y).size)).toNat = hdB (x ++ y) := by
  rw [← sum_hd, show (min 3 (((hdB x).size : Int) + (hdB y).size)).toNat = min 3 (hdB x ++ hdB y).size from by rw [ByteArray.size_append]; omega]
  rfl
theorem add_tl (x y : ByteArray) : (tlB x ++ tlB y).extract (max 0 (((tlB x).size : Int) + (tlB y).size - 3)).toNat ((tlB x).size + (tlB y).size) = tlB (x ++ y) := by
  rw [← sum_tl, show (max 0 (((tlB x).size : Int) + (tlB y).size - 3)).toNat = (tlB x ++ tlB y).size - 3 from by rw [ByteArray.size_append]; omega, ← ByteArray.size_append]
  rfl
theorem nRunes_le (x : ByteArray) : nRunes x ≤ x.size := by unfold nRunes runes; rw [len_eq]; omega
theorem nUnits_le (x : ByteArray) : nUnits x ≤ 2 * x.size := by
  have := nRunes_le x
  have h := S_four_le x.data.toList
  rw [len_eq] at h
  unfold nUnits units
  unfold nRunes at this
  omega
theorem nBreaks_le (x : ByteArray) : nBreaks x ≤ x.size := by
  unfold nBreaks
  have := List.length_filter_le (· == 10) x.data.toList
  rw [len_eq] at this
  exact this
theorem hdB_size (x : ByteArray) : (hdB x).size ≤ 3 := by unfold hdB; simp; omega
theorem tlB_size (x : ByteArray) : (tlB x).size ≤ 3 := by unfold tlB; simp; omega

set_option maxHeartbeats 2000000 in
theorem c_add (x y : ByteArray) (w : World) (hs : x.size ≤ 1099511627776) (ht : y.size ≤ 1099511627776) :
    Calls Tryd.prog 65 #[.agg (sumA x), .agg (sumA y)] w fun e w' => e = .returned (.agg (sumA (x ++ y))) ∧ Ext w w' := by
  have R := sum_runes x y
  have U := sum_units x y
  have b1 := nRunes_le x; have b2 := nRunes_le y; have b3 := nRunes_le (tlB x ++ hdB y); have b4 := nRunes_le (tlB x); have b5 := nRunes_le (hdB y); have b6 := nRunes_le (x ++ y)
  have u1 := nUnits_le x; have u2 := nUnits_le y; have u3 := nUnits_le (tlB x ++ hdB y); have u4 := nUnits_le (tlB x); have u5 := nUnits_le (hdB y); have u6 := nUnits_le (x ++ y)
  have k1 := nBreaks_le x; have k2 := nBreaks_le y
  have s1 := hdB_size x; have s2 := hdB_size y; have s3 := tlB_size x; have s4 := tlB_size y
  simp only [ByteArray.size_append] at b3 u3 b6 u6
  have R' := Lib.hid R
  have U' := Lib.hid U
  clear R U
  unfold sumA
  go_enter Tryd.func65, Tryd.ntmps65
  go_upto_region 2 with fail
  refine wp_gen (fun W => Ext w W ∧ W.heap[w.heap.size]? = some (.cells #[.int .i64 (x.size : Nat), .int .i64 (nRunes x : Nat), .int .i64 (nUnits x : Nat), .int .i64 (nBreaks x : Nat), .string (hdB x), .string (tlB x)] 57 (0, 0)) ∧
    W.heap[w.heap.size + 1]? = some (.cells #[.int .i64 (y.size : Nat), .int .i64 (nRunes y : Nat), .int .i64 (nUnits y : Nat), .int .i64 (nBreaks y : Nat), .string (hdB y), .string (tlB y)] 57 (0, 0)) ∧
    W.heap[w.heap.size + 1 + 1]? = some (.cells #[.int .i64 0, .int .i64 0, .int .i64 0, .int .i64 0, .string { data := #[] }, .string { data := #[] }] 57 (0, 0))) ?_ (fun w0 hw0 => ?_)
  · exact ⟨(((Ext.refl w).alloc _).alloc _).alloc _, alloc3_blk w _ _ _⟩
  obtain ⟨hx0, hA, hB, hC⟩ := hw0
  have qA : ∀ w', Ext w0 w' → ∀ i, w'.cell? ⟨w.heap.size, i, none⟩ = _ := fun w' h i => cell_blk (h.blk hA) i
  have qB : ∀ w', Ext w0 w' → ∀ i, w'.cell? ⟨w.heap.size + 1, i, none⟩ = _ := fun w' h i => cell_blk (h.blk hB) i
  refine wp_lex [true, true, true, true, true, true, true, true, true, true, true, true] (by kernel_rfl) (by kernel_rfl) ?_
  repeat first
    | refine wpG_move (by rfl) (by simp only [Act.eval, Array.getD_eq_getD_getElem?, List.getElem?_toArray, List.getElem?_cons_succ, List.getElem?_cons_zero, Option.getD_some]; try rfl) (by simp only [Act.put, List.setIfInBounds_toArray, List.set_cons_succ, List.set_cons_zero]; rfl) ?_
    | refine wpG_assign (by rfl) (by simp only [Act.eval, Array.getD_eq_getD_getElem?, List.getElem?_toArray, List.getElem?_cons_succ, List.getElem?_cons_zero, Option.getD_some]; try rfl) (by simp only [Act.put, List.setIfInBounds_toArray, List.set_cons_succ, List.set_cons_zero]; rfl) ?_
    | refine wpG_val (by rfl) (fun w' hx => (by go_simp; first | (go_bits; first | exact rfl | exact ⟨by omega, rfl⟩) | exact rfl | exact (if_neg (by omega)).trans rfl | exact ⟨by omega, rfl⟩)) (by simp only [Act.put, List.setIfInBounds_toArray, List.set_cons_succ, List.set_cons_zero]; rfl) ?_
    | refine wpG_no (by rfl) (by simp only [Act.put, List.setIfInBounds_toArray, List.set_cons_succ, List.set_cons_zero]; rfl) ?_
  refine wpG_end (fun w1 hx1 => wpList_nil (gQ_normal ?_))
  go_wp2_with fail
  have qA : ∀ w', Ext w1 w' → ∀ i, w'.cell? ⟨w.heap.size, i, none⟩ = _ := fun w' h i => cell_blk ((hx1.trans h).blk hA) i
  have qB : ∀ w', Ext w1 w' → ∀ i, w'.cell? ⟨w.heap.size + 1, i, none⟩ = _ := fun w' h i => cell_blk ((hx1.trans h).blk hB) i
  have f1 : (0 : Int) ≤ min 3 (((hdB x).size : Int) + (hdB y).size) := by omega
  have f2 : min 3 (((hdB x).size : Int) + (hdB y).size) ≤ ((hdB x).size : Int) + (hdB y).size := by omega
  have f3 : (0 : Int) ≤ max 0 (((tlB x).size : Int) + (tlB y).size - 3) := by omega
  have f4 : max 0 (((tlB x).size : Int) + (tlB y).size - 3) ≤ ((tlB x).size : Int) + (tlB y).size := by omega
  have z1 : (tlB x ++ hdB y).size ≤ 6 := by simp only [ByteArray.size_append]; omega
  have z2 : (hdB x ++ hdB y).size ≤ 6 := by simp only [ByteArray.size_append]; omega
  have z3 : (tlB x ++ tlB y).size ≤ 6 := by simp only [ByteArray.size_append]; omega
  refine wp_lex [true, true, true, true, true, true, true, true, true, true, true, true, true, true, true, true, true, true, true, true, true, true, true, true, true, true, true, true, true, true, true, true, true, true, true, true, true, true, true, true, true, true, true, true, true, true, true, true, true, true, true, true, true, true] (by kernel_rfl) (by kernel_rfl) ?_
  repeat first
    | refine wpG_move (by rfl) (by simp only [Act.eval, Array.getD_eq_getD_getElem?, List.getElem?_toArray, List.getElem?_cons_succ, List.getElem?_cons_zero, Option.getD_some]; try rfl) (by simp only [Act.put, List.setIfInBounds_toArray, List.set_cons_succ, List.set_cons_zero]; rfl) ?_
    | refine wpG_assign (by rfl) (by simp only [Act.eval, Array.getD_eq_getD_getElem?, List.getElem?_toArray, List.getElem?_cons_succ, List.getElem?_cons_zero, Option.getD_some]; try rfl) (by simp only [Act.put, List.setIfInBounds_toArray, List.set_cons_succ, List.set_cons_zero]; rfl) ?_
    | refine wpG_call (by rfl) (fun w' hx => (by go_simp; first | exact rfl | exact ⟨rfl, rfl⟩)) (fun w' hx => (by first | exact c_Count _ w' (by omega) | exact c_Units _ w' (by omega))) (by simp only [Act.put, List.setIfInBounds_toArray, List.set_cons_succ, List.set_cons_zero]; rfl) ?_
    | refine wpG_val (by rfl) (fun w' hx => (by go_simp; first | (go_bits; first | exact rfl | exact ⟨by omega, rfl⟩) | exact rfl | exact (if_neg (by omega)).trans rfl | exact ⟨by omega, rfl⟩)) (by simp only [Act.put, List.setIfInBounds_toArray, List.set_cons_succ, List.set_cons_zero]; rfl) ?_
    | refine wpG_no (by rfl) (by simp only [Act.put, List.setIfInBounds_toArray, List.set_cons_succ, List.set_cons_zero]; rfl) ?_
  refine wpG_end (fun w2 hx2 => ?_)
  have hC2 := (hx1.trans hx2).blk hC
  have hc2 := cell_blk hC2
  have hf2 := frz_blk hC2
  clear qA qB
  go_wp2_with fail
  refine gQ_gen (fun W => Ext w W ∧ W.heap[w.heap.size + 1 + 1]? = some (.cells (sumA (x ++ y)) 57 (0, 0))) ?_ (fun W hW => ?_)
  · refine ⟨?_, ?_⟩
    · repeat refine Ext.setCell ?_ (by simp only []; omega) _
      exact hx0.trans (hx1.trans hx2)
    · refine (set6_blk hC2 _ _ _ _ _ _).trans ?_
      rw [R'.out, U'.out, sum_breaks]
      unfold sumA
      rw [add_hd, add_tl, sum_size]
  · obtain ⟨hx7, hb7⟩ := hW
    have hc7 := cell_blk hb7
    go_wp2_with fail
    exact bodyPost_ret (v := .agg (sumA (x ++ y))) (by simp [results, Tryd.results65, go_sem, hc7, sumA]) rfl ⟨rfl, hx7⟩
end Go.Proofs.YtohpekbooapcjaaDoor
