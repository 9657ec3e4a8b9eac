/-
  The places of lines.
-/
import Derived.Test.YtohpekbooapcjaaDoorWalkO
namespace Go.Proofs.YtohpekbooapcjaaDoor
open Go.RowKit Go.Rp

theorem linesAt_zero (s : ByteArray) : linesAt s 0 = 0 := by
  unfold linesAt nBreaks
  rw [toList_extract]
  simp
theorem linesAt_succ (s : ByteArray) (k : Nat) : linesAt s (k + 1) ≤ linesAt s k + 1 := by
  unfold linesAt nBreaks
  rw [toList_extract, toList_extract]
  simp only [List.drop_zero, Nat.sub_zero]
  by_cases h : k < s.data.toList.length
  · rw [List.take_succ_eq_append_getElem h, List.filter_append, List.length_append]
    have := List.length_filter_le (· == 10) [s.data.toList[k]]
    simp only [List.length_cons, List.length_nil] at this
    omega
  · rw [take_all (by omega), take_all (by omega)]
    omega
theorem linesAt_hit (s : ByteArray) (q k : Nat) (h1 : q ≤ linesAt s k) (h2 : ∀ a, a < k → ¬ q ≤ linesAt s a) : linesAt s k = q := by
  cases k with
  | zero => rw [linesAt_zero] at *; omega
  | succ k =>
    have := linesAt_succ s k
    have := h2 k (by omega)
    omega

set_option maxRecDepth 100000 in
set_option maxHeartbeats 2000000 in
/-- 'find' of a line that is there. -/
theorem c_find_yes (v : Value) (o : Option T) (q : Nat) (w : World) (h : IsRope w v o) (hs : (txt o).size ≤ 1048576) (hq : q ≤ nBreaks (txt o)) :
    Calls Tryd.prog 29 #[v, .int .i64 (q : Nat), .func (.func 16) #[v] #[]] w fun e w' => ∃ k : Nat, e = .returned (.tuple #[.int .i64 (k : Nat), .bool true]) ∧ k ≤ (txt o).size ∧ linesAt (txt o) k = q ∧ (∀ a, a < k → linesAt (txt o) a < q) ∧ Ext w w' := by
  have hall := linesAt_all (txt o)
  have hcl : clampN ((txt o).size : Nat) (txt o) = (txt o).size := by unfold clampN; omega
  go_enter Tryd.func29, Tryd.ntmps29
  go_upto_region 1 with fail
  refine wp_gen (fun W => Ext w W ∧ W.heap[w.heap.size]? = some (.cells #[.int .i64 (q : Nat)] 3 (0, 0)) ∧ W.heap[w.heap.size + 1]? = some (.cells #[.func (.func 16) #[v] #[]] 34 (0, 0))) ⟨((Ext.refl w).alloc _).alloc _, alloc2_blk w _ _⟩ (fun w0 hw0 => ?_)
  obtain ⟨hx0, hb1, hb2⟩ := hw0
  have q1 : ∀ w2, Ext w0 w2 → ∀ i, w2.cell? ⟨w.heap.size, i, none⟩ = _ := fun w2 h i => cell_blk (h.blk hb1) i
  have q2 : ∀ w2, Ext w0 w2 → ∀ i, w2.cell? ⟨w.heap.size + 1, i, none⟩ = _ := fun w2 h i => cell_blk (h.blk hb2) i
  have hc : ∀ w2, Ext w0 w2 → Calls Tryd.prog 16 #[v, .int .i64 ((txt o).size : Nat)] w2 fun e w3 => e = .returned (.int .i64 (linesAt (txt o) (txt o).size : Nat)) ∧ Ext w2 w3 := by
    intro w2 hx2
    have := c_LineOf v o ((txt o).size : Nat) w2 (h.mono (hx0.trans hx2)) hs
    rw [hcl] at this
    exact this
  have Hc := Lib.hid hc
  have hq' : ¬ ((linesAt (txt o) (txt o).size : Nat) : Int) < (q : Nat) := by rw [hall]; omega
  have hq2 : ((q : Nat) : Int) ≤ (linesAt (txt o) (txt o).size : Nat) := by omega
  have H := Lib.hid h
  have HA := Lib.hid hall
  clear hc hcl hall h
  refine wp_lex [true, true, true, true, true, true, true, true, true, true] (by kernel_rfl) (by kernel_rfl) ?_
  repeat first
    | refine wpG_move (by rfl) (by simp only [Act.eval, Array.getD_eq_getD_getElem?, List.getElem?_toArray, List.getElem?_cons_succ, List.getElem?_cons_zero, Option.getD_some]; try rfl) (by simp only [Act.put, List.setIfInBounds_toArray, List.set_cons_succ, List.set_cons_zero]; rfl) ?_
    | refine wpG_assign (by rfl) (by simp only [Act.eval, Array.getD_eq_getD_getElem?, List.getElem?_toArray, List.getElem?_cons_succ, List.getElem?_cons_zero, Option.getD_some]; try rfl) (by simp only [Act.put, List.setIfInBounds_toArray, List.set_cons_succ, List.set_cons_zero]; rfl) ?_
    | refine wpG_call (by rfl) (fun w' hx => (by go_simp; first | exact rfl | exact ⟨rfl, rfl⟩)) (fun w' hx => (by first | exact c_Len v o w' (H.out.mono (hx0.trans hx)) (by omega) | exact Hc.out w' hx)) (by simp only [Act.put, List.setIfInBounds_toArray, List.set_cons_succ, List.set_cons_zero]; rfl) ?_
    | refine wpG_val (by rfl) (fun w' hx => (by go_simp; first | (go_bits; first | exact rfl | exact ⟨by omega, rfl⟩) | exact rfl | exact (if_neg (by omega)).trans rfl | exact ⟨by omega, rfl⟩)) (by simp only [Act.put, List.setIfInBounds_toArray, List.set_cons_succ, List.set_cons_zero]; rfl) ?_
    | refine wpG_no (by rfl) (by simp only [Act.put, List.setIfInBounds_toArray, List.set_cons_succ, List.set_cons_zero]; rfl) ?_
  refine wpG_end (fun w2 hx2 => wpList_nil (gQ_normal ?_))
  go_wp2_with fail
  refine (c_Len v o _ (H.out.mono (hx0.trans hx2)) (by omega)).mono ?_
  rintro e w3 ⟨rfl, hx3⟩
  go_wp2_with fail
  refine (c_Search (txt o).size _ _ (fun k => decide ((q : Int) ≤ (linesAt (txt o) k : Nat))) _ hs (says_lines (w.heap.size + 1) w.heap.size v o q _ (H.out.mono (hx0.trans (hx2.trans hx3))) hs ((hx2.trans hx3).blk hb2) ((hx2.trans hx3).blk hb1)) ?_).mono ?_
  · intro a b hab _ ha
    have := linesAt_mono (txt o) a b hab
    simp only [decide_eq_true_eq] at ha ⊢
    omega
  rintro e w4 ⟨k, rfl, hk, hlow, hhigh, hx4⟩
  have hlo : ∀ a, a < k → linesAt (txt o) a < q := fun a ha => by
    have := hlow a ha
    simp only [decide_eq_false_iff_not] at this
    omega
  have hhi : q ≤ linesAt (txt o) k := by
    rcases hhigh with rfl | hh
    · omega
    · simp only [decide_eq_true_eq] at hh
      omega
  have hit := linesAt_hit (txt o) q k hhi (fun a ha => by have := hlo a ha; omega)
  have HIT := Lib.hid hit
  have HLO := Lib.hid hlo
  clear hit hlo hlow hhigh hhi hq' hq2
  go_wp2_with fail
  have hcl : clampN (k : Nat) (txt o) = k := by unfold clampN; omega
  have hc : ∀ w2, Ext w4 w2 → Calls Tryd.prog 16 #[v, .int .i64 (k : Nat)] w2 fun e w3 => e = .returned (.int .i64 (q : Nat)) ∧ Ext w2 w3 := by
    intro w5 hx5
    have := c_LineOf v o (k : Nat) w5 (H.out.mono (hx0.trans (hx2.trans (hx3.trans (hx4.trans hx5))))) hs
    rw [hcl] at this
    have e : nBreaks ((txt o).extract 0 k) = q := HIT.out
    rw [e] at this
    exact this
  have Hc := Lib.hid hc
  have q1 : ∀ w5, Ext w4 w5 → ∀ i, w5.cell? ⟨w.heap.size, i, none⟩ = _ := fun w5 h i => cell_blk ((hx2.trans (hx3.trans (hx4.trans h))).blk hb1) i
  have q2 : ∀ w5, Ext w4 w5 → ∀ i, w5.cell? ⟨w.heap.size + 1, i, none⟩ = _ := fun w5 h i => cell_blk ((hx2.trans (hx3.trans (hx4.trans h))).blk hb2) i
  clear hc hcl
  refine wp_lex [true, true, true, true, true] (by kernel_rfl) (by kernel_rfl) ?_
  repeat first
    | refine wpG_move (by rfl) (by simp only [Act.eval, Array.getD_eq_getD_getElem?, List.getElem?_toArray, List.getElem?_cons_succ, List.getElem?_cons_zero, Option.getD_some]; try rfl) (by simp only [Act.put, List.setIfInBounds_toArray, List.set_cons_succ, List.set_cons_zero]; rfl) ?_
    | refine wpG_assign (by rfl) (by simp only [Act.eval, Array.getD_eq_getD_getElem?, List.getElem?_toArray, List.getElem?_cons_succ, List.getElem?_cons_zero, Option.getD_some]; try rfl) (by simp only [Act.put, List.setIfInBounds_toArray, List.set_cons_succ, List.set_cons_zero]; rfl) ?_
    | refine wpG_call (by rfl) (fun w' hx => (by go_simp; first | exact rfl | exact ⟨rfl, rfl⟩)) (fun w' hx => (by first | exact Hc.out w' hx)) (by simp only [Act.put, List.setIfInBounds_toArray, List.set_cons_succ, List.set_cons_zero]; rfl) ?_
    | refine wpG_val (by rfl) (fun w' hx => (by go_simp; first | (go_bits; first | exact rfl | exact ⟨by omega, rfl⟩) | exact rfl | exact (if_neg (by omega)).trans rfl | exact ⟨by omega, rfl⟩)) (by simp only [Act.put, List.setIfInBounds_toArray, List.set_cons_succ, List.set_cons_zero]; rfl) ?_
    | refine wpG_no (by rfl) (by simp only [Act.put, List.setIfInBounds_toArray, List.set_cons_succ, List.set_cons_zero]; rfl) ?_
  refine wpG_end (fun w6 hx6 => wpList_nil (gQ_normal ?_))
  go_wp2_with fail
  exact ret_two rfl rfl rfl rfl ⟨k, rfl, hk, HIT.out, HLO.out, hx0.trans (hx2.trans (hx3.trans (hx4.trans hx6)))⟩

set_option maxRecDepth 100000 in
set_option maxHeartbeats 2000000 in
/-- 'find' of a line that is not there. -/
theorem c_find_no (v : Value) (o : Option T) (q : Int) (w : World) (h : IsRope w v o) (hs : (txt o).size ≤ 1048576) (hq : q < 0 ∨ (nBreaks (txt o) : Nat) < q) :
    Calls Tryd.prog 29 #[v, .int .i64 q, .func (.func 16) #[v] #[]] w fun e w' => e = .returned (.tuple #[.int .i64 0, .bool false]) ∧ Ext w w' := by
  have hall := linesAt_all (txt o)
  have hcl : clampN ((txt o).size : Nat) (txt o) = (txt o).size := by unfold clampN; omega
  go_enter Tryd.func29, Tryd.ntmps29
  go_upto_region 1 with fail
  refine wp_gen (fun W => Ext w W ∧ W.heap[w.heap.size]? = some (.cells #[.int .i64 q] 3 (0, 0)) ∧ W.heap[w.heap.size + 1]? = some (.cells #[.func (.func 16) #[v] #[]] 34 (0, 0))) ⟨((Ext.refl w).alloc _).alloc _, alloc2_blk w _ _⟩ (fun w0 hw0 => ?_)
  obtain ⟨hx0, hb1, hb2⟩ := hw0
  have q1 : ∀ w2, Ext w0 w2 → ∀ i, w2.cell? ⟨w.heap.size, i, none⟩ = _ := fun w2 h i => cell_blk (h.blk hb1) i
  have q2 : ∀ w2, Ext w0 w2 → ∀ i, w2.cell? ⟨w.heap.size + 1, i, none⟩ = _ := fun w2 h i => cell_blk (h.blk hb2) i
  have hc : ∀ w2, Ext w0 w2 → Calls Tryd.prog 16 #[v, .int .i64 ((txt o).size : Nat)] w2 fun e w3 => e = .returned (.int .i64 (linesAt (txt o) (txt o).size : Nat)) ∧ Ext w2 w3 := by
    intro w2 hx2
    have := c_LineOf v o ((txt o).size : Nat) w2 (h.mono (hx0.trans hx2)) hs
    rw [hcl] at this
    exact this
  have Hc := Lib.hid hc
  have H := Lib.hid h
  have HA := Lib.hid hall
  by_cases h0 : q < 0
  · clear hc hcl hall h hq
    refine wp_lex [true, true, true, true, true, true, true, true, true, true] (by kernel_rfl) (by kernel_rfl) ?_
    repeat first
      | refine wpG_move (by rfl) (by simp only [Act.eval, Array.getD_eq_getD_getElem?, List.getElem?_toArray, List.getElem?_cons_succ, List.getElem?_cons_zero, Option.getD_some]; try rfl) (by simp only [Act.put, List.setIfInBounds_toArray, List.set_cons_succ, List.set_cons_zero]; rfl) ?_
      | refine wpG_assign (by rfl) (by simp only [Act.eval, Array.getD_eq_getD_getElem?, List.getElem?_toArray, List.getElem?_cons_succ, List.getElem?_cons_zero, Option.getD_some]; try rfl) (by simp only [Act.put, List.setIfInBounds_toArray, List.set_cons_succ, List.set_cons_zero]; rfl) ?_
      | refine wpG_val (by rfl) (fun w' hx => (by go_simp; first | (go_bits; first | exact rfl | exact ⟨by omega, rfl⟩) | exact rfl | exact (if_neg (by omega)).trans rfl | exact ⟨by omega, rfl⟩)) (by simp only [Act.put, List.setIfInBounds_toArray, List.set_cons_succ, List.set_cons_zero]; rfl) ?_
      | refine wpG_no (by rfl) (by simp only [Act.put, List.setIfInBounds_toArray, List.set_cons_succ, List.set_cons_zero]; rfl) ?_
    refine wpG_end (fun w2 hx2 => wpList_nil (gQ_normal ?_))
    go_wp2_with fail
    exact ret_two rfl rfl rfl rfl ⟨rfl, hx0.trans hx2⟩
  · have h1 : 0 ≤ q := by omega
    have h2 : ((linesAt (txt o) (txt o).size : Nat) : Int) < q := by rw [hall]; omega
    clear hc hcl hall h hq
    refine wp_lex [true, true, true, true, true, true, true, true, true, true] (by kernel_rfl) (by kernel_rfl) ?_
    repeat first
      | refine wpG_move (by rfl) (by simp only [Act.eval, Array.getD_eq_getD_getElem?, List.getElem?_toArray, List.getElem?_cons_succ, List.getElem?_cons_zero, Option.getD_some]; try rfl) (by simp only [Act.put, List.setIfInBounds_toArray, List.set_cons_succ, List.set_cons_zero]; rfl) ?_
      | refine wpG_assign (by rfl) (by simp only [Act.eval, Array.getD_eq_getD_getElem?, List.getElem?_toArray, List.getElem?_cons_succ, List.getElem?_cons_zero, Option.getD_some]; try rfl) (by simp only [Act.put, List.setIfInBounds_toArray, List.set_cons_succ, List.set_cons_zero]; rfl) ?_
      | refine wpG_call (by rfl) (fun w' hx => (by go_simp; first | exact rfl | exact ⟨rfl, rfl⟩)) (fun w' hx => (by first | exact c_Len v o w' (H.out.mono (hx0.trans hx)) (by omega) | exact Hc.out w' hx)) (by simp only [Act.put, List.setIfInBounds_toArray, List.set_cons_succ, List.set_cons_zero]; rfl) ?_
      | refine wpG_val (by rfl) (fun w' hx => (by go_simp; first | (go_bits; first | exact rfl | exact ⟨by omega, rfl⟩) | exact rfl | exact (if_neg (by omega)).trans rfl | exact ⟨by omega, rfl⟩)) (by simp only [Act.put, List.setIfInBounds_toArray, List.set_cons_succ, List.set_cons_zero]; rfl) ?_
      | refine wpG_no (by rfl) (by simp only [Act.put, List.setIfInBounds_toArray, List.set_cons_succ, List.set_cons_zero]; rfl) ?_
    refine wpG_end (fun w2 hx2 => wpList_nil (gQ_normal ?_))
    go_wp2_with fail
    exact ret_two rfl rfl rfl rfl ⟨rfl, hx0.trans hx2⟩

theorem c_AtLine_yes (v : Value) (o : Option T) (q : Nat) (w : World) (h : IsRope w v o) (hs : (txt o).size ≤ 1048576) (hq : q ≤ nBreaks (txt o)) :
    Calls Tryd.prog 15 #[v, .int .i64 (q : Nat)] w fun e w' => ∃ k : Nat, e = .returned (.tuple #[.int .i64 (k : Nat), .bool true]) ∧ k ≤ (txt o).size ∧ linesAt (txt o) k = q ∧ (∀ a, a < k → linesAt (txt o) a < q) ∧ Ext w w' := by
  go_enter Tryd.func15, Tryd.ntmps15
  go_wp2_with fail
  refine (c_find_yes v o q _ h hs hq).mono ?_
  rintro e w1 ⟨k, rfl, h1, h2, h3, hx1⟩
  have H2 := Lib.hid h2
  have H3 := Lib.hid h3
  clear h2 h3
  go_wp2_with fail
  exact ret_two rfl rfl rfl rfl ⟨k, rfl, h1, H2.out, H3.out, hx1⟩
theorem c_AtLine_no (v : Value) (o : Option T) (q : Int) (w : World) (h : IsRope w v o) (hs : (txt o).size ≤ 1048576) (hq : q < 0 ∨ (nBreaks (txt o) : Nat) < q) :
    Calls Tryd.prog 15 #[v, .int .i64 q] w fun e w' => e = .returned (.tuple #[.int .i64 0, .bool false]) ∧ Ext w w' := by
  go_enter Tryd.func15, Tryd.ntmps15
  go_wp2_with fail
  refine (c_find_no v o q _ h hs hq).mono ?_
  rintro e w1 ⟨rfl, hx1⟩
  clear hq
  go_wp2_with fail
  exact ret_two rfl rfl rfl rfl ⟨rfl, hx1⟩
end Go.Proofs.YtohpekbooapcjaaDoor
