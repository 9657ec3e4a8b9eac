/-
  The document's Bytes.
-/
import Derived.Test.YtbbemipidkhmfaaRefTk
import Derived.Test.YtbbemipidkhmfaaRefD
namespace Go.Proofs.Ytbbemipidkhmfaa
open Go.RowKit Go.Maps Go.Shelf

set_option maxRecDepth 100000 in
set_option maxHeartbeats 8000000 in
theorem c_RBytes {n₀ : Nat} {v : Value} {rest : Int} {L : List Rng} (w : World) (h : IsRef n₀ w v rest L) (hlen : L.length ≤ 1114112) :
    Calls Try.prog 28 #[v] w fun e w' => ∃ v, e = .returned v ∧ w'.ownsRow w.heap.size 5 1 v (bytesOf rest L).length (byV (bytesOf rest L)) ∧ Ext w w' := by
  obtain ⟨i0, hi, hz0, hz1, hz2⟩ := info_parts info5p
  obtain ⟨Y, lv, rfl, hY, -, hrow, hnf, hr0⟩ := h
  have hrg := RgRow.of_own hrow
  obtain ⟨p, cap, rfl⟩ := own_slice hrow
  have hasc := hnf.asc0
  have hrm : rest % 256 = rest := by omega
  have own0 := own1 w rest (n₀ := w.heap.size) (Nat.le_refl _)
  have hYA := ((Ext.refl w).alloc (.cells #[.int .u8 rest] 5)).blk hY
  have q0 := cell_blk hYA 0
  have p0 := cell_blk hY 0
  have p1 := cell_blk hY 1
  simp only [List.getElem?_toArray, List.getElem?_cons_succ, List.getElem?_cons_zero] at q0 p0 p1
  clear hrow hnf hYA
  go_enter Try.func28, Try.ntmps28
  have hYs : Y < w.heap.size := blk_lt hY
  have k0 : ∀ w', EOn (fun a => a.block < w.heap.size) w w' → w'.cell? ⟨Y, 0, none⟩ = _ := fun w' hx => hx.cell hYs p0
  have k1 : ∀ w', EOn (fun a => a.block < w.heap.size) w w' → w'.cell? ⟨Y, 1, none⟩ = _ := fun w' hx => hx.cell hYs p1
  clear p0 p1 q0 own0
  go_wp2_with fail
  refine wp_perm ((fun a => a.block < w.heap.size)) [0, 1, 2, 3, 4, 6, 7, 8, 9, 10, 5, 11, 12] [true, true, true, true, true, true, true, true, true, true, false, false, true] (by kernel_rfl) (by kernel_rfl) (by simp only [List.map_cons, List.map_nil, nth]; rfl) ?_
  repeat first
    | refine wpG_move (by rfl) (by simp only [Act.eval, Array.getD_eq_getD_getElem?, List.getElem?_toArray, List.getElem?_cons_succ, List.getElem?_cons_zero, Option.getD_some]; try rfl) (by simp only [Act.put, List.setIfInBounds_toArray, List.set_cons_succ, List.set_cons_zero]; rfl) ?_
    | refine wpG_assign (by rfl) (by simp only [Act.eval, Array.getD_eq_getD_getElem?, List.getElem?_toArray, List.getElem?_cons_succ, List.getElem?_cons_zero, Option.getD_some]; try rfl) (by simp only [Act.put, List.setIfInBounds_toArray, List.set_cons_succ, List.set_cons_zero]; rfl) ?_
    | refine wpG_val (by rfl) (fun w' hx => (by go_simp; first | (go_bits; first | exact rfl | exact ⟨by omega, rfl⟩) | exact rfl | exact (if_neg (by omega)).trans rfl | exact ⟨by omega, rfl⟩)) (by simp only [Act.put, List.setIfInBounds_toArray, List.set_cons_succ, List.set_cons_zero]; rfl) ?_
    | refine wpG_no (by rfl) (by simp only [Act.put, List.setIfInBounds_toArray, List.set_cons_succ, List.set_cons_zero]; rfl) ?_
  clear k0 k1
  refine wpG_do (by rfl) (fun w3 hx3 K hK => ?_)
  go_wp2_with fail
  refine ⟨EOn.of_ext ((Ext.refl w3).alloc _), ?_⟩
  refine wpG_do (by rfl) (fun w4 hx4 K hK => ?_)
  have own0 := ownsRow_ext (own1 w3 rest (n₀ := w.heap.size) hx3.sz) hx4
  have hx04 : Ext w w4 := Ext.trans (hx3.alloc _) hx4
  go_wp2_with fail
  refine (c_put _ [rest] L.length w.heap.size w4 own0 hx04.sz (by omega) (by simp)).mono ?_
  rintro e w5 ⟨b0, rfl, hb0, hbl0, -⟩
  refine hK _ _ ⟨⟨hbl0.size, fun a ha hb => Below.cell hbl0 ha⟩, ?_⟩
  repeat first
    | refine wpG_move (by rfl) (by simp only [Act.eval, Array.getD_eq_getD_getElem?, List.getElem?_toArray, List.getElem?_cons_succ, List.getElem?_cons_zero, Option.getD_some]; try rfl) (by simp only [Act.put, List.setIfInBounds_toArray, List.set_cons_succ, List.set_cons_zero]; rfl) ?_
    | refine wpG_assign (by rfl) (by simp only [Act.eval, Array.getD_eq_getD_getElem?, List.getElem?_toArray, List.getElem?_cons_succ, List.getElem?_cons_zero, Option.getD_some]; try rfl) (by simp only [Act.put, List.setIfInBounds_toArray, List.set_cons_succ, List.set_cons_zero]; rfl) ?_
    | refine wpG_val (by rfl) (fun w' hx => (by go_simp; first | (go_bits; first | exact rfl | exact ⟨by omega, rfl⟩) | exact rfl | exact (if_neg (by omega)).trans rfl | exact ⟨by omega, rfl⟩)) (by simp only [Act.put, List.setIfInBounds_toArray, List.set_cons_succ, List.set_cons_zero]; rfl) ?_
    | refine wpG_no (by rfl) (by simp only [Act.put, List.setIfInBounds_toArray, List.set_cons_succ, List.set_cons_zero]; rfl) ?_
  refine wpG_end (fun w6 hx6 => wpList_nil (gQ_normal ?_))
  have hx06 : Ext w w6 := Ext.trans (Below.trans hx04 hbl0) hx6
  have hb6 := ownsRow_ext hb0 hx6
  clear hK own0 hx3 hx4 hx04 hbl0 hb0 hx6
  go_wp2_with fail
  go_loopw [3, 4, 5] (fun b pv k W => ∃ (i : Nat) (q : Int) (bs : List Int), k = .int .i64 (i : Nat) ∧ pv = .int .i32 q ∧ i ≤ L.length ∧ 0 ≤ q ∧ Hid (bs ++ rgB q (L.drop i) = bytesOf rest L) ∧ bs.length ≤ 5 + i * 7 ∧ Asc q (L.drop i) ∧ W.ownsRow w.heap.size 5 1 b bs.length (byV bs) ∧ Ext w W) (fun _ _ k _ => L.length + 1 - (intOf k).toNat)
  case atStart => exact ⟨0, 0, _, rfl, rfl, by omega, by omega, Lib.hid (by simp [bytesOf]), by have := numB_length 2 L.length (by omega); simp; omega, by simpa using hasc, hb6, hx06⟩
  case round =>
    clear hasc hb6 hx06
    obtain ⟨i, q, bs, rfl, rfl, hil, hq0, hbs, hbl, hasc, hrow, hx⟩ := hrel
    obtain ⟨pb, cb, rfl⟩ := own_slice hrow
    have hYb := hx.blk hY
    have y0 := cell_blk hYb 0
    have y1 := cell_blk hYb 1
    simp only [List.getElem?_toArray, List.getElem?_cons_succ, List.getElem?_cons_zero] at y0 y1
    clear hYb
    by_cases hlt : i < L.length
    · obtain ⟨b1, o1, rfl, hc1⟩ := (hrg.mono hx).at (by intro e; rw [e] at hlt; simp at hlt)
      obtain ⟨a1, a2, a3⟩ := hc1 i hlt
      rw [List.drop_eq_getElem_cons hlt] at hasc hbs
      obtain ⟨x, hxe⟩ : ∃ x, L[i] = x := ⟨_, rfl⟩
      rw [hxe] at a1 a2 a3 hasc hbs
      have HXE := Lib.hid hxe
      obtain ⟨s1, s2, s3, s4, s5, s6⟩ := hasc
      have hd : decide (i < L.length) = true := decide_eq_true hlt
      have i1 : ((i : Nat) : Int) < (L.length : Nat) := by omega
      obtain ⟨g1, hg1⟩ : ∃ g : Nat, x.lo - q = (g : Nat) := ⟨(x.lo - q).toNat, by omega⟩
      obtain ⟨g2, hg2⟩ : ∃ g : Nat, x.hi - x.lo = (g : Nat) := ⟨(x.hi - x.lo).toNat, by omega⟩
      have l1 : g1 ≤ 1114111 := by omega
      have l2 : g2 ≤ 1114111 := by omega
      have lm : x.cl % 256 = x.cl := by omega
      clear hxe hc1
      have hxA : Ext wr (wr.alloc (.cells #[.int .i32 x.lo, .int .i32 x.hi, .int .i64 x.cl] 32)) := (Ext.refl wr).alloc _
      have hrowA := ownsRow_ext hrow hxA
      have hblkA := World.alloc_heap_new wr (.cells #[.int .i32 x.lo, .int .i32 x.hi, .int .i64 x.cl] 32)
      have hxwA := Ext.trans hx hxA
      clear hrow
      go_wp2_with fail
      refine (c_put _ bs g1 w.heap.size _ hrowA hxwA.sz (by omega) (by omega)).mono ?_
      rintro e w3 ⟨b3, rfl, hrow3, hbl3, hfar3⟩
      have hblk3 := hfar3.blk hblkA (row_ne hrowA hblkA (by decide))
      have hx3 : Ext w w3 := Below.trans hxwA hbl3
      have m0 := cell_blk hblk3 0
      have m1 := cell_blk hblk3 1
      simp only [List.getElem?_toArray, List.getElem?_cons_succ, List.getElem?_cons_zero] at m0 m1
      clear hfar3 hbl3 hblkA hrowA hxwA hxA
      go_wp2_with fail
      refine (c_put _ (bs ++ numB g1) g2 w.heap.size _ hrow3 hx3.sz (by omega) (by have := numB_length 2 g1 (by omega); simp; omega)).mono ?_
      rintro e w4 ⟨b4, rfl, hrow4, hbl4, hfar4⟩
      have hblk4 := hfar4.blk hblk3 (row_ne hrow3 hblk3 (by decide))
      have hx4 : Ext w w4 := Below.trans hx3 hbl4
      have n1 := cell_blk hblk4 1
      have n2 := cell_blk hblk4 2
      simp only [List.getElem?_toArray, List.getElem?_cons_succ, List.getElem?_cons_zero] at n1 n2
      have hrowB := ownsRow_ext hrow4 ((Ext.refl w4).alloc (.cells #[.int .u8 x.cl] 5))
      have hblkB := ((Ext.refl w4).alloc (.cells #[.int .u8 x.cl] 5)).blk hblk4
      have hxB := hx4.alloc (.cells #[.int .u8 x.cl] 5)
      have hszB := hxB.sz
      have l3 := numB_length 2 g1 (by omega)
      have l4 := numB_length 2 g2 (by omega)
      have hlen4 : (bs ++ numB g1 ++ numB g2).length ≤ 100000000 := by simp only [List.length_append]; omega
      obtain ⟨ln, hln⟩ : ∃ ln, (bs ++ numB g1 ++ numB g2).length = ln := ⟨_, rfl⟩
      have HLN := Lib.hid hln
      rw [hln] at hrowB hlen4
      obtain ⟨p4, c4, rfl⟩ := own_slice hrowB
      clear hfar4 hbl4 hblk3 hrow3 hrow4 hx3 hblk4 hx4 m0 m1 hln
      go_wp2_with (at_builtin; refine wpList_append_own _ rfl (.tmp 50) (.tmp 54) 45 rfl w.heap.size 5 i0 (.int .u8 0) 1 1 Try.underlying45 hi hz0 hz1 hz2 rfl (by decide) _ ln (byV (bs ++ numB g1 ++ numB g2)) rfl hrowB ⟨w4.heap.size, 0, none⟩ 1 1 [.int .u8 x.cl] rfl rfl (cell1_new w4 _ _) (by intro u hu; simp at hu; rw [hu]; rfl) (by unfold maxLen; omega) (by omega) (by simpa using hszB) ?_; intro v9 w9 hown' hgrow _; have hx9 : Ext w w9 := Below.grown hxB hgrow hszB (fun k e => (hrowB.lt k e).1); have hblk9 := (hgrow.block _ (blk_lt hblkB) (row_ne hrowB hblkB (by decide))).trans hblkB; have r1 := cell_blk hblk9 1; simp only [List.getElem?_toArray, List.getElem?_cons_succ, List.getElem?_cons_zero] at r1; clear hgrow hrowB hxB hszB hblkB)
      go_roundw
      case rel =>
        have ebs : bs ++ numB g1 ++ numB g2 ++ [x.cl] ++ rgB (x.hi + 1) (L.drop (i + 1)) = bytesOf rest L := by
          have := hbs.out
          simp only [rgB, hg1, hg2, Int.toNat_natCast] at this
          rw [← this]
          simp only [List.append_assoc, List.cons_append, List.nil_append]
        refine ⟨i + 1, x.hi + 1, bs ++ numB g1 ++ numB g2 ++ [x.cl], by simp, rfl, by omega, by omega, Lib.hid ebs, by simp only [List.length_append, List.length_cons, List.length_nil]; omega, s6, ?_, hx9⟩
        have e : (bs ++ numB g1 ++ numB g2 ++ [x.cl]).length = ln + 1 := by rw [List.length_append, HLN.out]; rfl
        rw [byV_append, e]
        exact hown'
      case measure => simp [intOf]; omega
    · have hd : decide (i < L.length) = false := decide_eq_false hlt
      go_wp2_with fail
      go_ret
      have hi2 : i = L.length := by omega
      subst hi2
      have e : bs = bytesOf rest L := by have := hbs.out; rw [List.drop_length] at this; simpa [rgB] using this
      exact ⟨_, rfl, by rw [← e]; exact hrow, hx⟩
end Go.Proofs.Ytbbemipidkhmfaa
