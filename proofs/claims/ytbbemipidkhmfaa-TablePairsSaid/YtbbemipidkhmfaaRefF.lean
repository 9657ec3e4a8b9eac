/-
  The document's All.
-/
import Derived.Test.YtbbemipidkhmfaaRefE
namespace Go.Proofs.Ytbbemipidkhmfaa
open Go.RowKit Go.Maps Go.Shelf

theorem all_none {rest next : Int} {L : List Rng} {i : Nat} (hi : i < L.length) (h : ¬ next < L[i].lo) : allGo rest next (L.drop i) = L[i] :: allGo rest (L[i].hi + 1) (L.drop (i + 1)) := by
  rw [List.drop_eq_getElem_cons hi, allGo, if_neg h]; rfl
theorem all_gap {rest next : Int} {L : List Rng} {i : Nat} (hi : i < L.length) (h : next < L[i].lo) : allGo rest next (L.drop i) = ⟨next, L[i].lo - 1, rest⟩ :: L[i] :: allGo rest (L[i].hi + 1) (L.drop (i + 1)) := by
  rw [List.drop_eq_getElem_cons hi, allGo, if_pos h]; rfl
theorem NF.at {rest : Int} {L : List Rng} (h : NF rest L) {i : Nat} (hi : i < L.length) : Ok1 L[i] := (h.ok _ (List.getElem_mem hi)).1

set_option maxRecDepth 100000 in
set_option maxHeartbeats 8000000 in
theorem c_All {n : Nat} {v : Value} {rest : Int} {L : List Rng} (w : World) (h : IsRef n w v rest L) (hl : L.length ≤ 2000000) :
    Calls Try.prog 51 #[v] w fun e w' => ∃ v', e = .returned v' ∧ w'.ownsRow w.heap.size 32 3 v' (allGo rest 0 L).length (rgCells (allGo rest 0 L)) ∧ Ext w w' := by
  obtain ⟨i0, hi0, hz0, hz1, hz2⟩ := info_parts info32p
  obtain ⟨Y, lv, rfl, hY, -, hrow, hnf, hr0⟩ := h
  have hrg := RgRow.of_own hrow
  obtain ⟨p, cap, rfl⟩ := own_slice hrow
  have HNF := Lib.hid hnf
  clear hrow hnf
  go_enter Try.func51, Try.ntmps51
  go_wp2_with fail
  go_loopw [3, 4, 5] (fun ov nx k W => ∃ (i m : Nat) (next : Int) (o : List Rng), k = .int .i64 (i : Nat) ∧ nx = .int .i32 next ∧ i ≤ L.length ∧ (0 ≤ next ∧ next ≤ 1114112) ∧ m ≤ 2 * i ∧ Hid (o.length = m ∧ o ++ allGo rest next (L.drop i) = allGo rest 0 L) ∧ W.ownsRow w.heap.size 32 3 ov m (rgCells o) ∧ Ext w W) (fun _ _ k _ => L.length + 1 - (intOf k).toNat)
  case atStart => exact ⟨0, 0, 0, [], rfl, rfl, by omega, by omega, by omega, Lib.hid ⟨rfl, rfl⟩, World.ownsRow_nil _ _ _ _, Ext.refl _⟩
  case round =>
    obtain ⟨i, m, next, o, rfl, rfl, hi, hnx, hm, ho, hrow, hx⟩ := hrel
    obtain ⟨p0, cap0, rfl⟩ := own_slice hrow
    have hYb := hx.blk hY
    have q0 := cell_blk hYb 0
    have q1 := cell_blk hYb 1
    simp only [List.getElem?_toArray, List.getElem?_cons_succ, List.getElem?_cons_zero] at q0 q1
    by_cases hlt : i < L.length
    · obtain ⟨b1, o1, rfl, hc1⟩ := (hrg.mono hx).at (by intro e; rw [e] at hlt; simp at hlt)
      obtain ⟨a1, a2, a3⟩ := hc1 i hlt
      have hok := HNF.out.at hlt
      have hg := all_gap (rest := rest) (next := next) hlt
      have hn := all_none (rest := rest) (next := next) hlt
      obtain ⟨x, hxe⟩ : ∃ x, L[i] = x := ⟨_, rfl⟩
      rw [hxe] at a1 a2 a3 hok hg hn
      obtain ⟨ok1, ok2, ok3, _⟩ := hok
      have hd : decide (i < L.length) = true := decide_eq_true hlt
      have j1 : ((i : Nat) : Int) < (L.length : Nat) := by omega
      obtain ⟨b2, o2, e2, hc2⟩ := hrg.at (by intro e; rw [e] at hlt; simp at hlt)
      cases e2
      have hb1 : b1 < w.heap.size := World.block_lt_of_cell? _ _ (hc2 i hlt).1
      have hYs : Y < w.heap.size := blk_lt hY
      have HXE := Lib.hid hxe
      clear hxe hc1 hc2
      by_cases hgap : next < x.lo
      · have ht1 : decide (next < x.lo) = true := decide_eq_true hgap
        have HG := Lib.hid (hg hgap)
        clear hg hn hYb
        have k0 : ∀ w', EOn (fun a => a.block < w.heap.size) wr w' → w'.cell? ⟨Y, 0, none⟩ = _ := fun w' hx => hx.cell hYs q0
        have k1 : ∀ w', EOn (fun a => a.block < w.heap.size) wr w' → w'.cell? ⟨Y, 1, none⟩ = _ := fun w' hx => hx.cell hYs q1
        have k2 : ∀ w', EOn (fun a => a.block < w.heap.size) wr w' → w'.cell? ⟨b1, o1 + i * 3, none⟩ = _ := fun w' hx => hx.cell hb1 a1
        go_wp2_with fail
        refine wp_lex ((fun a => a.block < w.heap.size)) [true, true, true, true, true, true, true, true, true, true, true, true, true, true, true, true, false, false] (by kernel_rfl) (by kernel_rfl) ?_
        repeat first
          | refine wpG_move (by rfl) (by simp only [Act.eval, Array.getD_eq_getD_getElem?, List.getElem?_toArray, List.getElem?_cons_succ, List.getElem?_cons_zero, Option.getD_some]; try rfl) (by simp only [Act.put, List.setIfInBounds_toArray, List.set_cons_succ, List.set_cons_zero]; rfl) ?_
          | refine wpG_assign (by rfl) (by simp only [Act.eval, Array.getD_eq_getD_getElem?, List.getElem?_toArray, List.getElem?_cons_succ, List.getElem?_cons_zero, Option.getD_some]; try rfl) (by simp only [Act.put, List.setIfInBounds_toArray, List.set_cons_succ, List.set_cons_zero]; rfl) ?_
          | refine wpG_val (by rfl) (fun w' hx => (by go_simp; first | (go_bits; first | exact rfl | exact ⟨by omega, rfl⟩) | exact rfl | exact (if_neg (by omega)).trans rfl | exact ⟨by omega, rfl⟩)) (by simp only [Act.put, List.setIfInBounds_toArray, List.set_cons_succ, List.set_cons_zero]; rfl) ?_
          | refine wpG_no (by rfl) (by simp only [Act.put, List.setIfInBounds_toArray, List.set_cons_succ, List.set_cons_zero]; rfl) ?_
        refine wpG_do (by rfl) (fun w3 hx3 K hK => ?_)
        clear k0 k1 k2 q0 q1 a1 a2 a3
        go_wp2_with fail
        refine ⟨EOn.of_ext ((Ext.refl w3).alloc _), ?_⟩
        refine wpG_do (by rfl) (fun w4 hx4 K hK => ?_)
        have hxr4 : Ext wr w4 := (hx3.alloc _).trans hx4
        have hnew := hx4.blk (World.alloc_heap_new w3 (.cells #[.int .i32 next, .int .i32 (x.lo - 1), .int .i64 rest] 32))
        have hrow4 := ownsRow_ext hrow hxr4
        have hxw4 := Ext.trans hx hxr4
        refine wp_append_own w4 (.tmp 25) (.tmp 41) 25 rfl w.heap.size 32 i0 (.agg #[.int .i32 0, .int .i32 0, .int .i64 0]) 3 16 Try.underlying25 hi0 hz0 hz1 hz2 rfl (by decide)
          _ m (rgCells o) rfl hrow4 ⟨w3.heap.size, 0, none⟩ 1 1 [.int .i32 next, .int .i32 (x.lo - 1), .int .i64 rest] rfl rfl (World.news_of_block hnew) (by intro u hu; simp at hu; rcases hu with rfl | rfl | rfl <;> rfl) (by unfold maxLen; omega) (by omega) hxw4.sz ?_
        intro v' w5 hown' hgrow _
        have hbl5 : Ext w w5 := Below.grown hxw4 hgrow hxw4.sz (fun k e => (hrow4.lt k e).1)
        refine hK _ _ ⟨⟨hgrow.size, fun a ha hb => World.cell?_of_block (hgrow.block a.block hb (fun e => by have := (hrow4.lt a.block e.symm).1; have ha' : a.block < w.heap.size := ha; omega))⟩, ?_⟩
        have e : rgCells (o ++ [(⟨next, x.lo - 1, rest⟩ : Rng)]) = rgCells o ++ [.int .i32 next, .int .i32 (x.lo - 1), .int .i64 rest] := by rw [rgCells_append]; rfl
        rw [← e] at hown'
        clear e hgrow hrow4 hnew hxr4 hx4 hx3 hrow hK hxw4
        refine wpG_end (fun w6 hx6 => ?_)
        have hrow6 := ownsRow_ext hown' hx6
        have hxw6 := Ext.trans hbl5 hx6
        clear hown' hx6 hbl5
        obtain ⟨p6, cap6, rfl⟩ := own_slice hrow6
        go_wp2_with fail
        refine gQ_normal ?_
        have hlist := Lib.hid (show (o ++ [(⟨next, x.lo - 1, rest⟩ : Rng)] ++ [x]).length = m + 1 + 1 ∧ (o ++ [(⟨next, x.lo - 1, rest⟩ : Rng)] ++ [x]) ++ allGo rest (x.hi + 1) (L.drop (i + 1)) = allGo rest 0 L from ⟨by have := ho.out.1; simp [this], by rw [← ho.out.2, HG.out]; simp⟩)
        obtain ⟨b3, o3, e3, hc3⟩ := (hrg.mono hxw6).at (by intro e; rw [e] at hlt; simp at hlt)
        cases e3
        obtain ⟨a1, a2, a3⟩ := hc3 i hlt
        rw [HXE.out] at a1 a2 a3
        have hYc := hxw6.blk hY
        have q0 := cell_blk hYc 0
        have q1 := cell_blk hYc 1
        simp only [List.getElem?_toArray, List.getElem?_cons_succ, List.getElem?_cons_zero] at q0 q1
        have hnew6 := World.alloc_heap_new w6 (.cells #[.int .i32 x.lo, .int .i32 x.hi, .int .i64 x.cl] 32)
        have hrowA := ownsRow_ext hrow6 ((Ext.refl w6).alloc (.cells #[.int .i32 x.lo, .int .i32 x.hi, .int .i64 x.cl] 32))
        have hxA : Ext w (w6.alloc (.cells #[.int .i32 x.lo, .int .i32 x.hi, .int .i64 x.cl] 32)) := hxw6.alloc _
        have hszA := hxA.sz
        clear hc3 hYc hrow6
        go_wp2_with (at_builtin; refine wpList_append_own _ rfl (.tmp 43) (.tmp 51) 25 rfl w.heap.size 32 i0 (.agg #[.int .i32 0, .int .i32 0, .int .i64 0]) 3 16 Try.underlying25 hi0 hz0 hz1 hz2 rfl (by decide) _ (m + 1) (rgCells (o ++ [(⟨next, x.lo - 1, rest⟩ : Rng)])) rfl hrowA ⟨w6.heap.size, 0, none⟩ 1 1 [.int .i32 x.lo, .int .i32 x.hi, .int .i64 x.cl] rfl rfl (World.news_of_block hnew6) (by intro u hu; simp at hu; rcases hu with rfl | rfl | rfl <;> rfl) (by unfold maxLen; omega) (by omega) (by simpa using hszA) ?_; intro v9 w9 hown' hgrow _; have hx9 : Ext w w9 := Below.grown hxA hgrow hszA (fun k e => (hrowA.lt k e).1); have hY9 := hx9.blk hY; have y0 := cell_blk hY9 0; simp only [List.getElem?_toArray, List.getElem?_cons_succ, List.getElem?_cons_zero] at y0; obtain ⟨b4, o4, e4, hc4⟩ := (hrg.mono hx9).at (by intro e; rw [e] at hlt; simp at hlt); cases e4; obtain ⟨f1, f2, f3⟩ := hc4 i hlt; rw [HXE.out] at f2; clear hgrow hrowA hnew6 hxA hszA a1 a2 a3 q0 q1 hc4 hY9)
        have e : rgCells ((o ++ [(⟨next, x.lo - 1, rest⟩ : Rng)]) ++ [x]) = rgCells (o ++ [(⟨next, x.lo - 1, rest⟩ : Rng)]) ++ [.int .i32 x.lo, .int .i32 x.hi, .int .i64 x.cl] := by rw [rgCells_append]; rfl
        rw [← e] at hown'
        clear e
        go_roundw
        case rel => exact ⟨i + 1, (m + 1) + 1, x.hi + 1, (o ++ [(⟨next, x.lo - 1, rest⟩ : Rng)]) ++ [x], by simp, rfl, by omega, by omega, by omega, hlist, hown', hx9⟩
        case measure => simp [intOf]; omega
      · have ht1 : decide (next < x.lo) = false := decide_eq_false hgap
        have HG := Lib.hid (hn hgap)
        clear hg hn hYb a1 a2 a3
        have hlist := Lib.hid (show (o ++ [x]).length = m + 1 ∧ (o ++ [x]) ++ allGo rest (x.hi + 1) (L.drop (i + 1)) = allGo rest 0 L from ⟨by have := ho.out.1; simp [this], by rw [← ho.out.2, HG.out]; simp⟩)
        obtain ⟨b3, o3, e3, hc3⟩ := (hrg.mono hx).at (by intro e; rw [e] at hlt; simp at hlt)
        cases e3
        obtain ⟨a1, a2, a3⟩ := hc3 i hlt
        rw [HXE.out] at a1 a2 a3
        have hYc := hx.blk hY
        have q0 := cell_blk hYc 0
        have q1 := cell_blk hYc 1
        simp only [List.getElem?_toArray, List.getElem?_cons_succ, List.getElem?_cons_zero] at q0 q1
        have hnew6 := World.alloc_heap_new wr (.cells #[.int .i32 x.lo, .int .i32 x.hi, .int .i64 x.cl] 32)
        have hrowA := ownsRow_ext hrow ((Ext.refl wr).alloc (.cells #[.int .i32 x.lo, .int .i32 x.hi, .int .i64 x.cl] 32))
        have hxA : Ext w (wr.alloc (.cells #[.int .i32 x.lo, .int .i32 x.hi, .int .i64 x.cl] 32)) := hx.alloc _
        have hszA := hxA.sz
        clear hc3 hYc hrow
        go_wp2_with (at_builtin; refine wpList_append_own _ rfl (.tmp 43) (.tmp 51) 25 rfl w.heap.size 32 i0 (.agg #[.int .i32 0, .int .i32 0, .int .i64 0]) 3 16 Try.underlying25 hi0 hz0 hz1 hz2 rfl (by decide) _ m (rgCells o) rfl hrowA ⟨wr.heap.size, 0, none⟩ 1 1 [.int .i32 x.lo, .int .i32 x.hi, .int .i64 x.cl] rfl rfl (World.news_of_block hnew6) (by intro u hu; simp at hu; rcases hu with rfl | rfl | rfl <;> rfl) (by unfold maxLen; omega) (by omega) (by simpa using hszA) ?_; intro v9 w9 hown' hgrow _; have hx9 : Ext w w9 := Below.grown hxA hgrow hszA (fun k e => (hrowA.lt k e).1); have hY9 := hx9.blk hY; have y0 := cell_blk hY9 0; simp only [List.getElem?_toArray, List.getElem?_cons_succ, List.getElem?_cons_zero] at y0; obtain ⟨b4, o4, e4, hc4⟩ := (hrg.mono hx9).at (by intro e; rw [e] at hlt; simp at hlt); cases e4; obtain ⟨f1, f2, f3⟩ := hc4 i hlt; rw [HXE.out] at f2; clear hgrow hrowA hnew6 hxA hszA a1 a2 a3 q0 q1 hc4 hY9)
        have e : rgCells (o ++ [x]) = rgCells o ++ [.int .i32 x.lo, .int .i32 x.hi, .int .i64 x.cl] := by rw [rgCells_append]; rfl
        rw [← e] at hown'
        clear e
        go_roundw
        case rel => exact ⟨i + 1, m + 1, x.hi + 1, o ++ [x], by simp, rfl, by omega, by omega, by omega, hlist, hown', hx9⟩
        case measure => simp [intOf]; omega
    · have hd : decide (i < L.length) = false := decide_eq_false hlt
      have hdr : L.drop i = [] := List.drop_eq_nil_of_le (by omega)
      have hend := ho.out.2
      rw [hdr, allGo] at hend
      clear hYb
      by_cases hgap : next ≤ 1114111
      · rw [if_pos hgap] at hend
        have HE := Lib.hid hend
        have ht1 : decide (next ≤ 1114111) = true := decide_eq_true hgap
        have HO := Lib.hid ho.out.1
        clear hend hdr
        have hnew6 := World.alloc_heap_new wr (.cells #[.int .i32 next, .int .i32 1114111, .int .i64 rest] 32)
        have hrowA := ownsRow_ext hrow ((Ext.refl wr).alloc (.cells #[.int .i32 next, .int .i32 1114111, .int .i64 rest] 32))
        have hxA : Ext w (wr.alloc (.cells #[.int .i32 next, .int .i32 1114111, .int .i64 rest] 32)) := hx.alloc _
        have hszA := hxA.sz
        clear hrow
        go_wp2_with (at_builtin; refine wpList_append_own _ rfl (.tmp 64) (.tmp 71) 25 rfl w.heap.size 32 i0 (.agg #[.int .i32 0, .int .i32 0, .int .i64 0]) 3 16 Try.underlying25 hi0 hz0 hz1 hz2 rfl (by decide) _ m (rgCells o) rfl hrowA ⟨wr.heap.size, 0, none⟩ 1 1 [.int .i32 next, .int .i32 1114111, .int .i64 rest] rfl rfl (World.news_of_block hnew6) (by intro u hu; simp at hu; rcases hu with rfl | rfl | rfl <;> rfl) (by unfold maxLen; omega) (by omega) (by simpa using hszA) ?_; intro v9 w9 hown' hgrow _; have hx9 : Ext w w9 := Below.grown hxA hgrow hszA (fun k e => (hrowA.lt k e).1); clear hgrow hrowA hnew6 hxA hszA)
        have e : rgCells (o ++ [(⟨next, 1114111, rest⟩ : Rng)]) = rgCells o ++ [.int .i32 next, .int .i32 1114111, .int .i64 rest] := by rw [rgCells_append]; rfl
        rw [← e] at hown'
        clear e
        go_ret
        exact ⟨_, rfl, by rw [← HE.out, List.length_append, HO.out]; exact hown', hx9⟩
      · rw [if_neg hgap, List.append_nil] at hend
        have HE := Lib.hid hend
        have HO := Lib.hid ho.out.1
        have ht1 : decide (next ≤ 1114111) = false := decide_eq_false hgap
        clear hend hdr
        go_wp2_with fail
        go_ret
        exact ⟨_, rfl, by rw [← HE.out, HO.out]; exact hrow, hx⟩
end Go.Proofs.Ytbbemipidkhmfaa
