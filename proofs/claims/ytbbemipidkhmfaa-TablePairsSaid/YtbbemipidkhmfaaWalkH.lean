/-
  All runs of a table.
-/
import Derived.Test.YtbbemipidkhmfaaWalkG
import Derived.Test.YtbbemipidkhmfaaRuns
namespace Go.Proofs.Ytbbemipidkhmfaa
open Go.RowKit Go.Maps

theorem info32p : (Try.prog.info? 32).map (fun i => (i.zero, i.size, i.bytes)) = some (some (.agg #[.int .i32 0, .int .i32 0, .int .i64 0]), 3, 16) := by kernel_rfl
theorem cell3_new (w : World) (a b c : Value) (t : TypeId) : ∀ (j : Nat) u, [a, b, c][j]? = some u → (w.alloc (.cells #[a, b, c] t)).cell? ((⟨w.heap.size, 0, none⟩ : Addr).add j) = some u := by
  intro j u h
  have hadd : (⟨w.heap.size, 0, none⟩ : Addr).add j = ⟨w.heap.size, j, none⟩ := by unfold Addr.add; split <;> simp_all
  rw [hadd, cell_blk (World.alloc_heap_new w _) j]
  simpa using h

theorem boxed_row {W w1 : World} {n₀ B : Nat} {t e : TypeId} {size : Nat} {v v' : Value} {k m : Nat} {xs ys : List Value}
    (hv : Boxed W B t v) (hte : t ≠ e) (hrow : W.ownsRow n₀ e size v k xs) (hn₀ : n₀ ≤ W.heap.size) (hB : n₀ ≤ B)
    (hown' : w1.ownsRow n₀ e size v' m ys) (hgrow : W.grownBy w1 v.ownBlock) :
    Boxed w1 B t v ∧ Boxed (w1.setCell ⟨B, 0, none⟩ v') B t v' ∧ (w1.setCell ⟨B, 0, none⟩ v').ownsRow n₀ e size v' m ys ∧ KeepsOthers W (w1.setCell ⟨B, 0, none⟩ v') ∧ Below n₀ W (w1.setCell ⟨B, 0, none⟩ v') := by
  have hv1 : Boxed w1 B t v := hv.kept hgrow (hv.not_row hte hrow)
  refine ⟨hv1, hv1.set v', hown'.kept (grownBy_setCell' w1 B v') (.inr (hv1.not_row hte hown').symm), ?_, ?_⟩
  · refine (KeepsOthers.of_grownBy hgrow fun j o ej hj => ?_).trans (KeepsOthers.setCell _ _ _)
    rcases hrow.2 with ⟨rfl, _⟩ | ⟨g, cap, cur, rfl, _, hgb, _⟩
    · simp [Value.ownBlock] at ej
    · obtain rfl : g = j := by simpa [Value.ownBlock] using ej
      rw [hgb] at hj; cases hj; rfl
  · refine ((Below.refl n₀ W).grown hgrow hn₀ fun j ej => ?_).setCell (p := ⟨B, 0, none⟩) hB v'
    rcases hrow.2 with ⟨rfl, _⟩ | ⟨g, cap, cur, rfl, hb, _, _⟩
    · simp [Value.ownBlock] at ej
    · obtain rfl : g = j := by simpa [Value.ownBlock] using ej
      exact hb

set_option maxRecDepth 100000 in
set_option maxHeartbeats 4000000 in
theorem c_addR (l : List Rng) (lo hi c : Int) (v : Value) (W : World) (n₀ B : Nat) (hB : Boxed W B 25 v) (hrow : W.ownsRow n₀ 32 3 v l.length (rgCells l)) (h0 : n₀ ≤ B) (h1 : n₀ ≤ W.heap.size) (hl : l.length ≤ 2000000) :
    Calls Try.prog 78 #[.int .i32 lo, .int .i32 hi, .int .i64 c, .pointer (some ⟨B, 0, none⟩)] W fun e W' => e = .returned (.tuple #[]) ∧ ∃ v', Boxed W' B 25 v' ∧ W'.ownsRow n₀ 32 3 v' (addR l lo hi c).length (rgCells (addR l lo hi c)) ∧ Below n₀ W W' := by
  obtain ⟨i0, hi0, hz0, hz1, hz2⟩ := info_parts info32p
  rcases List.eq_nil_or_concat l with rfl | ⟨pre, x, rfl⟩
  · obtain ⟨p, cap, rfl⟩ : ∃ p cap, v = .slice p 0 cap := by
      rcases hrow.2 with ⟨h, _⟩ | ⟨g, cap, _, h, _⟩
      · exact ⟨none, 0, h⟩
      · exact ⟨_, cap, h⟩
    have cB := hB.cell
    have cB2 := (hB.alloc (.cells #[.int .i32 lo, .int .i32 hi, .int .i64 c] 32)).cell
    have fB := hB.frozen
    simp only [List.length_nil] at hl
    have hrow1 := ownsRow_ext hrow ((Ext.refl W).alloc (.cells #[.int .i32 lo, .int .i32 hi, .int .i64 c] 32))
    have hB1 := hB.alloc (.cells #[.int .i32 lo, .int .i32 hi, .int .i64 c] 32)
    go_enter Try.func78, Try.ntmps78
    go_wp2_with (at_builtin; refine wpList_append_own _ rfl (.tmp 27) (.tmp 32) 25 rfl n₀ 32 i0 (.agg #[.int .i32 0, .int .i32 0, .int .i64 0]) 3 16 Try.underlying25 hi0 hz0 hz1 hz2 rfl (by decide) _ 0 (rgCells []) rfl hrow1 ⟨W.heap.size, 0, none⟩ 1 1 [.int .i32 lo, .int .i32 hi, .int .i64 c] rfl rfl (cell3_new W _ _ _ _) (by intro u hu; simp at hu; rcases hu with rfl | rfl | rfl <;> rfl) (by unfold maxLen; omega) (by omega) (by simp; omega) ?_; intro v' w1 hown' hgrow _; obtain ⟨g', cap', rfl⟩ := ownsRow_pos hown' (by omega); obtain ⟨hv1, hv2, hr2, hk2, hb2⟩ := boxed_row hB1 (by decide) hrow1 (by simp; omega) h0 hown' hgrow; have hc1 := hv1.cell; have hf1 := hv1.frozen)
    refine bodyPost_end (results_none rfl _ _ _) rfl ?_
    refine ⟨rfl, _, hv2, ?_, ((Below.refl n₀ W).alloc h1 _).trans hb2⟩
    simpa [addR, rgCells, rgV] using hr2
  · rw [List.concat_eq_append] at hrow hl ⊢
    rw [addR_snoc]
    simp only [List.length_append, List.length_cons, List.length_nil] at hrow hl
    obtain ⟨g, cap, rfl⟩ := ownsRow_pos hrow (by omega)
    have cB := hB.cell
    have cB2 := (hB.alloc (.cells #[.int .i32 lo, .int .i32 hi, .int .i64 c] 32)).cell
    have fB := hB.frozen
    have hget := rgCells_get pre x []
    have e2 := (hrow.cellAt (pre.length * 3 + 2) (by omega)).trans hget.2.2
    have e1 := (hrow.cellAt (pre.length * 3 + 1) (by omega)).trans hget.2.1
    have hfr := hrow.frozenAt (pre.length * 3 + 1)
    clear hget
    by_cases hc : x.cl = c
    · rw [if_pos hc]
      have hs := (hrow.stored (pre.length * 3 + 1) (.int .i32 hi)).1
      have hgs := (hrow.stored (pre.length * 3 + 1) (.int .i32 hi)).2
      have hBs := hB.kept hgs (hB.not_row (by decide) hrow)
      have hcb : (x.cl == c) = true := beq_iff_eq.2 hc
      have HC := Lib.hid hc
      clear hc
      go_enter Try.func78, Try.ntmps78
      go_wp2_with fail
      refine bodyPost_end (results_none rfl _ _ _) rfl ?_
      refine ⟨rfl, _, hBs, ?_, ?_⟩
      · rw [rgCells_setHi, HC.out] at hs
        simpa using hs
      · exact (Below.refl n₀ W).grown hgs h1 (fun k e => by cases e; exact (hrow.lt g rfl).1)
    · rw [if_neg hc]
      have hcb : (x.cl == c) = false := beq_false_of_ne hc
      have hrow1 := ownsRow_ext hrow ((Ext.refl W).alloc (.cells #[.int .i32 lo, .int .i32 hi, .int .i64 c] 32))
      have hB1 := hB.alloc (.cells #[.int .i32 lo, .int .i32 hi, .int .i64 c] 32)
      go_enter Try.func78, Try.ntmps78
      go_wp2_with (at_builtin; refine wpList_append_own _ rfl (.tmp 27) (.tmp 32) 25 rfl n₀ 32 i0 (.agg #[.int .i32 0, .int .i32 0, .int .i64 0]) 3 16 Try.underlying25 hi0 hz0 hz1 hz2 rfl (by decide) _ (pre.length + 1) (rgCells (pre ++ [x])) rfl hrow1 ⟨W.heap.size, 0, none⟩ 1 1 [.int .i32 lo, .int .i32 hi, .int .i64 c] rfl rfl (cell3_new W _ _ _ _) (by intro u hu; simp at hu; rcases hu with rfl | rfl | rfl <;> rfl) (by unfold maxLen; omega) (by omega) (by simp; omega) ?_; intro v' w1 hown' hgrow _; obtain ⟨g', cap', rfl⟩ := ownsRow_pos hown' (by omega); obtain ⟨hv1, hv2, hr2, hk2, hb2⟩ := boxed_row hB1 (by decide) hrow1 (by simp; omega) h0 hown' hgrow; have hc1 := hv1.cell; have hf1 := hv1.frozen)
      refine bodyPost_end (results_none rfl _ _ _) rfl ?_
      refine ⟨rfl, _, hv2, ?_, ((Below.refl n₀ W).alloc h1 _).trans hb2⟩
      have e : rgCells (pre ++ [x, ⟨lo, hi, c⟩]) = rgCells (pre ++ [x]) ++ [.int .i32 lo, .int .i32 hi, .int .i64 c] := by
        rw [show pre ++ [x, ⟨lo, hi, c⟩] = (pre ++ [x]) ++ [⟨lo, hi, c⟩] from by simp, rgCells_append]
        rfl
      rw [e]
      simpa using hr2
end Go.Proofs.Ytbbemipidkhmfaa
