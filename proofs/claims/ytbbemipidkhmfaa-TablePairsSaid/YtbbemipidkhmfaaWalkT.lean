/-
  slices.AppendSeq, slices.Collect at ranges.
-/
import Derived.Test.YtbbemipidkhmfaaWalkS
namespace Go.Proofs.Ytbbemipidkhmfaa
open Go.RowKit Go.Maps Go.Shelf

attribute [local go_sem] Oper.semAt_some

set_option maxRecDepth 100000 in
set_option maxHeartbeats 2000000 in
theorem c_Values (p : Option Addr) (n cap : Nat) (w : World) : Calls Try.prog 39 #[.slice p n cap] w fun e w' => e = .returned (.func (.func 71) #[] #[.pointer (some ⟨w.heap.size, 0, none⟩)]) ∧ w' = w.alloc (.cells #[.slice p n cap] 25) := by
  go_enter Try.func39, Try.ntmps39
  go_wp2_with fail
  go_ret
  exact ⟨rfl, rfl⟩

set_option maxRecDepth 100000 in
set_option maxHeartbeats 4000000 in
theorem c_AppendSeq_in (Bs : Nat) (sv : Value) (l : List Rng) (w0 w : World) (h : RgRow w0 sv l) (hx : Ext w0 w) (hBs : w.heap[Bs]? = some (.cells #[sv] 25)) (hl : l.length ≤ 2000000) :
    CallsIn Fence.wide 3 Try.prog 81 #[.slice none 0 0, .func (.func 71) #[] #[.pointer (some ⟨Bs, 0, none⟩)]] w fun e W' =>
      ∃ v, e = .returned v ∧ W'.ownsRow w.heap.size 32 3 v l.length (rgCells l) ∧ Ext w W' := by
  have hall : ∀ f, Fence.wide.fn f := fun _ => trivial
  have hro : Fence.wide.round = none := rfl
  obtain ⟨i0, hi0, hz0, hz1, hz2⟩ := info_parts info32p
  refine callsIn_of_wp_marks Try.func81 rfl (hall _) ?_ rfl
  simp only [Try.ntmps81, List.size_toArray, List.length_cons, List.length_nil, Nat.reduceAdd, Nat.reduceSub, Array.replicate_succ, Array.replicate_zero, List.push_toArray, List.append_toArray, List.nil_append, List.cons_append]
  gi_wp2
  have bO := Boxed.new w 25 (.slice none 0 0)
  have hB0 : Below w.heap.size w (w.alloc (.cells #[.slice none 0 0] 25)) := (Below.refl _ w).alloc (Nat.le_refl _) _
  have hx1 : Ext w0 (w.alloc (.cells #[.slice none 0 0] 25)) := Ext.alloc hx _
  have hBs1 := hB0.block Bs (blk_lt hBs)
  rw [hBs] at hBs1
  have hs := hx.sz
  refine wpIn_rangeB (n₀ := w.heap.size) (w0 := w.alloc (.cells #[.slice none 0 0] 25)) (by simp) hro (by decide) (gf := 71) (lb := #[.pointer (some ⟨Bs, 0, none⟩)]) rfl (hall _) (enters_of Try.func71 (by kernel_rfl) rfl)
    (values_stops (3 - 1) (by decide) Bs w.heap.size sv l w0 _ h hx1 hs (by simp) hBs1 hl) (Below.refl _ _) (fun _ => rfl)
    (fun pre W => (∃ v, Boxed W w.heap.size 25 v ∧ W.ownsRow w.heap.size 32 3 v pre.length (rgCells pre) ∧ True) ∧ Below w.heap.size w W)
    (OwnFrom.and (Own.from (holdsRow_own w.heap.size w.heap.size 25 32 3 (fun pre => pre.length) (fun pre => rgCells pre) (fun _ _ => True)) _) (ownFrom_below (Nat.le_refl _) (by simp)))
    ⟨⟨_, bO, World.ownsRow_nil _ _ _ _, trivial⟩, hB0⟩
    (fun x B => { tmps := #[.slice none 0 0, .func (.func 71) #[] #[.pointer (some ⟨Bs, 0, none⟩)], .pointer (some ⟨w.heap.size, 0, none⟩), undef, .slice none 0 0, .pointer (some ⟨B, 0, none⟩), .func (.func 71) #[] #[.pointer (some ⟨Bs, 0, none⟩)], rgA x, undef, undef, undef, undef, undef], defers := [] })
    (fun x => .cells #[.int .i32 x.lo, .int .i32 x.hi, .int .i64 x.cl] 32) ?assign ?body ?done
  case assign =>
    intro lp x W K hK
    gi_wp2
    exact hK
  case body =>
    rintro lp pre x B W ⟨⟨v, hv, hrow, _⟩, hB⟩ hbk hBw hlt
    have hc := hv.cell
    have k0 := cell_blk hbk 0
    have k1 := cell_blk hbk 1
    have k2 := cell_blk hbk 2
    simp only [List.getElem?_toArray, List.getElem?_cons_succ, List.getElem?_cons_zero] at k0 k1 k2
    have hrow1 := hrow.alloc (.cells #[.int .i32 x.lo, .int .i32 x.hi, .int .i64 x.cl] 32)
    have hnew := World.alloc_heap_new W (.cells #[.int .i32 x.lo, .int .i32 x.hi, .int .i64 x.cl] 32)
    have hsz := hB.size
    gi_wp2_with (gi_at_builtin; refine wpListIn_append_own _ rfl (.tmp 8) (.tmp 10) 25 rfl w.heap.size 32 i0 (.agg #[.int .i32 0, .int .i32 0, .int .i64 0]) 3 16 Try.underlying25 hi0 hz0 hz1 hz2 rfl (by decide) _ pre.length (rgCells pre) rfl hrow1 ⟨W.heap.size, 0, none⟩ 1 1 [.int .i32 x.lo, .int .i32 x.hi, .int .i64 x.cl] rfl rfl (World.news_of_block hnew) (by intro u hu; simp at hu; rcases hu with rfl | rfl | rfl <;> rfl) (by unfold maxLen; omega) (by omega) (by simp; omega) ?_; intro v' w1 hown' hgrow _; obtain ⟨g', cap', rfl⟩ := ownsRow_pos hown' (by omega); obtain ⟨hv1, hv2, hr2, hk2, hb2⟩ := Boxed.appended hv (by decide) hrow hsz (Nat.le_refl _) hown' hgrow; have hc1 := hv1.cell; have hf1 := hv1.frozen)
    refine ⟨hk2, hb2, ⟨_, hv2, ?_, trivial⟩, hB.trans hb2⟩
    have e : rgCells (pre ++ [x]) = rgCells pre ++ [.int .i32 x.lo, .int .i32 x.hi, .int .i64 x.cl] := by rw [rgCells_append]; rfl
    rw [e, List.length_append]
    exact hr2
  case done =>
    rintro D ys W hD rfl ⟨⟨v, hv, hrow, _⟩, hB⟩ hK
    have hc := hv.cell
    gi_wp2
    refine ⟨by simp, .inl ⟨_, _, rfl, run_takeDeferred hK, ?_⟩⟩
    have hne : v.ownBlock = none ∨ v.ownBlock ≠ some D := by
      rcases hrow.2 with ⟨rfl, _⟩ | ⟨g, cap, cur, rfl, _, hgb, _⟩
      · exact .inl rfl
      · refine .inr fun e => ?_
        obtain rfl : g = D := by simpa [Value.ownBlock] using e
        rw [hgb] at hK
        cases hK
    exact ⟨_, results_tmp rfl _ _ _, v, rfl, hrow.kept (grownBy_putObj' W D _) hne, hB.trans (belowK_b (w := w) (Nat.le_refl _) W D _ _ (by simp at hD; omega) hK rfl rfl)⟩

set_option maxRecDepth 100000 in
set_option maxHeartbeats 4000000 in
theorem c_AppendSeq (Bs : Nat) (sv : Value) (l : List Rng) (w0 w : World) (h : RgRow w0 sv l) (hx : Ext w0 w) (hBs : w.heap[Bs]? = some (.cells #[sv] 25)) (hl : l.length ≤ 2000000) :
    Calls Try.prog 81 #[.slice none 0 0, .func (.func 71) #[] #[.pointer (some ⟨Bs, 0, none⟩)]] w fun e W' =>
      ∃ v, e = .returned v ∧ W'.ownsRow w.heap.size 32 3 v l.length (rgCells l) ∧ Ext w W' := callsIn_wide.1 (c_AppendSeq_in Bs sv l w0 w h hx hBs hl)

set_option maxRecDepth 100000 in
set_option maxHeartbeats 4000000 in
theorem c_Collect (Bs : Nat) (sv : Value) (l : List Rng) (w0 w : World) (h : RgRow w0 sv l) (hx : Ext w0 w) (hBs : w.heap[Bs]? = some (.cells #[sv] 25)) (hl : l.length ≤ 2000000) :
    Calls Try.prog 69 #[.func (.func 71) #[] #[.pointer (some ⟨Bs, 0, none⟩)]] w fun e W' =>
      ∃ v, e = .returned v ∧ W'.ownsRow w.heap.size 32 3 v l.length (rgCells l) ∧ Ext w W' := by
  go_enter Try.func69, Try.ntmps69
  go_wp2_with fail
  refine (c_AppendSeq Bs sv l w0 w h hx hBs hl).mono ?_
  rintro e w1 ⟨v, rfl, ho, hx1⟩
  go_wp2_with fail
  go_ret
  exact ⟨v, rfl, ho, hx1⟩

set_option maxRecDepth 100000 in
set_option maxHeartbeats 4000000 in
theorem c_isNaN (x : Int) (w : World) : Calls Try.prog 72 #[.int .i32 x] w fun e w' => e = .returned (.bool false) ∧ w' = w := by
  go_enter Try.func72, Try.ntmps72
  go_wp2_with fail
  go_ret
  exact ⟨rfl, rfl⟩
/-- Which comes first. -/
def cmpI (x y : Int) : Int := if x < y then -1 else if y < x then 1 else 0
set_option maxRecDepth 100000 in
set_option maxHeartbeats 4000000 in
theorem c_Compare (x y : Int) (w : World) : Calls Try.prog 41 #[.int .i32 x, .int .i32 y] w fun e w' => e = .returned (.int .i64 (cmpI x y)) ∧ w' = w := by
  obtain ⟨r, hr⟩ : ∃ r, cmpI x y = r := ⟨_, rfl⟩
  have HR := Lib.hid hr
  rw [hr]
  clear hr
  go_enter Try.func41, Try.ntmps41
  go_wp2_with fail
  refine (c_isNaN x w).mono ?_
  rintro e w1 ⟨rfl, rfl⟩
  go_wp2_with fail
  refine (c_isNaN y w1).mono ?_
  rintro e w1 ⟨rfl, rfl⟩
  by_cases h1 : x < y
  · have d1 : decide (x < y) = true := decide_eq_true h1
    go_wp2_with fail
    go_ret
    exact ⟨by rw [← HR.out, cmpI, if_pos h1]; rfl, rfl⟩
  · have d1 : decide (x < y) = false := decide_eq_false h1
    by_cases h2 : y < x
    · have d2 : decide (y < x) = true := decide_eq_true h2
      go_wp2_with fail
      go_ret
      exact ⟨by rw [← HR.out, cmpI, if_neg (by omega), if_pos (by omega)]; rfl, rfl⟩
    · have d2 : decide (y < x) = false := decide_eq_false h2
      go_wp2_with fail
      go_ret
      exact ⟨by rw [← HR.out, cmpI, if_neg (by omega), if_neg (by omega)]; rfl, rfl⟩
set_option maxRecDepth 100000 in
set_option maxHeartbeats 4000000 in
theorem c_before (x y : Rng) (w : World) : Calls Try.prog 40 #[rgA x, rgA y] w fun e w' => e = .returned (.int .i64 (cmpI x.lo y.lo)) ∧ w' = (w.alloc (.cells #[.int .i32 x.lo, .int .i32 x.hi, .int .i64 x.cl] 32)).alloc (.cells #[.int .i32 y.lo, .int .i32 y.hi, .int .i64 y.cl] 32) := by
  have b1 := World.alloc_heap_new w (.cells #[.int .i32 x.lo, .int .i32 x.hi, .int .i64 x.cl] 32)
  have b2 := World.alloc_heap_new (w.alloc (.cells #[.int .i32 x.lo, .int .i32 x.hi, .int .i64 x.cl] 32)) (.cells #[.int .i32 y.lo, .int .i32 y.hi, .int .i64 y.cl] 32)
  rw [World.size_alloc] at b2
  have b3 := ((Ext.refl (w.alloc (.cells #[.int .i32 x.lo, .int .i32 x.hi, .int .i64 x.cl] 32))).alloc (.cells #[.int .i32 y.lo, .int .i32 y.hi, .int .i64 y.cl] 32)).blk b1
  have k1 := cell_blk b3 0
  have k2 := cell_blk b2 0
  simp only [List.getElem?_toArray, List.getElem?_cons_succ, List.getElem?_cons_zero] at k1 k2
  show Calls Try.prog 40 #[.agg #[.int .i32 x.lo, .int .i32 x.hi, .int .i64 x.cl], .agg #[.int .i32 y.lo, .int .i32 y.hi, .int .i64 y.cl]] w _
  clear b1 b2 b3
  go_enter Try.func40, Try.ntmps40
  go_wp2_with fail
  refine (c_Compare x.lo y.lo _).mono ?_
  rintro e w1 ⟨rfl, rfl⟩
  go_wp2_with fail
  go_ret
  exact ⟨rfl, rfl⟩
end Go.Proofs.Ytbbemipidkhmfaa
