/-
  The document's find and Equal; the law's own look at two lists of pairs.
-/
import Derived.Test.YtbbemipidkhmfaaPairA
import Derived.Test.YtbbemipidkhmfaaRefF
namespace Go.Proofs.Ytbbemipidkhmfaa
open Go.RowKit Go.Maps

/-- A slice of pairs. -/
def TwRow (w : World) (v : Value) (D : List (Int × Int)) : Prop :=
  ∃ p cap, v = .slice p D.length cap ∧ D.length ≤ cap ∧ (D ≠ [] → ∃ b off, p = some ⟨b, off, none⟩ ∧ ∀ i (h : i < D.length), w.cell? ⟨b, off + i * 2, none⟩ = some (.int .i64 D[i].1) ∧ w.cell? ⟨b, off + i * 2 + 1, none⟩ = some (.int .i64 D[i].2))
theorem TwRow.mono {w w' : World} {v : Value} {D : List (Int × Int)} (hx : Ext w w') (h : TwRow w v D) : TwRow w' v D := by
  obtain ⟨p, cap, rfl, hcap, h2⟩ := h
  refine ⟨p, cap, rfl, hcap, fun hne => ?_⟩
  obtain ⟨b, off, rfl, hc⟩ := h2 hne
  exact ⟨b, off, rfl, fun i hi => ⟨hx.cell (hc i hi).1, hx.cell (hc i hi).2⟩⟩
theorem TwRow.at {w : World} {p : Option Addr} {n cap : Nat} {D : List (Int × Int)} (h : TwRow w (.slice p n cap) D) (hl : D ≠ []) : ∃ b off, p = some ⟨b, off, none⟩ ∧ ∀ i (h : i < D.length), w.cell? ⟨b, off + i * 2, none⟩ = some (.int .i64 D[i].1) ∧ w.cell? ⟨b, off + i * 2 + 1, none⟩ = some (.int .i64 D[i].2) := by
  obtain ⟨p', cap', e, _, h2⟩ := h
  obtain ⟨b, off, e2, hc⟩ := h2 hl
  cases e
  exact ⟨b, off, e2, hc⟩
theorem TwRow.of_own {w : World} {n₀ : Nat} {v : Value} {D : List (Int × Int)} (h : w.ownsRow n₀ 102 2 v D.length (twCells D)) : TwRow w v D := by
  rcases h.2 with ⟨rfl, h0⟩ | ⟨g, cap, cur, rfl, a1, a2, a3, a4⟩
  · have h0 : D.length = 0 := h0
    refine ⟨none, 0, by rw [h0], by omega, fun hne => absurd (List.length_eq_zero_iff.1 h0) hne⟩
  · refine ⟨_, cap, rfl, a3, fun hne => ⟨g, 0, rfl, fun i hi => ?_⟩⟩
    obtain ⟨pre, t, hpt, hpl⟩ : ∃ pre t, D = pre ++ D[i] :: t ∧ pre.length = i := ⟨D.take i, D.drop (i + 1), by rw [← List.drop_eq_getElem_cons hi, List.take_append_drop], by rw [List.length_take]; omega⟩
    obtain ⟨q1, q2⟩ := twCells_get pre t D[i]
    rw [← hpt, hpl] at q1 q2
    rw [Nat.zero_add]
    exact ⟨(h.cellAt _ (by omega)).trans q1, (h.cellAt _ (by omega)).trans q2⟩
/-- Are two pairs the same? -/
def eqTw (x y : Int × Int) : Bool := x.1 == y.1 && x.2 == y.2
theorem eqTw_true {x y : Int × Int} : eqTw x y = true ↔ x = y := by
  cases x; cases y
  simp [eqTw]
theorem run_eqTw (x y : Int × Int) (w : World) : (binOp .eql 102 (.agg #[.int .i64 x.1, .int .i64 x.2]) (.agg #[.int .i64 y.1, .int .i64 y.2])).run Try.prog w = .ok (.bool (eqTw x y)) w := by
  have a3 := Try.isAgg3
  have z3 := Try.sizeOf3
  have hS : Try.prog.underlying 102 = some (.struct (Try.prog.fieldsOf 102)) := by kernel_rfl
  have hp : Try.prog.stoodInHeld 102 = false := by kernel_rfl
  rw [run_eql_struct, show (10000 : Nat) = 9999 + 1 from rfl, run_equalIn_agg w 9999 102 _ _ hS hp]
  simp only [Program.fieldsOf, Try.underlying102]
  go_simp
  unfold eqTw
  by_cases h1 : x.1 = y.1 <;> by_cases h2 : x.2 = y.2 <;> simp [h1, h2]
theorem run_neqTw (x y : Int × Int) (w : World) : (binOp .neq 102 (.agg #[.int .i64 x.1, .int .i64 x.2]) (.agg #[.int .i64 y.1, .int .i64 y.2])).run Try.prog w = .ok (.bool (!eqTw x y)) w := by
  have a3 := Try.isAgg3
  have z3 := Try.sizeOf3
  have hS : Try.prog.underlying 102 = some (.struct (Try.prog.fieldsOf 102)) := by kernel_rfl
  have hp : Try.prog.stoodInHeld 102 = false := by kernel_rfl
  rw [run_neq_struct, show (10000 : Nat) = 9999 + 1 from rfl, run_equalIn_agg w 9999 102 _ _ hS hp]
  simp only [Program.fieldsOf, Try.underlying102]
  go_simp
  unfold eqTw
  by_cases h1 : x.1 = y.1 <;> by_cases h2 : x.2 = y.2 <;> simp [h1, h2]
/-- What find tells. -/
def fndI (D : List (Int × Int)) (x : Int × Int) : Int := if fnd D x < D.length then (fnd D x : Nat) else -1
set_option maxRecDepth 100000 in
set_option maxHeartbeats 4000000 in
theorem c_find (tv : Value) (D : List (Int × Int)) (x : Int × Int) (w : World) (h : TwRow w tv D) (hn : D.length ≤ 2000000) :
    Calls Try.prog 67 #[tv, twA x] w fun e w' => e = .returned (.int .i64 (fndI D x)) ∧ Ext w w' := by
  obtain ⟨p, cap, rfl⟩ : ∃ p cap, tv = .slice p D.length cap := by obtain ⟨p, cap, e, _⟩ := h; exact ⟨p, cap, e⟩
  show Calls Try.prog 67 #[_, .agg #[.int .i64 x.1, .int .i64 x.2]] w _
  go_enter Try.func67, Try.ntmps67
  go_wp2_with fail
  obtain ⟨wA, hwA⟩ : ∃ wA, w.alloc (Obj.cells #[Value.int IntKind.i64 x.1, Value.int IntKind.i64 x.2] 102) = wA := ⟨_, rfl⟩
  have hxA : Ext w wA := by rw [← hwA]; exact (Ext.refl w).alloc _
  have hbk : wA.heap[w.heap.size]? = some (Obj.cells #[Value.int IntKind.i64 x.1, Value.int IntKind.i64 x.2] 102) := by rw [← hwA]; exact World.alloc_heap_new w _
  rw [hwA]
  clear hwA
  go_loopw [5] (fun k w' => ∃ i : Nat, k = .int .i64 (i : Nat) ∧ i ≤ D.length ∧ Hid (i ≤ fnd D x) ∧ Ext wA w') (fun k _ => D.length + 1 - (intOf k).toNat)
  case atStart => exact ⟨0, rfl, by omega, Lib.hid (by omega), Ext.refl wA⟩
  case round =>
    obtain ⟨i, rfl, hi, hfd, hx⟩ := hrel
    by_cases hlt : i < D.length
    · obtain ⟨b1, o1, rfl, hc1⟩ := (h.mono (Ext.trans hxA hx)).at (by intro e; rw [e] at hlt; simp at hlt)
      obtain ⟨a1, a2⟩ := hc1 i hlt
      have hbkr := hx.blk hbk
      have z0 := cell_blk hbkr 0
      have z1 := cell_blk hbkr 1
      simp only [List.getElem?_toArray, List.getElem?_cons_succ, List.getElem?_cons_zero] at z0 z1
      obtain ⟨y, hye⟩ : ∃ y, D[i] = y := ⟨_, rfl⟩
      rw [hye] at a1 a2
      have hd : decide (i < D.length) = true := decide_eq_true hlt
      have i1 : ((i : Nat) : Int) < (D.length : Nat) := by omega
      have hne := run_eqTw y x
      have HYE := Lib.hid hye
      have k1 : ∀ w', EOn (fun _ => True) wr w' → w'.cell? ⟨b1, o1 + i * 2, none⟩ = _ := fun w' hx => hx.cell trivial a1
      have k2 : ∀ w', EOn (fun _ => True) wr w' → w'.cell? ⟨b1, o1 + i * 2 + 1, none⟩ = _ := fun w' hx => hx.cell trivial a2
      have k3 : ∀ w', EOn (fun _ => True) wr w' → w'.cell? ⟨w.heap.size, 0, none⟩ = _ := fun w' hx => hx.cell trivial z0
      have k4 : ∀ w', EOn (fun _ => True) wr w' → w'.cell? ⟨w.heap.size, 0 + 1, none⟩ = _ := fun w' hx => hx.cell trivial z1
      clear hye hc1 hbkr a1 a2 z0 z1
      go_wp2_with fail
      refine wp_lex (fun _ => True) [true, true, true, true, true, true] (by kernel_rfl) (by kernel_rfl) ?_
      repeat first
        | refine wpG_move (by rfl) (by simp only [Act.eval, Array.getD_eq_getD_getElem?, List.getElem?_toArray, List.getElem?_cons_succ, List.getElem?_cons_zero, Option.getD_some]; try rfl) (by simp only [Act.put, List.setIfInBounds_toArray, List.set_cons_succ, List.set_cons_zero]; rfl) ?_
        | refine wpG_assign (by rfl) (by simp only [Act.eval, Array.getD_eq_getD_getElem?, List.getElem?_toArray, List.getElem?_cons_succ, List.getElem?_cons_zero, Option.getD_some]; try rfl) (by simp only [Act.put, List.setIfInBounds_toArray, List.set_cons_succ, List.set_cons_zero]; rfl) ?_
        | refine wpG_val (by rfl) (fun w' hx => (by go_simp; first | (go_bits; first | exact rfl | exact ⟨by omega, rfl⟩) | exact rfl | exact (if_neg (by omega)).trans rfl | exact ⟨by omega, rfl⟩)) (by simp only [Act.put, List.setIfInBounds_toArray, List.set_cons_succ, List.set_cons_zero]; rfl) ?_
        | refine wpG_no (by rfl) (by simp only [Act.put, List.setIfInBounds_toArray, List.set_cons_succ, List.set_cons_zero]; rfl) ?_
      refine wpG_end (fun w6 hx6 => wpList_nil (gQ_normal ?_))
      clear k1 k2 k3 k4
      obtain ⟨nb, hnb⟩ : ∃ nb, eqTw y x = nb := ⟨_, rfl⟩
      rw [hnb]
      have HNB := Lib.hid hnb
      clear hnb hne
      rcases Bool.eq_false_or_eq_true nb with rfl | rfl
      · have hff := Lib.hid (show fndI D x = (i : Nat) by
          have e1 := eqTw_true.1 HNB.out
          have h1 := hfd.out
          have h2 : fnd D x ≤ i := by
            rcases Nat.lt_or_ge i (fnd D x) with h3 | h3
            · exact absurd (HYE.out.trans e1) (fnd_first hlt h3)
            · exact h3
          have h3 : fnd D x = i := by omega
          unfold fndI
          rw [if_pos (by omega), h3])
        go_wp2_with fail
        go_ret
        exact ⟨by rw [hff.out]; rfl, Ext.trans hxA (Ext.trans hx hx6)⟩
      · go_wp2_with fail
        refine ⟨⟨i + 1, by simp, by omega, Lib.hid ?_, Ext.trans hx hx6⟩, by simp [intOf]; omega⟩
        have h1 := hfd.out
        rcases Nat.lt_or_ge i (fnd D x) with h3 | h3
        · exact h3
        · exfalso
          have h4 : fnd D x = i := by omega
          have h5 : D[fnd D x]'(by omega) = x := fnd_at (by omega)
          have h6 : D[i] = x := by rw [← h5]; congr 1; exact h4.symm
          have h7 := eqTw_true.2 (HYE.out.symm.trans h6)
          rw [HNB.out] at h7
          cases h7
    · have hd : decide (i < D.length) = false := decide_eq_false hlt
      have hff := Lib.hid (show fndI D x = -1 by have := hfd.out; have := fnd_le D x; unfold fndI; rw [if_neg (by omega)])
      go_wp2_with fail
      go_ret
      exact ⟨by rw [hff.out]; rfl, Ext.trans hxA hx⟩
set_option maxRecDepth 100000 in
set_option maxHeartbeats 4000000 in
/-- The document's Equal, of two tables. -/
theorem c_REqual {n1 n2 : Nat} {v1 v2 : Value} {r1 r2 : Int} {L1 L2 : List Rng} (bb : Bool) (w : World) (h1 : IsRef n1 w v1 r1 L1) (h2 : IsRef n2 w v2 r2 L2) (hb : bb = true ↔ r1 = r2 ∧ L1 = L2) (hl : L1.length ≤ 2000000) :
    Calls Try.prog 34 #[v1, v2] w fun e w' => e = .returned (.bool bb) ∧ Ext w w' := by
  obtain ⟨Y1, lv1, rfl, hY1, -, hrow1, -, -⟩ := h1
  obtain ⟨Y2, lv2, rfl, hY2, -, hrow2, -, -⟩ := h2
  have hrg1 := RgRow.of_own hrow1
  have hrg2 := RgRow.of_own hrow2
  have q1 : ∀ w', EOn (fun _ => True) w w' → w'.cell? ⟨Y1, 0 + 1, none⟩ = some (.int .i64 r1) := fun w' hx => hx.cell trivial (cell_blk hY1 1)
  have q2 : ∀ w', EOn (fun _ => True) w w' → w'.cell? ⟨Y2, 0 + 1, none⟩ = some (.int .i64 r2) := fun w' hx => hx.cell trivial (cell_blk hY2 1)
  have k1 : ∀ w', EOn (fun _ => True) w w' → w'.cell? ⟨Y1, 0, none⟩ = some lv1 := fun w' hx => hx.cell trivial (cell_blk hY1 0)
  have k2 : ∀ w', EOn (fun _ => True) w w' → w'.cell? ⟨Y2, 0, none⟩ = some lv2 := fun w' hx => hx.cell trivial (cell_blk hY2 0)
  obtain ⟨p1, cap1, rfl⟩ := own_slice hrow1
  obtain ⟨p2, cap2, rfl⟩ := own_slice hrow2
  have HB := Lib.hid hb
  clear hb hrow1 hrow2 hY1 hY2
  by_cases hr : r1 = r2
  · have hrb : (r1 == r2) = true := beq_iff_eq.2 hr
    have hbb : bb = true ↔ L1 = L2 := by
      rw [HB.out]
      exact ⟨fun h => h.2, fun h => ⟨hr, h⟩⟩
    have HBB := Lib.hid hbb
    clear hr hbb
    go_enter Try.func34, Try.ntmps34
    go_wp2_with fail
    refine wp_lex (fun _ => True) [true, true, true, true, true, true, true, true, true, true, true, true, true, true, true, true, true, true, false, true, true] (by kernel_rfl) (by kernel_rfl) ?_
    repeat first
      | refine wpG_move (by rfl) (by simp only [Act.eval, Array.getD_eq_getD_getElem?, List.getElem?_toArray, List.getElem?_cons_succ, List.getElem?_cons_zero, Option.getD_some]; try rfl) (by simp only [Act.put, List.setIfInBounds_toArray, List.set_cons_succ, List.set_cons_zero]; rfl) ?_
      | refine wpG_assign (by rfl) (by simp only [Act.eval, Array.getD_eq_getD_getElem?, List.getElem?_toArray, List.getElem?_cons_succ, List.getElem?_cons_zero, Option.getD_some]; try rfl) (by simp only [Act.put, List.setIfInBounds_toArray, List.set_cons_succ, List.set_cons_zero]; rfl) ?_
      | refine wpG_val (by rfl) (fun w' hx => (by go_simp; first | (go_bits; first | exact rfl | exact ⟨by omega, rfl⟩) | exact rfl | exact (if_neg (by omega)).trans rfl | exact ⟨by omega, rfl⟩)) (by simp only [Act.put, List.setIfInBounds_toArray, List.set_cons_succ, List.set_cons_zero]; rfl) ?_
      | refine wpG_no (by rfl) (by simp only [Act.put, List.setIfInBounds_toArray, List.set_cons_succ, List.set_cons_zero]; rfl) ?_
    clear q1 q2 k1 k2
    refine wpG_do (by rfl) (fun w3 hx3 K hK => ?_)
    go_wp2_with fail
    refine (c_Same _ _ L1 L2 bb w3 (hrg1.mono hx3) (hrg2.mono hx3) HBB.out hl).mono ?_
    rintro e w4 ⟨rfl, hx4⟩
    refine hK _ _ ⟨EOn.of_ext hx4, ?_⟩
    clear hK
    repeat first
      | refine wpG_move (by rfl) (by simp only [Act.eval, Array.getD_eq_getD_getElem?, List.getElem?_toArray, List.getElem?_cons_succ, List.getElem?_cons_zero, Option.getD_some]; try rfl) (by simp only [Act.put, List.setIfInBounds_toArray, List.set_cons_succ, List.set_cons_zero]; rfl) ?_
      | refine wpG_assign (by rfl) (by simp only [Act.eval, Array.getD_eq_getD_getElem?, List.getElem?_toArray, List.getElem?_cons_succ, List.getElem?_cons_zero, Option.getD_some]; try rfl) (by simp only [Act.put, List.setIfInBounds_toArray, List.set_cons_succ, List.set_cons_zero]; rfl) ?_
      | refine wpG_val (by rfl) (fun w' hx => (by go_simp; first | (go_bits; first | exact rfl | exact ⟨by omega, rfl⟩) | exact rfl | exact (if_neg (by omega)).trans rfl | exact ⟨by omega, rfl⟩)) (by simp only [Act.put, List.setIfInBounds_toArray, List.set_cons_succ, List.set_cons_zero]; rfl) ?_
      | refine wpG_no (by rfl) (by simp only [Act.put, List.setIfInBounds_toArray, List.set_cons_succ, List.set_cons_zero]; rfl) ?_
    refine wpG_end (fun w9 hx9 => wpList_nil (gQ_normal ?_))
    go_wp2_with fail
    go_ret
    exact ⟨rfl, Ext.trans (Ext.trans hx3 hx4) hx9⟩
  · have hrb : (r1 == r2) = false := beq_false_of_ne hr
    have hbf : bb = false := by
      cases bb
      · rfl
      · exact absurd (HB.out.1 rfl).1 hr
    subst hbf
    clear hr
    go_enter Try.func34, Try.ntmps34
    go_wp2_with fail
    refine wp_lex (fun _ => True) [true, true, true, true, true, true, true, true, true, true, true, true, true, true, true, true, true, true, true, true, true] (by kernel_rfl) (by kernel_rfl) ?_
    repeat first
      | refine wpG_move (by rfl) (by simp only [Act.eval, Array.getD_eq_getD_getElem?, List.getElem?_toArray, List.getElem?_cons_succ, List.getElem?_cons_zero, Option.getD_some]; try rfl) (by simp only [Act.put, List.setIfInBounds_toArray, List.set_cons_succ, List.set_cons_zero]; rfl) ?_
      | refine wpG_assign (by rfl) (by simp only [Act.eval, Array.getD_eq_getD_getElem?, List.getElem?_toArray, List.getElem?_cons_succ, List.getElem?_cons_zero, Option.getD_some]; try rfl) (by simp only [Act.put, List.setIfInBounds_toArray, List.set_cons_succ, List.set_cons_zero]; rfl) ?_
      | refine wpG_val (by rfl) (fun w' hx => (by go_simp; first | (go_bits; first | exact rfl | exact ⟨by omega, rfl⟩) | exact rfl | exact (if_neg (by omega)).trans rfl | exact ⟨by omega, rfl⟩)) (by simp only [Act.put, List.setIfInBounds_toArray, List.set_cons_succ, List.set_cons_zero]; rfl) ?_
      | refine wpG_no (by rfl) (by simp only [Act.put, List.setIfInBounds_toArray, List.set_cons_succ, List.set_cons_zero]; rfl) ?_
    refine wpG_end (fun w9 hx9 => wpList_nil (gQ_normal ?_))
    go_wp2_with fail
    go_ret
    exact ⟨rfl, hx9⟩
end Go.Proofs.Ytbbemipidkhmfaa
