/-
  The program's Map.
-/
import Derived.Test.YtbbemipidkhmfaaMapA
import Derived.Test.YtbbemipidkhmfaaRefK
import Derived.Test.YtbbemipidkhmfaaPlanC
import Derived.Test.YtbbemipidkhmfaaOrdM
namespace Go.Proofs.Ytbbemipidkhmfaa
open Go.RowKit Go.Maps Go.Shelf

/-- A class's new one. -/
def toOf (tl : List Int) (c : Int) : Int := (tl[c.toNat]?).getD 0
def remap (tl : List Int) (x : Rng) : Rng := ⟨x.lo, x.hi, toOf tl x.cl⟩
def badMap (tl : List Int) (rest : Int) (R : List Rng) : Bool := tl.any (fun c => !isCls c) || (decide (((tl.length : Nat) : Int) ≤ rest) || R.any (fun x => decide (((tl.length : Nat) : Int) ≤ x.cl)))
theorem rise_map {m : List Int} : ∀ {l : List Rng}, Rise l → (∀ x ∈ l, 0 ≤ (remap m x).cl ∧ (remap m x).cl ≤ 255) → Rise (l.map (remap m))
  | [], _, _ => trivial
  | x :: t, ⟨h1, h2, h3⟩, h => by
    refine ⟨⟨h1.1, h1.2.1, h1.2.2.1, h x (by simp)⟩, fun y hy => ?_, rise_map h3 fun y hy => h y (by simp [hy])⟩
    obtain ⟨z, hz, rfl⟩ := List.mem_map.1 hy
    exact h2 z hz
theorem rgCells_setCl (pre : List Rng) (x : Rng) (c : Int) (t : List Rng) : (rgCells (pre ++ x :: t)).set (pre.length * 3 + 2) (.int .i64 c) = rgCells (pre ++ ⟨x.lo, x.hi, c⟩ :: t) := by
  have e : ∀ y : Rng, rgCells (pre ++ y :: t) = rgCells pre ++ (rgV y ++ rgCells t) := fun y => by rw [rgCells_append]; rfl
  rw [e, e, List.set_append_right _ _ (by rw [rgCells_length]; omega), rgCells_length]
  congr 1
  rw [show pre.length * 3 + 2 - pre.length * 3 = 2 from by omega]
  rfl
set_option maxRecDepth 100000 in
set_option maxHeartbeats 8000000 in
theorem c_Map {T : Nat} {rest : Int} {f : Int → Int} {U : List (List Int)} {ix : List Nat} {ob oc ub uc : Nat} (tv : Value) (tl : List Int) (w : World) (h : Tab w T rest f U ix ob oc ub uc) (ht : IRow .i64 w tv tl) (hl : tl.length ≤ 2000000) :
    Calls Try.prog 29 #[.pointer (some ⟨T, 0, none⟩), tv] w fun e w' => Ext w w' ∧ ∃ R, RunsFrom f 0 1114112 R ∧
      ((badMap tl rest R = true ∧ e = .returned (.tuple #[.pointer none, .int .i64 30])) ∨
       (badMap tl rest R = false ∧ ∃ T', e = .returned (.tuple #[T', .int .i64 0]) ∧ IsTb w' T' (toOf tl rest) (clsOf (R.map (remap tl)) (toOf tl rest)))) := by
  obtain ⟨tp, tcap, rfl⟩ : ∃ p cap, tv = .slice p tl.length cap := by obtain ⟨p, cap, e, _⟩ := ht; exact ⟨p, cap, e⟩
  have hb := Boxed.new w 26 (.slice tp tl.length tcap)
  have hx := (Ext.refl w).alloc (.cells #[.slice tp tl.length tcap] 26)
  go_enter Try.func29, Try.ntmps29
  go_wp2_with fail
  refine (c_all _ (h.ext hx)).mono ?_
  rintro e w1 ⟨v1, R, rfl, hR, ho1, hx1⟩
  have hx01 := Ext.trans hx hx1
  have q0 := cell_blk (h.ext hx01).hT 0
  simp only [List.getElem?_toArray, List.getElem?_cons_succ, List.getElem?_cons_zero] at q0
  have hb1 := (hb.ext hx1).cell
  have HRUN := Lib.hid hR
  have hRl := hR.le
  clear hR
  obtain ⟨b1, hb1e⟩ : ∃ b, tl.any (fun c => !isCls c) = b := ⟨_, rfl⟩
  have HB1 := Lib.hid hb1e
  clear hb1e
  have htr := ht.mono hx01
  have k0 : ∀ w', EOn (fun _ => True) w1 w' → w'.cell? ⟨T, 0, none⟩ = _ := fun w' hx => hx.cell trivial q0
  have k1 : ∀ w', EOn (fun _ => True) w1 w' → w'.cell? ⟨w.heap.size, 0, none⟩ = _ := fun w' hx => hx.cell trivial hb1
  rcases Bool.eq_false_or_eq_true b1 with rfl | rfl
  · go_wp2_with fail
    refine wp_lex (fun _ => True) [true, false, true, true, true, true, true, true, true, true, true, true, true, true, true, true] (by kernel_rfl) (by kernel_rfl) ?_
    repeat first
      | refine wpG_move (by rfl) (by simp only [Act.eval, Array.getD_eq_getD_getElem?, List.getElem?_toArray, List.getElem?_cons_succ, List.getElem?_cons_zero, Option.getD_some]; try rfl) (by simp only [Act.put, List.setIfInBounds_toArray, List.set_cons_succ, List.set_cons_zero]; rfl) ?_
      | refine wpG_assign (by rfl) (by simp only [Act.eval, Array.getD_eq_getD_getElem?, List.getElem?_toArray, List.getElem?_cons_succ, List.getElem?_cons_zero, Option.getD_some]; try rfl) (by simp only [Act.put, List.setIfInBounds_toArray, List.set_cons_succ, List.set_cons_zero]; rfl) ?_
      | refine wpG_val (by rfl) (fun w' hx => (by go_simp; first | (go_bits; first | exact rfl | exact ⟨by omega, rfl⟩) | exact rfl | exact (if_neg (by omega)).trans rfl | exact ⟨by omega, rfl⟩)) (by simp only [Act.put, List.setIfInBounds_toArray, List.set_cons_succ, List.set_cons_zero]; rfl) ?_
      | refine wpG_no (by rfl) (by simp only [Act.put, List.setIfInBounds_toArray, List.set_cons_succ, List.set_cons_zero]; rfl) ?_
    refine wpG_do (by rfl) (fun w2 hx2 K hK => ?_)
    go_wp2_with fail
    refine (c_ContainsFuncI (.slice tp tl.length tcap) tl _ (fun c => !isCls c) w2 (htr.mono hx2) (c_notCls w2) (fun _ _ => by go_simp) hl).mono ?_
    rintro e w3 ⟨rfl, hx3⟩
    rw [HB1.out]
    refine hK _ _ ⟨EOn.of_ext hx3, ?_⟩
    have hx13 := Ext.trans hx2 hx3
    replace k0 := fun w' hx => k0 w' (EOn.trans (EOn.of_ext hx13) hx)
    replace k1 := fun w' hx => k1 w' (EOn.trans (EOn.of_ext hx13) hx)
    clear hK hx2 hx3
    repeat first
      | refine wpG_move (by rfl) (by simp only [Act.eval, Array.getD_eq_getD_getElem?, List.getElem?_toArray, List.getElem?_cons_succ, List.getElem?_cons_zero, Option.getD_some]; try rfl) (by simp only [Act.put, List.setIfInBounds_toArray, List.set_cons_succ, List.set_cons_zero]; rfl) ?_
      | refine wpG_assign (by rfl) (by simp only [Act.eval, Array.getD_eq_getD_getElem?, List.getElem?_toArray, List.getElem?_cons_succ, List.getElem?_cons_zero, Option.getD_some]; try rfl) (by simp only [Act.put, List.setIfInBounds_toArray, List.set_cons_succ, List.set_cons_zero]; rfl) ?_
      | refine wpG_val (by rfl) (fun w' hx => (by go_simp; first | (go_bits; first | exact rfl | exact ⟨by omega, rfl⟩) | exact rfl | exact (if_neg (by omega)).trans rfl | exact ⟨by omega, rfl⟩)) (by simp only [Act.put, List.setIfInBounds_toArray, List.set_cons_succ, List.set_cons_zero]; rfl) ?_
      | refine wpG_no (by rfl) (by simp only [Act.put, List.setIfInBounds_toArray, List.set_cons_succ, List.set_cons_zero]; rfl) ?_
    refine wpG_end (fun w9 hx9 => wpList_nil (gQ_normal ?_))
    have hbad : badMap tl rest R = true := by unfold badMap; rw [HB1.out]; rfl
    have HBAD := Lib.hid hbad
    clear hbad
    go_wp2_with fail
    exact bodyPost_ret (v := .tuple #[.pointer none, .int .i64 30]) (by simp [results, Try.results29, go_sem]) rfl ⟨Ext.trans hx01 (Ext.trans hx13 hx9), R, HRUN.out, .inl ⟨HBAD.out, rfl⟩⟩
  by_cases h2 : ((tl.length : Nat) : Int) ≤ rest
  · have hd2 : decide (((tl.length : Nat) : Int) ≤ rest) = true := decide_eq_true h2
    have hbad : badMap tl rest R = true := by unfold badMap; rw [HB1.out, hd2]; rfl
    have HBAD := Lib.hid hbad
    clear hbad
    go_wp2_with fail
    refine wp_lex (fun _ => True) [true, false, true, true, true, true, true, true, true, true, true, true, true, true, true, true] (by kernel_rfl) (by kernel_rfl) ?_
    repeat first
      | refine wpG_move (by rfl) (by simp only [Act.eval, Array.getD_eq_getD_getElem?, List.getElem?_toArray, List.getElem?_cons_succ, List.getElem?_cons_zero, Option.getD_some]; try rfl) (by simp only [Act.put, List.setIfInBounds_toArray, List.set_cons_succ, List.set_cons_zero]; rfl) ?_
      | refine wpG_assign (by rfl) (by simp only [Act.eval, Array.getD_eq_getD_getElem?, List.getElem?_toArray, List.getElem?_cons_succ, List.getElem?_cons_zero, Option.getD_some]; try rfl) (by simp only [Act.put, List.setIfInBounds_toArray, List.set_cons_succ, List.set_cons_zero]; rfl) ?_
      | refine wpG_val (by rfl) (fun w' hx => (by go_simp; first | (go_bits; first | exact rfl | exact ⟨by omega, rfl⟩) | exact rfl | exact (if_neg (by omega)).trans rfl | exact ⟨by omega, rfl⟩)) (by simp only [Act.put, List.setIfInBounds_toArray, List.set_cons_succ, List.set_cons_zero]; rfl) ?_
      | refine wpG_no (by rfl) (by simp only [Act.put, List.setIfInBounds_toArray, List.set_cons_succ, List.set_cons_zero]; rfl) ?_
    refine wpG_do (by rfl) (fun w2 hx2 K hK => ?_)
    go_wp2_with fail
    refine (c_ContainsFuncI (.slice tp tl.length tcap) tl _ (fun c => !isCls c) w2 (htr.mono hx2) (c_notCls w2) (fun _ _ => by go_simp) hl).mono ?_
    rintro e w3 ⟨rfl, hx3⟩
    rw [HB1.out]
    refine hK _ _ ⟨EOn.of_ext hx3, ?_⟩
    have hx13 := Ext.trans hx2 hx3
    replace k0 := fun w' hx => k0 w' (EOn.trans (EOn.of_ext hx13) hx)
    replace k1 := fun w' hx => k1 w' (EOn.trans (EOn.of_ext hx13) hx)
    clear hK hx2 hx3
    repeat first
      | refine wpG_move (by rfl) (by simp only [Act.eval, Array.getD_eq_getD_getElem?, List.getElem?_toArray, List.getElem?_cons_succ, List.getElem?_cons_zero, Option.getD_some]; try rfl) (by simp only [Act.put, List.setIfInBounds_toArray, List.set_cons_succ, List.set_cons_zero]; rfl) ?_
      | refine wpG_assign (by rfl) (by simp only [Act.eval, Array.getD_eq_getD_getElem?, List.getElem?_toArray, List.getElem?_cons_succ, List.getElem?_cons_zero, Option.getD_some]; try rfl) (by simp only [Act.put, List.setIfInBounds_toArray, List.set_cons_succ, List.set_cons_zero]; rfl) ?_
      | refine wpG_val (by rfl) (fun w' hx => (by go_simp; first | (go_bits; first | exact rfl | exact ⟨by omega, rfl⟩) | exact rfl | exact (if_neg (by omega)).trans rfl | exact ⟨by omega, rfl⟩)) (by simp only [Act.put, List.setIfInBounds_toArray, List.set_cons_succ, List.set_cons_zero]; rfl) ?_
      | refine wpG_no (by rfl) (by simp only [Act.put, List.setIfInBounds_toArray, List.set_cons_succ, List.set_cons_zero]; rfl) ?_
    refine wpG_end (fun w9 hx9 => wpList_nil (gQ_normal ?_))
    go_wp2_with fail
    exact bodyPost_ret (v := .tuple #[.pointer none, .int .i64 30]) (by simp [results, Try.results29, go_sem]) rfl ⟨Ext.trans hx01 (Ext.trans hx13 hx9), R, HRUN.out, .inl ⟨HBAD.out, rfl⟩⟩
  have hd2 : decide (((tl.length : Nat) : Int) ≤ rest) = false := decide_eq_false h2
  obtain ⟨b3, hb3⟩ : ∃ b, R.any (fun x => decide (((tl.length : Nat) : Int) ≤ x.cl)) = b := ⟨_, rfl⟩
  have HB3 := Lib.hid hb3
  have hbad : badMap tl rest R = b3 := by unfold badMap; rw [HB1.out, hd2, hb3]; rfl
  have HBAD := Lib.hid hbad
  clear hb3 hbad
  go_wp2_with fail
  refine wp_lex (fun _ => True) [true, false, true, true, true, true, true, true, true, true, true, true, true, true, false, true] (by kernel_rfl) (by kernel_rfl) ?_
  repeat first
    | refine wpG_move (by rfl) (by simp only [Act.eval, Array.getD_eq_getD_getElem?, List.getElem?_toArray, List.getElem?_cons_succ, List.getElem?_cons_zero, Option.getD_some]; try rfl) (by simp only [Act.put, List.setIfInBounds_toArray, List.set_cons_succ, List.set_cons_zero]; rfl) ?_
    | refine wpG_assign (by rfl) (by simp only [Act.eval, Array.getD_eq_getD_getElem?, List.getElem?_toArray, List.getElem?_cons_succ, List.getElem?_cons_zero, Option.getD_some]; try rfl) (by simp only [Act.put, List.setIfInBounds_toArray, List.set_cons_succ, List.set_cons_zero]; rfl) ?_
    | refine wpG_val (by rfl) (fun w' hx => (by go_simp; first | (go_bits; first | exact rfl | exact ⟨by omega, rfl⟩) | exact rfl | exact (if_neg (by omega)).trans rfl | exact ⟨by omega, rfl⟩)) (by simp only [Act.put, List.setIfInBounds_toArray, List.set_cons_succ, List.set_cons_zero]; rfl) ?_
    | refine wpG_no (by rfl) (by simp only [Act.put, List.setIfInBounds_toArray, List.set_cons_succ, List.set_cons_zero]; rfl) ?_
  refine wpG_do (by rfl) (fun w2 hx2 K hK => ?_)
  go_wp2_with fail
  refine (c_ContainsFuncI (.slice tp tl.length tcap) tl _ (fun c => !isCls c) w2 (htr.mono hx2) (c_notCls w2) (fun _ _ => by go_simp) hl).mono ?_
  rintro e w3 ⟨rfl, hx3⟩
  rw [HB1.out]
  refine hK _ _ ⟨EOn.of_ext hx3, ?_⟩
  have hx13 := Ext.trans hx2 hx3
  replace k0 := fun w' hx => k0 w' (EOn.trans (EOn.of_ext hx13) hx)
  replace k1 := fun w' hx => k1 w' (EOn.trans (EOn.of_ext hx13) hx)
  clear hK hx2 hx3
  repeat first
    | refine wpG_move (by rfl) (by simp only [Act.eval, Array.getD_eq_getD_getElem?, List.getElem?_toArray, List.getElem?_cons_succ, List.getElem?_cons_zero, Option.getD_some]; try rfl) (by simp only [Act.put, List.setIfInBounds_toArray, List.set_cons_succ, List.set_cons_zero]; rfl) ?_
    | refine wpG_assign (by rfl) (by simp only [Act.eval, Array.getD_eq_getD_getElem?, List.getElem?_toArray, List.getElem?_cons_succ, List.getElem?_cons_zero, Option.getD_some]; try rfl) (by simp only [Act.put, List.setIfInBounds_toArray, List.set_cons_succ, List.set_cons_zero]; rfl) ?_
    | refine wpG_val (by rfl) (fun w' hx => (by go_simp; first | (go_bits; first | exact rfl | exact ⟨by omega, rfl⟩) | exact rfl | exact (if_neg (by omega)).trans rfl | exact ⟨by omega, rfl⟩)) (by simp only [Act.put, List.setIfInBounds_toArray, List.set_cons_succ, List.set_cons_zero]; rfl) ?_
    | refine wpG_no (by rfl) (by simp only [Act.put, List.setIfInBounds_toArray, List.set_cons_succ, List.set_cons_zero]; rfl) ?_
  refine wpG_do (by rfl) (fun w4 hx4 K hK => ?_)
  go_wp2_with fail
  refine (c_ContainsFunc v1 R _ _ _ w4 ((RgRow.of_own ho1).mono (Ext.trans hx13 hx4)) (c_tooFar w.heap.size tp tl.length tcap w4 (hb.ext (Ext.trans hx1 (Ext.trans hx13 hx4)))) (fun _ _ => by go_simp) (by omega)).mono ?_
  rintro e w5 ⟨rfl, hx5⟩
  rw [HB3.out]
  refine hK _ _ ⟨EOn.of_ext hx5, ?_⟩
  clear hK k1
  have hx15 := Ext.trans (Ext.trans hx13 hx4) hx5
  clear hx13 hx4 hx5
  repeat first
    | refine wpG_move (by rfl) (by simp only [Act.eval, Array.getD_eq_getD_getElem?, List.getElem?_toArray, List.getElem?_cons_succ, List.getElem?_cons_zero, Option.getD_some]; try rfl) (by simp only [Act.put, List.setIfInBounds_toArray, List.set_cons_succ, List.set_cons_zero]; rfl) ?_
    | refine wpG_assign (by rfl) (by simp only [Act.eval, Array.getD_eq_getD_getElem?, List.getElem?_toArray, List.getElem?_cons_succ, List.getElem?_cons_zero, Option.getD_some]; try rfl) (by simp only [Act.put, List.setIfInBounds_toArray, List.set_cons_succ, List.set_cons_zero]; rfl) ?_
    | refine wpG_val (by rfl) (fun w' hx => (by go_simp; first | (go_bits; first | exact rfl | exact ⟨by omega, rfl⟩) | exact rfl | exact (if_neg (by omega)).trans rfl | exact ⟨by omega, rfl⟩)) (by simp only [Act.put, List.setIfInBounds_toArray, List.set_cons_succ, List.set_cons_zero]; rfl) ?_
    | refine wpG_no (by rfl) (by simp only [Act.put, List.setIfInBounds_toArray, List.set_cons_succ, List.set_cons_zero]; rfl) ?_
  refine wpG_end (fun w6 hx6 => wpList_nil (gQ_normal ?_))
  have hx16 := Ext.trans hx15 hx6
  clear hx15 hx6 k0 q0 hb1
  rcases Bool.eq_false_or_eq_true b3 with rfl | rfl
  · go_wp2_with fail
    exact bodyPost_ret (v := .tuple #[.pointer none, .int .i64 30]) (by simp [results, Try.results29, go_sem]) rfl ⟨Ext.trans hx01 hx16, R, HRUN.out, .inl ⟨HBAD.out, rfl⟩⟩
  obtain ⟨p1, cap1, rfl⟩ := own_slice ho1
  have ho7 := ownsRow_ext ho1 hx16
  have hb7 := (hb.ext hx1).ext hx16
  have hx07 := Ext.trans hx01 hx16
  have hany : Hid (∀ x ∈ R, x.cl < (tl.length : Nat)) := Lib.hid fun x hx => by
    have := HB3.out
    rw [List.any_eq_false] at this
    have := this x hx
    simp at this
    exact this
  have hcls : Hid (∀ c ∈ tl, 0 ≤ c ∧ c ≤ 255) := Lib.hid fun c hc => by
    have := HB1.out
    rw [List.any_eq_false] at this
    have := this c hc
    simpa [isCls] using this
  have HFB := Lib.hid h.cls
  have hr0 := h.r0
  have hT7 := h.ext hx07
  have hszR : w.heap.size + 1 ≤ w6.heap.size := by have := hb7; have := blk_lt hb7; omega
  clear ho1 hb hx hx1 hx01 hx16 htr
  go_wp2_with fail
  rw [show (w.alloc (.cells #[.slice tp tl.length tcap] 26)).heap.size = w.heap.size + 1 from by simp] at ho7
  go_loopw [7, 30] (fun _ kv W => ∃ (i : Nat), kv = .int .i64 (i : Nat) ∧ i ≤ R.length ∧ W.ownsRow (w.heap.size + 1) 32 3 (.slice p1 R.length cap1) R.length (rgCells ((R.take i).map (remap tl) ++ R.drop i)) ∧ Boxed W w.heap.size 26 (.slice tp tl.length tcap) ∧ w.heap.size + 1 ≤ W.heap.size ∧ Ext w W) (fun _ kv _ => R.length + 1 - (intOf kv).toNat)
  case atStart => exact ⟨0, rfl, by omega, by simpa using ho7, hb7, hszR, hx07⟩
  case round =>
    clear ho7 hb7 hx07 hT7 hszR
    obtain ⟨i, rfl, hi, hrow, hb, hszR, hx⟩ := hrel
    have hb1 := hb.cell
    by_cases hlt : i < R.length
    · have hd : decide (i < R.length) = true := decide_eq_true hlt
      have j1 : ((i : Nat) : Int) < (R.length : Nat) := by omega
      obtain ⟨g, cap', e⟩ := ownsRow_pos hrow (by omega)
      cases e
      have hdr := List.drop_eq_getElem_cons hlt
      have htk := List.take_succ_eq_append_getElem hlt
      have hxm := List.getElem_mem hlt
      have hval := HRUN.out.val _ hxm
      have hfar := hany.out _ hxm
      obtain ⟨x, hxe⟩ : ∃ x, R[i] = x := ⟨_, rfl⟩
      rw [hxe] at hdr htk hval hfar
      rw [hdr] at hrow
      obtain ⟨v1, v2, v3, v4⟩ := hval
      have hcl := HFB.out x.lo (by omega) (by omega)
      rw [v4 x.lo (Int.le_refl _) v2] at hcl
      have hpl : ((R.take i).map (remap tl)).length = i := by rw [List.length_map, List.length_take]; omega
      obtain ⟨c0, c1, c2⟩ := rgCells_get ((R.take i).map (remap tl)) x (R.drop (i + 1))
      rw [hpl] at c0 c1 c2
      have a3 := (hrow.cellAt (i * 3 + 2) (show i * 3 + 2 < R.length * 3 by omega)).trans c2
      obtain ⟨k, hk⟩ : ∃ k : Nat, x.cl = (k : Nat) := ⟨x.cl.toNat, by omega⟩
      obtain ⟨y, hy⟩ : ∃ y, toOf tl x.cl = y := ⟨_, rfl⟩
      have hkl : k < tl.length := by omega
      have hkI : ((k : Nat) : Int) < (tl.length : Nat) := by omega
      have hyk : tl[k] = y := by rw [← hy, hk]; simp [toOf, hkl]
      obtain ⟨b2, o2, rfl, hc2⟩ := (ht.mono hx).at (by intro e; rw [e] at hkl; simp at hkl)
      have d1 := hc2 k hkl
      rw [hyk] at d1
      rw [hk] at a3
      have eq1 : (rgCells ((R.take i).map (remap tl) ++ x :: R.drop (i + 1))).set (i * 3 + 2) (.int .i64 y) = rgCells ((R.take (i + 1)).map (remap tl) ++ R.drop (i + 1)) := by
        rw [htk, List.map_append, List.append_assoc]
        have := rgCells_setCl ((R.take i).map (remap tl)) x y (R.drop (i + 1))
        rw [hpl] at this
        rw [this, ← hy]
        rfl
      have EQ1 := Lib.hid eq1
      have hfz := Lib.hid True.intro
      have n2 := Lib.hid True.intro
      clear hdr htk hxm v1 v2 v3 v4 hxe hcl hpl c0 c1 c2 hk hy hyk hc2 eq1 n2 hfz hfar
      have k1 : ∀ w', EOn (fun _ => True) wr w' → w'.cell? ⟨w.heap.size, 0, none⟩ = _ := fun w' hx => hx.cell trivial hb1
      have k2 : ∀ w', EOn (fun _ => True) wr w' → w'.cell? ⟨g, i * 3 + 2, none⟩ = _ := fun w' hx => hx.cell trivial a3
      have k3 : ∀ w', EOn (fun _ => True) wr w' → w'.cell? ⟨b2, o2 + k, none⟩ = _ := fun w' hx => hx.cell trivial d1
      go_wp2_with fail
      refine wp_lex (fun _ => True) [true, true, true, true, true, true, true, true, true, true] (by kernel_rfl) (by kernel_rfl) ?_
      repeat first
        | refine wpG_move (by rfl) (by simp only [Act.eval, Array.getD_eq_getD_getElem?, List.getElem?_toArray, List.getElem?_cons_succ, List.getElem?_cons_zero, Option.getD_some]; try rfl) (by simp only [Act.put, List.setIfInBounds_toArray, List.set_cons_succ, List.set_cons_zero]; rfl) ?_
        | refine wpG_assign (by rfl) (by simp only [Act.eval, Array.getD_eq_getD_getElem?, List.getElem?_toArray, List.getElem?_cons_succ, List.getElem?_cons_zero, Option.getD_some]; try rfl) (by simp only [Act.put, List.setIfInBounds_toArray, List.set_cons_succ, List.set_cons_zero]; rfl) ?_
        | refine wpG_val (by rfl) (fun w' hx => (by go_simp; first | (go_bits; first | exact rfl | exact ⟨by omega, rfl⟩) | exact rfl | exact (if_neg (by omega)).trans rfl | exact ⟨by omega, rfl⟩)) (by simp only [Act.put, List.setIfInBounds_toArray, List.set_cons_succ, List.set_cons_zero]; rfl) ?_
        | refine wpG_no (by rfl) (by simp only [Act.put, List.setIfInBounds_toArray, List.set_cons_succ, List.set_cons_zero]; rfl) ?_
      refine wpG_end (fun w5 hx5 => ?_)
      have hrow5 := ownsRow_ext hrow hx5
      have hfz := hrow5.frozenAt (i * 3 + 2)
      have a5 := hx5.cell a3
      obtain ⟨n1, n2⟩ := hrow5.stored (i * 3 + 2) (.int .i64 y)
      rw [EQ1.out] at n1
      have hx05 := Ext.trans hx hx5
      have hsz5 : w.heap.size + 1 ≤ w5.heap.size := Nat.le_trans hszR hx5.sz
      have hxn : Ext w (w5.setCell ⟨g, i * 3 + 2, none⟩ (.int .i64 y)) := Below.grown hx05 n2 (by omega) (fun k e => by cases e; have := (hrow5.lt g rfl).1; omega)
      have hbn : Boxed (w5.setCell ⟨g, i * 3 + 2, none⟩ (.int .i64 y)) w.heap.size 26 (.slice (some ⟨b2, o2, none⟩) tl.length tcap) := (n2.block _ (by omega) (fun e => by have h := (hrow5.lt _ e.symm).1; omega)).trans (hb.ext hx5)
      have hszn : w.heap.size + 1 ≤ (w5.setCell ⟨g, i * 3 + 2, none⟩ (.int .i64 y)).heap.size := Nat.le_trans hsz5 n2.size
      clear n2 hrow hrow5 hb hb1 k1 k2 k3 hx5 hx a3
      go_wp2_with fail
      refine gQ_normal ?_
      go_wp2_with fail
      go_roundw
      case rel => exact ⟨i + 1, by simp, by omega, n1, hbn, hszn, hxn⟩
      case measure => simp [intOf]; omega
    · have hd : decide (i < R.length) = false := decide_eq_false hlt
      obtain rfl : i = R.length := by omega
      rw [List.take_length, List.drop_length, List.append_nil] at hrow
      have hT := h.ext hx
      have q0 := cell_blk hT.hT 0
      simp only [List.getElem?_toArray, List.getElem?_cons_succ, List.getElem?_cons_zero] at q0
      obtain ⟨rk, hrk⟩ : ∃ k : Nat, rest = (k : Nat) := ⟨rest.toNat, by omega⟩
      have hrl : rk < tl.length := by omega
      have hrI : ((rk : Nat) : Int) < (tl.length : Nat) := by omega
      obtain ⟨nr, hnr⟩ : ∃ y, toOf tl rest = y := ⟨_, rfl⟩
      have hrv : tl[rk] = nr := by rw [← hnr, hrk]; simp [toOf, hrl]
      have hnr0 := hcls.out _ (List.getElem_mem hrl)
      rw [hrv] at hnr0
      obtain ⟨b2, o2, rfl, hc2⟩ := (ht.mono hx).at (by intro e; rw [e] at hrl; simp at hrl)
      have d1 := hc2 rk hrl
      rw [hrv] at d1
      rw [hrk] at q0
      have hrise : Rise (R.map (remap tl)) := rise_map (by
        have := (HRUN.out.asc (fun _ => true) HFB.out (by omega)).rise (by omega)
        rw [List.filter_eq_self.2 (by simp)] at this
        exact this.1) fun x hx => by
        have h1 := HRUN.out.val x hx
        have h2 := HFB.out x.lo (by omega) (by omega)
        rw [h1.2.2.2 x.lo (Int.le_refl _) h1.2.1] at h2
        have h3 := hany.out x hx
        have h4 : x.cl.toNat < tl.length := by omega
        have : toOf tl x.cl = tl[x.cl.toNat] := by simp [toOf, h4]
        show 0 ≤ toOf tl x.cl ∧ toOf tl x.cl ≤ 255
        rw [this]
        exact hcls.out _ (List.getElem_mem h4)
      have HRISE := Lib.hid hrise
      have HNR := Lib.hid hnr
      have hrg : RgRow wr (.slice p1 R.length cap1) (R.map (remap tl)) := RgRow.of_own (by rw [List.length_map]; exact hrow)
      have k0 : ∀ w', EOn (fun _ => True) wr w' → w'.cell? ⟨T, 0, none⟩ = _ := fun w' hx => hx.cell trivial q0
      have k1 : ∀ w', EOn (fun _ => True) wr w' → w'.cell? ⟨w.heap.size, 0, none⟩ = _ := fun w' hx => hx.cell trivial hb1
      have k3 : ∀ w', EOn (fun _ => True) wr w' → w'.cell? ⟨b2, o2 + rk, none⟩ = _ := fun w' hx => hx.cell trivial d1
      have HRK := Lib.hid hrk
      clear hrise hc2 hrv hrow hT hrk hnr q0 hb1 d1
      go_wp2_with fail
      refine wp_lex (fun _ => True) [true, true, true, true, true, true, true, true, false, true, true] (by kernel_rfl) (by kernel_rfl) ?_
      repeat first
        | refine wpG_move (by rfl) (by simp only [Act.eval, Array.getD_eq_getD_getElem?, List.getElem?_toArray, List.getElem?_cons_succ, List.getElem?_cons_zero, Option.getD_some]; try rfl) (by simp only [Act.put, List.setIfInBounds_toArray, List.set_cons_succ, List.set_cons_zero]; rfl) ?_
        | refine wpG_assign (by rfl) (by simp only [Act.eval, Array.getD_eq_getD_getElem?, List.getElem?_toArray, List.getElem?_cons_succ, List.getElem?_cons_zero, Option.getD_some]; try rfl) (by simp only [Act.put, List.setIfInBounds_toArray, List.set_cons_succ, List.set_cons_zero]; rfl) ?_
        | refine wpG_val (by rfl) (fun w' hx => (by go_simp; first | (go_bits; first | exact rfl | exact ⟨by omega, rfl⟩) | exact rfl | exact (if_neg (by omega)).trans rfl | exact ⟨by omega, rfl⟩)) (by simp only [Act.put, List.setIfInBounds_toArray, List.set_cons_succ, List.set_cons_zero]; rfl) ?_
        | refine wpG_no (by rfl) (by simp only [Act.put, List.setIfInBounds_toArray, List.set_cons_succ, List.set_cons_zero]; rfl) ?_
      refine wpG_do (by rfl) (fun w8 hx8 K hK => ?_)
      go_wp2_with fail
      refine (c_of _ (R.map (remap tl)) nr w8 (hrg.mono hx8) HRISE.out hnr0.1 hnr0.2).mono ?_
      rintro e w9 ⟨T', rfl, ⟨tb, mf, fb, ms, U', ix', cs, hixl, hof⟩, hx9⟩
      obtain ⟨ob', oc', ub', uc', htab'⟩ := hof.tab hixl hnr0
      refine hK _ _ ⟨EOn.of_ext hx9, ?_⟩
      clear hK hof k0 k1 k3
      repeat first
        | refine wpG_move (by rfl) (by simp only [Act.eval, Array.getD_eq_getD_getElem?, List.getElem?_toArray, List.getElem?_cons_succ, List.getElem?_cons_zero, Option.getD_some]; try rfl) (by simp only [Act.put, List.setIfInBounds_toArray, List.set_cons_succ, List.set_cons_zero]; rfl) ?_
        | refine wpG_assign (by rfl) (by simp only [Act.eval, Array.getD_eq_getD_getElem?, List.getElem?_toArray, List.getElem?_cons_succ, List.getElem?_cons_zero, Option.getD_some]; try rfl) (by simp only [Act.put, List.setIfInBounds_toArray, List.set_cons_succ, List.set_cons_zero]; rfl) ?_
        | refine wpG_val (by rfl) (fun w' hx => (by go_simp; first | (go_bits; first | exact rfl | exact ⟨by omega, rfl⟩) | exact rfl | exact (if_neg (by omega)).trans rfl | exact ⟨by omega, rfl⟩)) (by simp only [Act.put, List.setIfInBounds_toArray, List.set_cons_succ, List.set_cons_zero]; rfl) ?_
        | refine wpG_no (by rfl) (by simp only [Act.put, List.setIfInBounds_toArray, List.set_cons_succ, List.set_cons_zero]; rfl) ?_
      refine wpG_end (fun w10 hx10 => wpList_nil (gQ_normal ?_))
      go_wp2_with fail
      exact bodyPost_ret (v := .tuple #[.pointer (some ⟨T', 0, none⟩), .int .i64 0]) (by simp [results, Try.results29, go_sem]) rfl ⟨Ext.trans hx (Ext.trans hx8 (Ext.trans hx9 hx10)), R, HRUN.out, .inr ⟨HBAD.out, _, rfl, by rw [HNR.out]; exact ⟨T', U', ix', ob', oc', ub', uc', rfl, htab'.ext hx10⟩⟩⟩
end Go.Proofs.Ytbbemipidkhmfaa
