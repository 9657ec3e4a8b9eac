/-
  Two nodes one behind the other.
-/
import Derived.Test.YtohpekbooapcjaaDoorWalkG
import Derived.Test.YtohpekbooapcjaaDoorWalkH
namespace Go.Proofs.YtohpekbooapcjaaDoor
open Go.RowKit Go.Rp

theorem IsNode.deep_le {w : World} {v : Value} {t : T} (hn : IsNode w v t) (hs : t.text.size ≤ 1099511627776) : t.deep ≤ 83 := by
  have h := hn.flat.2
  apply Decidable.byContradiction
  intro hd
  have h2 : 2 ^ 42 ≤ 2 ^ (t.deep / 2) := Nat.pow_le_pow_right (by omega) (by omega)
  have h3 : (2 : Nat) ^ 42 = 4398046511104 := by decide
  omega

/-- 'balanced': of two nodes of which one is deeper by two at most. -/
theorem c_balanced (va vb : Value) (ta tb : T) (w : World) (hA : IsNode w va ta) (hB : IsNode w vb tb) (h1 : ta.deep ≤ tb.deep + 2) (h2 : tb.deep ≤ ta.deep + 2)
    (hs : ta.text.size + tb.text.size ≤ 1099511627776) :
    Calls Tryd.prog 61 #[va, vb] w fun e w' => ∃ v t, e = .returned v ∧ IsNode w' v t ∧ t.text = ta.text ++ tb.text ∧ max ta.deep tb.deep ≤ t.deep ∧ t.deep ≤ max ta.deep tb.deep + 1 ∧ Ext w w' ∧ (ta.deep ≤ tb.deep + 1 → tb.deep ≤ ta.deep + 1 → t.deep = max ta.deep tb.deep + 1) := by
  have key : ∀ (ta tb : T) (e : Ending) (w' : World), Joined w ta tb e w' → (ta.deep ≤ tb.deep + 1 → tb.deep ≤ ta.deep + 1 → False) → ∃ v t, e = .returned v ∧ IsNode w' v t ∧ t.text = ta.text ++ tb.text ∧ max ta.deep tb.deep ≤ t.deep ∧ t.deep ≤ max ta.deep tb.deep + 1 ∧ Ext w w' ∧ (ta.deep ≤ tb.deep + 1 → tb.deep ≤ ta.deep + 1 → t.deep = max ta.deep tb.deep + 1) := by
    rintro ta tb e w' ⟨v, t, e1, e2, e3, e4, e5, e6⟩ hf
    exact ⟨v, t, e1, e2, e3, e4, e5, e6, fun k1 k2 => (hf k1 k2).elim⟩
  have dA := hA.deep_le (by omega)
  have dB := hB.deep_le (by omega)
  by_cases c1 : tb.deep + 1 < ta.deep
  · have pB := tb.deep_pos
    obtain ⟨blk, vx, vy, x, y, rfl, rfl, hX, hY, g1, g2, hc⟩ := hA.inv_br (by omega)
    simp only [T.deep] at h1 h2 dA c1
    simp only [T.text, ByteArray.size_append] at hs
    by_cases c2 : y.deep ≤ x.deep
    · refine (bal_1 blk vx vy vb x y tb w hX hY hB hc (by omega) c2 (by omega) (by omega) (by omega)).mono fun e w' h => key _ _ e w' h (fun k _ => ?_)
      simp only [T.deep] at k; omega
    · obtain ⟨bl2, vp, vq, p, q, rfl, rfl, hP, hQ, k1, k2, hc2⟩ := hY.inv_br (by omega)
      simp only [T.deep] at h1 h2 dA c1 c2 g1 g2
      simp only [T.text, ByteArray.size_append] at hs
      refine (bal_2 blk bl2 vx vp vq vb x p q tb w hX hP hQ hB hc hc2 (by simp only [T.deep]; omega) (by omega) k1 k2 (by omega) (by omega)).mono fun e w' h => key _ _ e w' h (fun k _ => ?_)
      simp only [T.deep] at k; omega
  · by_cases c2 : ta.deep + 1 < tb.deep
    · have pA := ta.deep_pos
      obtain ⟨blk, vx, vy, x, y, rfl, rfl, hX, hY, g1, g2, hc⟩ := hB.inv_br (by omega)
      simp only [T.deep] at h1 h2 dB c2
      simp only [T.text, ByteArray.size_append] at hs
      by_cases c3 : x.deep ≤ y.deep
      · refine (bal_3 blk vx vy va x y ta w hX hY hA hc (by omega) c3 (by omega) (by omega) (by omega)).mono fun e w' h => key _ _ e w' h (fun _ k => ?_)
        simp only [T.deep] at k; omega
      · obtain ⟨bl2, vp, vq, p, q, rfl, rfl, hP, hQ, k1, k2, hc2⟩ := hX.inv_br (by omega)
        simp only [T.deep] at h1 h2 dB c2 c3 g1 g2
        simp only [T.text, ByteArray.size_append] at hs
        refine (bal_4 blk bl2 vp vq vy va p q y ta w hP hQ hY hA hc hc2 (by simp only [T.deep]; omega) (by omega) k1 k2 (by omega) (by omega)).mono fun e w' h => key _ _ e w' h (fun _ k => ?_)
        simp only [T.deep] at k; omega
    · refine (bal_5 va vb ta tb w hA hB (by omega) (by omega) hs (by omega)).mono fun e w' h => ?_
      obtain ⟨v, t, e1, e2, e3, e4, e5⟩ := h
      exact ⟨v, t, e1, e2, e3, by omega, by omega, e5, fun _ _ => e4⟩

/-- Is a tree a leaf; its text then. -/
def isLeaf : T → Bool
  | .leaf _ => true
  | .br _ _ => false
def leafText : T → ByteArray
  | .leaf s => s
  | .br _ _ => ⟨#[]⟩
theorem ta_node {w : World} {v : Value} {t : T} (hn : IsNode w v t) (w' : World) : (Instr.typeAssert v 61 92 true).run Tryd.prog w' = .ok (.tuple #[.string (leafText t), .bool (isLeaf t)]) w' := by
  cases hn with
  | leaf s h1 h2 => exact ta_leaf s w'
  | br blk va vb a b ha hb hd hc => exact ta_no _ w'
theorem leaf_deep {t : T} (h : isLeaf t = true) : t = .leaf (leafText t) := by cases t with
  | leaf s => rfl
  | br a b => simp [isLeaf] at h
theorem leaf_size {w : World} {v : Value} {t : T} (hn : IsNode w v t) : (leafText t).size ≤ 256 := by
  cases hn with
  | leaf s h1 h2 => exact h2
  | br blk va vb a b ha hb hd hc => exact Nat.zero_le 256
theorem eql_nil (T0 : TypeId) (x : Value) (w : World) : (binOp .eql 61 (.iface T0 x) .nilIface).run Tryd.prog w = .ok (.bool false) w := by kernel_rfl

set_option maxRecDepth 100000 in
set_option maxHeartbeats 2000000 in
/-- 'join' of two leaves that fit one piece. -/
theorem join_3 (sa sb : ByteArray) (w : World) (h1 : 0 < sa.size) (h2 : 0 < sb.size) (h : sa.size + sb.size ≤ 256) :
    Calls Tryd.prog 51 #[.iface 92 (.string sa), .iface 92 (.string sb)] w (Joined w (.leaf sa) (.leaf sb)) := by
  go_enter Tryd.func51, Tryd.ntmps51
  go_wp2_with fail
  exact ret_one rfl rfl rfl ⟨_, .leaf (sa ++ sb), rfl, .leaf _ (by rw [ByteArray.size_append]; omega) (by rw [ByteArray.size_append]; omega), rfl, by simp [T.deep], by simp [T.deep], Ext.refl w⟩

set_option maxRecDepth 100000 in
set_option maxHeartbeats 4000000 in
/-- 'join' of two that are about as deep. -/
theorem join_7 (va vb : Value) (ta tb : T) (w : World) (hA : IsNode w va ta) (hB : IsNode w vb tb) (h1 : ta.deep ≤ tb.deep + 1) (h2 : tb.deep ≤ ta.deep + 1)
    (hf : ¬ (isLeaf ta = true ∧ isLeaf tb = true ∧ (leafText ta).size + (leafText tb).size ≤ 256)) (hs : ta.text.size + tb.text.size ≤ 1099511627776) :
    Calls Tryd.prog 51 #[va, vb] w (Joined w ta tb) := by
  have dA := hA.deep_le (by omega)
  have dB := hB.deep_le (by omega)
  obtain ⟨Tb, xb, rfl⟩ := hB.iface
  obtain ⟨Ta, xa, rfl⟩ := hA.iface
  have qa := ta_node hA
  have qb := ta_node hB
  have za := leaf_size hA
  have zb := leaf_size hB
  generalize leafText ta = sa at qa hf za
  generalize leafText tb = sb at qb hf zb
  generalize isLeaf ta = la at qa hf
  generalize isLeaf tb = lb at qb hf
  have hfit : la = true → lb = true → 256 < sa.size + sb.size := fun k1 k2 => by
    apply Decidable.byContradiction
    intro k3
    exact hf ⟨k1, k2, by omega⟩
  clear hf
  cases la <;> cases lb
  case true.true =>
    have hfit := hfit rfl rfl
    go_enter Tryd.func51, Tryd.ntmps51
    go_wp2_with (first
      | (refine upon_depth hA ?_; go_simp)
      | (refine upon_depth hB ?_; go_simp)
      | (go_at_call 62; refine (c_two _ _ ta tb _ hA hB (by omega) (by omega) (by omega) (by omega)).mono ?_; rintro e w1 ⟨b1, rfl, hn1, hx1⟩))
    exact ret_one rfl rfl rfl ⟨_, _, rfl, hn1, by simp only [T.text], by simp only [T.deep]; omega, by simp only [T.deep]; omega, hx1⟩
  all_goals
    clear hfit
    go_enter Tryd.func51, Tryd.ntmps51
    go_wp2_with (first
      | (refine upon_depth hA ?_; go_simp)
      | (refine upon_depth hB ?_; go_simp)
      | (go_at_call 62; refine (c_two _ _ ta tb _ hA hB (by omega) (by omega) (by omega) (by omega)).mono ?_; rintro e w1 ⟨b1, rfl, hn1, hx1⟩))
    exact ret_one rfl rfl rfl ⟨_, _, rfl, hn1, by simp only [T.text], by simp only [T.deep]; omega, by simp only [T.deep]; omega, hx1⟩

set_option maxRecDepth 100000 in
set_option maxHeartbeats 4000000 in
/-- 'join' where the first one is deeper. -/
theorem join_5 (blk : Nat) (vx vy vb : Value) (x y tb : T) (w : World) (hX : IsNode w vx x) (hY : IsNode w vy y) (hB : IsNode w vb tb) (h3 : x.deep ≤ y.deep + 1) (h4 : y.deep ≤ x.deep + 1)
    (hc : w.heap[blk]? = some (.cells (brA vx vy x y) 96 (0, 0))) (h1 : tb.deep + 1 < (T.br x y).deep)
    (hs : x.text.size + y.text.size + tb.text.size ≤ 1099511627776)
    (hrec : ∀ w', Ext w w' → Calls Tryd.prog 51 #[vy, vb] w' (Joined w' y tb)) :
    Calls Tryd.prog 51 #[.iface 94 (.pointer (some ⟨blk, 0, none⟩)), vb] w (Joined w (.br x y) tb) := by
  have hA : IsNode w (.iface 94 (.pointer (some ⟨blk, 0, none⟩))) (.br x y) := .br _ _ _ _ _ hX hY ⟨h3, h4⟩ hc
  have dA := hA.deep_le (by simp only [T.text, ByteArray.size_append]; omega)
  have qA : ∀ w', Ext w w' → ∀ i, w'.cell? ⟨blk, i, none⟩ = _ := fun w' h i => cell_blk (h.blk hc) i
  unfold brA at qA
  obtain ⟨Tx, xx, rfl⟩ := hX.iface
  obtain ⟨Ty, xy, rfl⟩ := hY.iface
  obtain ⟨Tb, xb, rfl⟩ := hB.iface
  have qb := ta_node hB
  generalize leafText tb = sb at qb
  generalize isLeaf tb = lb at qb
  have Hrec := Lib.hid hrec
  clear hrec
  go_enter Tryd.func51, Tryd.ntmps51
  go_wp2_with (first
    | (refine upon_depth hA ?_; go_simp)
    | (refine upon_depth hB ?_; go_simp))
  refine wp_lex [true, true, true, true, true, true, true, true, true, false, false, true] (by kernel_rfl) (by kernel_rfl) ?_
  repeat first
    | refine wpG_move (by rfl) (by simp only [Act.eval, Array.getD_eq_getD_getElem?, List.getElem?_toArray, List.getElem?_cons_succ, List.getElem?_cons_zero, Option.getD_some]; try rfl) (by simp only [Act.put, List.setIfInBounds_toArray, List.set_cons_succ, List.set_cons_zero]; rfl) ?_
    | refine wpG_assign (by rfl) (by simp only [Act.eval, Array.getD_eq_getD_getElem?, List.getElem?_toArray, List.getElem?_cons_succ, List.getElem?_cons_zero, Option.getD_some]; try rfl) (by simp only [Act.put, List.setIfInBounds_toArray, List.set_cons_succ, List.set_cons_zero]; rfl) ?_
    | refine wpG_val (by rfl) (fun w' hx => (by go_simp; first | (go_bits; first | exact rfl | exact ⟨by omega, rfl⟩) | exact rfl | exact (if_neg (by omega)).trans rfl | exact ⟨by omega, rfl⟩)) (by simp only [Act.put, List.setIfInBounds_toArray, List.set_cons_succ, List.set_cons_zero]; rfl) ?_
    | refine wpG_no (by rfl) (by simp only [Act.put, List.setIfInBounds_toArray, List.set_cons_succ, List.set_cons_zero]; rfl) ?_
  refine wpG_do (by rfl) (fun w2 hx2 K hK => ?_)
  go_wp2_with (go_at_call 51; refine (Hrec.out _ hx2).mono ?_; rintro e w3 ⟨v3, t3, rfl, hn3, e3, g3, g4, hx3⟩)
  refine ⟨hx3, ?_⟩
  have hz : t3.text.size = y.text.size + tb.text.size := by rw [e3, ByteArray.size_append]
  have hz1 : x.text.size + t3.text.size ≤ 1099511627776 := by omega
  have hz2 : x.deep ≤ t3.deep + 2 ∧ t3.deep ≤ x.deep + 2 := by simp only [T.deep] at h1; omega
  have Hz := Lib.hid hz
  have E3 := Lib.hid e3
  clear hz e3
  obtain ⟨T3, x3, rfl⟩ := hn3.iface
  refine wpG_do (by rfl) (fun w4 hx4 K hK => ?_)
  go_wp2_with (go_at_call 61; refine (c_balanced _ _ x t3 _ (hX.mono (hx2.trans (hx3.trans hx4))) (hn3.mono hx4) hz2.1 hz2.2 hz1).mono ?_; rintro e w5 ⟨v5, t5, rfl, hn5, e5, g5, g6, hx5, hq⟩)
  refine ⟨hx5, ?_⟩
  repeat first
    | refine wpG_move (by rfl) (by simp only [Act.eval, Array.getD_eq_getD_getElem?, List.getElem?_toArray, List.getElem?_cons_succ, List.getElem?_cons_zero, Option.getD_some]; try rfl) (by simp only [Act.put, List.setIfInBounds_toArray, List.set_cons_succ, List.set_cons_zero]; rfl) ?_
    | refine wpG_assign (by rfl) (by simp only [Act.eval, Array.getD_eq_getD_getElem?, List.getElem?_toArray, List.getElem?_cons_succ, List.getElem?_cons_zero, Option.getD_some]; try rfl) (by simp only [Act.put, List.setIfInBounds_toArray, List.set_cons_succ, List.set_cons_zero]; rfl) ?_
    | refine wpG_val (by rfl) (fun w' hx => (by go_simp; first | (go_bits; first | exact rfl | exact ⟨by omega, rfl⟩) | exact rfl | exact (if_neg (by omega)).trans rfl | exact ⟨by omega, rfl⟩)) (by simp only [Act.put, List.setIfInBounds_toArray, List.set_cons_succ, List.set_cons_zero]; rfl) ?_
    | refine wpG_no (by rfl) (by simp only [Act.put, List.setIfInBounds_toArray, List.set_cons_succ, List.set_cons_zero]; rfl) ?_
  refine wpG_end (fun w6 hx6 => wpList_nil (gQ_normal ?_))
  go_wp2_with fail
  refine ret_one rfl rfl rfl ⟨_, t5, rfl, hn5.mono hx6, ?_, ?_, ?_, hx2.trans (hx3.trans (hx4.trans (hx5.trans hx6)))⟩
  · rw [e5, E3.out]; simp only [T.text, ByteArray.append_assoc]
  · simp only [T.deep] at *
    by_cases k : t3.deep ≤ x.deep + 1
    · have := hq (by omega) k
      omega
    · omega
  · simp only [T.deep] at *
    omega

set_option maxRecDepth 100000 in
set_option maxHeartbeats 4000000 in
/-- 'join' where the second one is deeper. -/
theorem join_6 (blk : Nat) (vx vy va : Value) (x y ta : T) (w : World) (hX : IsNode w vx x) (hY : IsNode w vy y) (hA : IsNode w va ta) (h3 : x.deep ≤ y.deep + 1) (h4 : y.deep ≤ x.deep + 1)
    (hc : w.heap[blk]? = some (.cells (brA vx vy x y) 96 (0, 0))) (h1 : ta.deep + 1 < (T.br x y).deep)
    (hs : ta.text.size + (x.text.size + y.text.size) ≤ 1099511627776)
    (hrec : ∀ w', Ext w w' → Calls Tryd.prog 51 #[va, vx] w' (Joined w' ta x)) :
    Calls Tryd.prog 51 #[va, .iface 94 (.pointer (some ⟨blk, 0, none⟩))] w (Joined w ta (.br x y)) := by
  have hB : IsNode w (.iface 94 (.pointer (some ⟨blk, 0, none⟩))) (.br x y) := .br _ _ _ _ _ hX hY ⟨h3, h4⟩ hc
  have dB := hB.deep_le (by simp only [T.text, ByteArray.size_append]; omega)
  have qA : ∀ w', Ext w w' → ∀ i, w'.cell? ⟨blk, i, none⟩ = _ := fun w' h i => cell_blk (h.blk hc) i
  unfold brA at qA
  obtain ⟨Tx, xx, rfl⟩ := hX.iface
  obtain ⟨Ty, xy, rfl⟩ := hY.iface
  obtain ⟨Ta, xa, rfl⟩ := hA.iface
  have qa := ta_node hA
  generalize leafText ta = sa at qa
  generalize isLeaf ta = la at qa
  have Hrec := Lib.hid hrec
  clear hrec
  cases la
  all_goals
    go_enter Tryd.func51, Tryd.ntmps51
    go_wp2_with (first
      | (refine upon_depth hA ?_; go_simp)
      | (refine upon_depth hB ?_; go_simp))
    refine wp_perm [0, 1, 2, 3, 4, 6, 7, 8, 9, 5, 10, 11] [true, true, true, true, true, true, true, true, true, false, false, true] (by kernel_rfl) (by kernel_rfl) (by simp only [List.map_cons, List.map_nil, nth]; rfl) ?_
    repeat first
      | refine wpG_move (by rfl) (by simp only [Act.eval, Array.getD_eq_getD_getElem?, List.getElem?_toArray, List.getElem?_cons_succ, List.getElem?_cons_zero, Option.getD_some]; try rfl) (by simp only [Act.put, List.setIfInBounds_toArray, List.set_cons_succ, List.set_cons_zero]; rfl) ?_
      | refine wpG_assign (by rfl) (by simp only [Act.eval, Array.getD_eq_getD_getElem?, List.getElem?_toArray, List.getElem?_cons_succ, List.getElem?_cons_zero, Option.getD_some]; try rfl) (by simp only [Act.put, List.setIfInBounds_toArray, List.set_cons_succ, List.set_cons_zero]; rfl) ?_
      | refine wpG_val (by rfl) (fun w' hx => (by go_simp; first | (go_bits; first | exact rfl | exact ⟨by omega, rfl⟩) | exact rfl | exact (if_neg (by omega)).trans rfl | exact ⟨by omega, rfl⟩)) (by simp only [Act.put, List.setIfInBounds_toArray, List.set_cons_succ, List.set_cons_zero]; rfl) ?_
      | refine wpG_no (by rfl) (by simp only [Act.put, List.setIfInBounds_toArray, List.set_cons_succ, List.set_cons_zero]; rfl) ?_
    refine wpG_do (by rfl) (fun w2 hx2 K hK => ?_)
    go_wp2_with (go_at_call 51; refine (Hrec.out _ hx2).mono ?_; rintro e w3 ⟨v3, t3, rfl, hn3, e3, g3, g4, hx3⟩)
    refine ⟨hx3, ?_⟩
    have hz : t3.text.size = ta.text.size + x.text.size := by rw [e3, ByteArray.size_append]
    have hz1 : t3.text.size + y.text.size ≤ 1099511627776 := by omega
    have hz2 : t3.deep ≤ y.deep + 2 ∧ y.deep ≤ t3.deep + 2 := by simp only [T.deep] at h1; omega
    have Hz := Lib.hid hz
    have E3 := Lib.hid e3
    clear hz e3
    obtain ⟨T3, x3, rfl⟩ := hn3.iface
    refine wpG_do (by rfl) (fun w4 hx4 K hK => ?_)
    go_wp2_with (go_at_call 61; refine (c_balanced _ _ t3 y _ (hn3.mono hx4) (hY.mono (hx2.trans (hx3.trans hx4))) hz2.1 hz2.2 hz1).mono ?_; rintro e w5 ⟨v5, t5, rfl, hn5, e5, g5, g6, hx5, hq⟩)
    refine ⟨hx5, ?_⟩
    repeat first
      | refine wpG_move (by rfl) (by simp only [Act.eval, Array.getD_eq_getD_getElem?, List.getElem?_toArray, List.getElem?_cons_succ, List.getElem?_cons_zero, Option.getD_some]; try rfl) (by simp only [Act.put, List.setIfInBounds_toArray, List.set_cons_succ, List.set_cons_zero]; rfl) ?_
      | refine wpG_assign (by rfl) (by simp only [Act.eval, Array.getD_eq_getD_getElem?, List.getElem?_toArray, List.getElem?_cons_succ, List.getElem?_cons_zero, Option.getD_some]; try rfl) (by simp only [Act.put, List.setIfInBounds_toArray, List.set_cons_succ, List.set_cons_zero]; rfl) ?_
      | refine wpG_val (by rfl) (fun w' hx => (by go_simp; first | (go_bits; first | exact rfl | exact ⟨by omega, rfl⟩) | exact rfl | exact (if_neg (by omega)).trans rfl | exact ⟨by omega, rfl⟩)) (by simp only [Act.put, List.setIfInBounds_toArray, List.set_cons_succ, List.set_cons_zero]; rfl) ?_
      | refine wpG_no (by rfl) (by simp only [Act.put, List.setIfInBounds_toArray, List.set_cons_succ, List.set_cons_zero]; rfl) ?_
    refine wpG_end (fun w6 hx6 => wpList_nil (gQ_normal ?_))
    go_wp2_with fail
    refine ret_one rfl rfl rfl ⟨_, t5, rfl, hn5.mono hx6, ?_, ?_, ?_, hx2.trans (hx3.trans (hx4.trans (hx5.trans hx6)))⟩
    · rw [e5, E3.out]; simp only [T.text, ByteArray.append_assoc]
    · simp only [T.deep] at *
      by_cases k : t3.deep ≤ y.deep + 1
      · have := hq k (by omega)
        omega
      · omega
    · simp only [T.deep] at *
      omega

/-- 'join' of two nodes. -/
theorem join_nodes (n : Nat) : ∀ (va vb : Value) (ta tb : T) (w : World), ta.deep + tb.deep ≤ n → IsNode w va ta → IsNode w vb tb → ta.text.size + tb.text.size ≤ 1099511627776 → Calls Tryd.prog 51 #[va, vb] w (Joined w ta tb) := by
  induction n with
  | zero => intro va vb ta tb w hn; have := ta.deep_pos; omega
  | succ n ih =>
    intro va vb ta tb w hn hA hB hs
    have pA := ta.deep_pos
    have pB := tb.deep_pos
    by_cases c1 : tb.deep + 1 < ta.deep
    · obtain ⟨blk, vx, vy, x, y, rfl, rfl, hX, hY, g1, g2, hc⟩ := hA.inv_br (by omega)
      simp only [T.text, ByteArray.size_append] at hs
      refine join_5 blk vx vy vb x y tb w hX hY hB g1 g2 hc c1 hs (fun w' hx => ih vy vb y tb w' ?_ (hY.mono hx) (hB.mono hx) (by omega))
      simp only [T.deep] at hn
      omega
    · by_cases c2 : ta.deep + 1 < tb.deep
      · obtain ⟨blk, vx, vy, x, y, rfl, rfl, hX, hY, g1, g2, hc⟩ := hB.inv_br (by omega)
        simp only [T.text, ByteArray.size_append] at hs
        refine join_6 blk vx vy va x y ta w hX hY hA g1 g2 hc c2 hs (fun w' hx => ih va vx ta x w' ?_ (hA.mono hx) (hX.mono hx) (by omega))
        simp only [T.deep] at hn
        omega
      · by_cases c3 : isLeaf ta = true ∧ isLeaf tb = true ∧ (leafText ta).size + (leafText tb).size ≤ 256
        · obtain ⟨k1, k2, k3⟩ := c3
          have e1 := leaf_deep k1
          have e2 := leaf_deep k2
          generalize leafText ta = sa at *
          generalize leafText tb = sb at *
          subst e1
          subst e2
          have z1 := hA.size
          have z2 := hB.size
          cases hA
          cases hB
          exact join_3 sa sb w z1 z2 k3
        · exact join_7 va vb ta tb w hA hB (by omega) (by omega) c3 hs
end Go.Proofs.YtohpekbooapcjaaDoor
