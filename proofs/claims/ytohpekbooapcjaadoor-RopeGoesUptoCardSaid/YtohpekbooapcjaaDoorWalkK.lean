/-
  Nodes cut in two.
-/
import Derived.Test.YtohpekbooapcjaaDoorWalkJ
namespace Go.Proofs.YtohpekbooapcjaaDoor
open Go.RowKit Go.Rp

theorem toList_extract (s : ByteArray) (i j : Nat) : (s.extract i j).data.toList = (s.data.toList.drop i).take (j - i) := by
  rw [ByteArray.data_extract, Array.toList_extract, List.extract_eq_take_drop]
theorem take_all {l : List UInt8} {n : Nat} (h : l.length ≤ n) : l.take n = l := List.take_of_length_le h
theorem cut_1 (a b : ByteArray) (k : Nat) (h : k ≤ a.size) : (a ++ b).extract 0 k = a.extract 0 k := by
  apply ext_ba
  have ha := len_eq a
  rw [toList_extract, toList_extract, toList_append]
  simp only [List.drop_zero, Nat.sub_zero]
  rw [List.take_append_of_le_length (by omega)]
theorem cut_2 (a b : ByteArray) (k : Nat) (h : k ≤ a.size) : (a ++ b).extract k (a ++ b).size = a.extract k a.size ++ b := by
  apply ext_ba
  have ha := len_eq a
  have hb := len_eq b
  rw [toList_extract, toList_append, toList_append, toList_extract, take_all (by simp only [List.length_drop, List.length_append, ByteArray.size_append]; omega), List.drop_append_of_le_length (by omega), take_all (by rw [List.length_drop]; omega)]
theorem cut_3 (a b : ByteArray) (k : Nat) (h : a.size ≤ k) : (a ++ b).extract 0 k = a ++ b.extract 0 (k - a.size) := by
  apply ext_ba
  have ha := len_eq a
  rw [toList_extract, toList_append, toList_append, toList_extract]
  simp only [List.drop_zero, Nat.sub_zero]
  rw [List.take_append, take_all (by omega), ha]
theorem cut_4 (a b : ByteArray) (k : Nat) (h : a.size ≤ k) : (a ++ b).extract k (a ++ b).size = b.extract (k - a.size) b.size := by
  apply ext_ba
  have ha := len_eq a
  have hb := len_eq b
  rw [toList_extract, toList_append, toList_extract, List.drop_append, List.drop_of_length_le (by omega : a.data.toList.length ≤ k), List.nil_append, ha, take_all (by rw [List.length_drop, ByteArray.size_append]; omega), take_all (by rw [List.length_drop]; omega)]

/-- What a cut hands back. -/
def CutTo (w : World) (s : ByteArray) (k : Nat) (e : Ending) (w' : World) : Prop :=
  ∃ l r ol or, e = .returned (.tuple #[l, r]) ∧ IsTree w' l ol ∧ IsTree w' r or ∧ txt ol = s.extract 0 k ∧ txt or = s.extract k s.size ∧ Ext w w'

theorem c_piece' (s : ByteArray) (w : World) (hs : s.size ≤ 256) : Calls Tryd.prog 60 #[.string s] w (Makes w s) := by
  refine (c_piece s w hs).mono ?_
  rintro e w' ⟨v, h1, h2, h3⟩
  refine ⟨v, _, h1, h2, ?_, by rw [h3]; exact Ext.refl _⟩
  by_cases h0 : s.size = 0
  · rw [if_pos h0]
    apply ext_ba
    have hl := len_eq s
    rw [h0] at hl
    rw [List.length_eq_zero_iff.1 hl]
    rfl
  · rw [if_neg h0]
    rfl

set_option maxRecDepth 100000 in
set_option maxHeartbeats 1000000 in
theorem c_leaf_cut (s : ByteArray) (k : Nat) (w : World) (hs : s.size ≤ 256) (hk : k ≤ s.size) : Calls Tryd.prog 87 #[.string s, .int .i64 (k : Nat)] w (CutTo w s k) := by
  have z1 : (s.extract 0 k).size ≤ 256 := by rw [ByteArray.size_extract]; omega
  have z2 : (s.extract k s.size).size ≤ 256 := by rw [ByteArray.size_extract]; omega
  go_enter Tryd.func87, Tryd.ntmps87
  go_wp2_with fail
  refine wp_perm [0, 1, 2, 4, 5, 6, 3, 7, 8, 9] [true, true, true, true, true, true, false, false, true, true] (by kernel_rfl) (by kernel_rfl) (by simp only [List.map_cons, List.map_nil, nth]; rfl) ?_
  repeat first
    | refine wpG_move (by rfl) (by simp only [Act.eval, Array.getD_eq_getD_getElem?, List.getElem?_toArray, List.getElem?_cons_succ, List.getElem?_cons_zero, Option.getD_some]; try rfl) (by simp only [Act.put, List.setIfInBounds_toArray, List.set_cons_succ, List.set_cons_zero]; rfl) ?_
    | refine wpG_assign (by rfl) (by simp only [Act.eval, Array.getD_eq_getD_getElem?, List.getElem?_toArray, List.getElem?_cons_succ, List.getElem?_cons_zero, Option.getD_some]; try rfl) (by simp only [Act.put, List.setIfInBounds_toArray, List.set_cons_succ, List.set_cons_zero]; rfl) ?_
    | refine wpG_val (by rfl) (fun w' hx => (by go_simp; first | (go_bits; first | exact rfl | exact ⟨by omega, rfl⟩) | exact rfl | exact (if_neg (by omega)).trans rfl | exact ⟨by omega, rfl⟩)) (by simp only [Act.put, List.setIfInBounds_toArray, List.set_cons_succ, List.set_cons_zero]; rfl) ?_
    | refine wpG_no (by rfl) (by simp only [Act.put, List.setIfInBounds_toArray, List.set_cons_succ, List.set_cons_zero]; rfl) ?_
  refine wpG_do (by rfl) (fun w2 hx2 K hK => ?_)
  go_wp2_with (go_at_call 60; refine (c_piece' (s.extract 0 k) _ z1).mono ?_; rintro e w3 ⟨v3, o3, rfl, hn3, e3, hx3⟩)
  refine ⟨hx3, ?_⟩
  have E3 := Lib.hid e3
  clear e3
  refine wpG_do (by rfl) (fun w4 hx4 K hK => ?_)
  go_wp2_with (go_at_call 60; refine (c_piece' (s.extract k s.size) _ z2).mono ?_; rintro e w5 ⟨v5, o5, rfl, hn5, e5, hx5⟩)
  refine ⟨hx5, ?_⟩
  have E5 := Lib.hid e5
  clear e5
  repeat first
    | refine wpG_move (by rfl) (by simp only [Act.eval, Array.getD_eq_getD_getElem?, List.getElem?_toArray, List.getElem?_cons_succ, List.getElem?_cons_zero, Option.getD_some]; try rfl) (by simp only [Act.put, List.setIfInBounds_toArray, List.set_cons_succ, List.set_cons_zero]; rfl) ?_
    | refine wpG_assign (by rfl) (by simp only [Act.eval, Array.getD_eq_getD_getElem?, List.getElem?_toArray, List.getElem?_cons_succ, List.getElem?_cons_zero, Option.getD_some]; try rfl) (by simp only [Act.put, List.setIfInBounds_toArray, List.set_cons_succ, List.set_cons_zero]; rfl) ?_
    | refine wpG_val (by rfl) (fun w' hx => (by go_simp; first | (go_bits; first | exact rfl | exact ⟨by omega, rfl⟩) | exact rfl | exact (if_neg (by omega)).trans rfl | exact ⟨by omega, rfl⟩)) (by simp only [Act.put, List.setIfInBounds_toArray, List.set_cons_succ, List.set_cons_zero]; rfl) ?_
    | refine wpG_no (by rfl) (by simp only [Act.put, List.setIfInBounds_toArray, List.set_cons_succ, List.set_cons_zero]; rfl) ?_
  refine wpG_end (fun w6 hx6 => wpList_nil (gQ_normal ?_))
  go_wp2_with fail
  exact ret_two rfl rfl rfl rfl ⟨_, _, o3, o5, rfl, hn3.mono (hx4.trans (hx5.trans hx6)), hn5.mono hx6, E3.out, E5.out, hx2.trans (hx3.trans (hx4.trans (hx5.trans hx6)))⟩

theorem i_leaf_cut (s : ByteArray) (n : Int) (w : World) : (invoke (.fn (.method "kerf/rope.cut") #[]) #[.iface 92 (.string s), .int .i64 n]).run Tryd.prog w = .ok (.enter 87 #[.string s, .int .i64 n]) w := by kernel_rfl
theorem i_branch_cut (s : Addr) (n : Int) (w : World) : (invoke (.fn (.method "kerf/rope.cut") #[]) #[.iface 94 (.pointer (some s)), .int .i64 n]).run Tryd.prog w = .ok (.enter 94 #[.pointer (some s), .int .i64 n]) w := by kernel_rfl

/-- A node can be cut at each of its places. -/
def CanCut (w : World) (v : Value) (s : ByteArray) : Prop :=
  ∀ k, k ≤ s.size → ∃ f args, (∀ w', (invoke (.fn (.method "kerf/rope.cut") #[]) #[v, .int .i64 (k : Nat)]).run Tryd.prog w' = .ok (.enter f args) w') ∧ ∀ w', Ext w w' → Calls Tryd.prog f args w' (CutTo w' s k)

theorem upon_cut {o : Oper} {a : Act} {K : Act → World → Prop} {R : Exit → Act → World → Prop} {w0 w : World} {v : Value} {s : ByteArray} {n : Int} (k : Nat) (h : CanCut w0 v s) (hx : Ext w0 w) (hk : k ≤ s.size) (hn : n = (k : Nat))
    (hK : ∀ l r ol or w', IsTree w' l ol → IsTree w' r or → txt ol = s.extract 0 k → txt or = s.extract k s.size → Ext w w' → K (a.put o.dst (.tuple #[l, r])) w') :
    o.upon Tryd.prog a K R ((inv "kerf/rope.cut" v #[.int .i64 n]).run Tryd.prog w) := by
  subst hn
  obtain ⟨f, args, hr, hc⟩ := h k hk
  unfold inv
  have e := hr w
  rw [show (#[v] ++ #[.int .i64 (k : Nat)] : Array Value) = #[v, .int .i64 (k : Nat)] from by simp, e, Oper.upon_enter]
  refine (hc w hx).mono ?_
  rintro e w' ⟨l, r, ol, or, rfl, h1, h2, h3, h4, h5⟩
  exact hK l r ol or w' h1 h2 h3 h4 h5

set_option maxRecDepth 100000 in
set_option maxHeartbeats 2000000 in
theorem c_branch_cut (blk : Nat) (vx vy : Value) (x y : T) (k : Nat) (w : World) (hX : IsNode w vx x) (hY : IsNode w vy y) (hd : x.deep ≤ y.deep + 1 ∧ y.deep ≤ x.deep + 1)
    (hc : w.heap[blk]? = some (.cells (brA vx vy x y) 96 (0, 0)))
    (hs : x.text.size + y.text.size ≤ 1048576) (hk : k ≤ x.text.size + y.text.size) (cX : CanCut w vx x.text) (cY : CanCut w vy y.text) :
    Calls Tryd.prog 94 #[.pointer (some ⟨blk, 0, none⟩), .int .i64 (k : Nat)] w (CutTo w (x.text ++ y.text) k) := by
  have hc0 := cell_blk hc
  unfold brA at hc0
  obtain ⟨Tx, xx, rfl⟩ := hX.iface
  obtain ⟨Ty, xy, rfl⟩ := hY.iface
  by_cases hle : k ≤ x.text.size
  · go_enter Tryd.func94, Tryd.ntmps94
    go_wp2_with (first
      | (refine upon_sum hX (by omega) (fun w1 hx1 => ?_); have hc1 := cell_blk (hx1.blk hc); unfold brA at hc1; clear hc0; unfold sumA; go_simp)
      | (refine upon_cut k cX hx1 (by omega) rfl (fun l r ol or w2 hl hr el er hx2 => ?_); have El := Lib.hid el; have Er := Lib.hid er; have hz : (txt or).size + (txt (some y)).size ≤ 1099511627776 := (by rw [er]; simp only [txt, ByteArray.size_extract]; omega); have hc2 := cell_blk ((hx1.trans hx2).blk hc); unfold brA at hc2; clear hc1 el er; go_simp)
      | (go_at_call 51; refine (c_join _ _ or (some y) _ hr (hY.mono (hx1.trans hx2)) hz).mono ?_; rintro e w3 ⟨v3, o3, rfl, hn3, e3, hx3⟩))
    refine ret_two rfl rfl rfl rfl ⟨_, _, ol, o3, rfl, hl.mono hx3, hn3, ?_, ?_, hx1.trans (hx2.trans hx3)⟩
    · rw [El.out, cut_1 _ _ _ hle]
    · rw [e3, Er.out, cut_2 _ _ _ hle]; rfl
  · have hlt : x.text.size < k := by omega
    go_enter Tryd.func94, Tryd.ntmps94
    go_wp2_with (first
      | (refine upon_sum hX (by omega) (fun w1 hx1 => ?_); have hc1 := cell_blk (hx1.blk hc); unfold brA at hc1; clear hc0; unfold sumA; go_simp)
      | (refine upon_cut (k - x.text.size) cY hx1 (by omega) (by omega) (fun l r ol or w2 hl hr el er hx2 => ?_); have El := Lib.hid el; have Er := Lib.hid er; have hz : (txt (some x)).size + (txt ol).size ≤ 1099511627776 := (by rw [el]; simp only [txt, ByteArray.size_extract]; omega); have hc2 := cell_blk ((hx1.trans hx2).blk hc); unfold brA at hc2; clear hc1 el er; go_simp)
      | (go_at_call 51; refine (c_join _ _ (some x) ol _ (hX.mono (hx1.trans hx2)) hl hz).mono ?_; rintro e w3 ⟨v3, o3, rfl, hn3, e3, hx3⟩))
    refine ret_two rfl rfl rfl rfl ⟨_, _, o3, or, rfl, hn3, hr.mono hx3, ?_, ?_, hx1.trans (hx2.trans hx3)⟩
    · rw [e3, El.out, cut_3 _ _ _ (by omega)]; rfl
    · rw [Er.out, cut_4 _ _ _ (by omega)]
end Go.Proofs.YtohpekbooapcjaaDoor
