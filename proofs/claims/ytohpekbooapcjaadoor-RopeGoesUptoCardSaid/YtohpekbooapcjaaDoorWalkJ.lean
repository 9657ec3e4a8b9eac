/-
  Trees that may be nil; texts as trees; ropes asked for their sums; ropes joined.
-/
import Derived.Test.YtohpekbooapcjaaDoorWalkI
namespace Go.Proofs.YtohpekbooapcjaaDoor
open Go.RowKit Go.Rp

theorem ret_two {P : Program} {fn : Func} {R : Ending → World → Prop} {a : Act} {w : World} {v u : Value} {t s : Tmp} (hf : fn.results = #[.tmp t, .tmp s]) (hv : a.tmps.getD t undef = v) (hu : a.tmps.getD s undef = u) (hd : a.defers = [])
    (hR : R (.returned (.tuple #[v, u])) w) : bodyPost P fn R .ret a w :=
  bodyPost_ret (by rw [results_tmp2 hf, hv, hu]) hd hR
theorem IsTree.iface {w : World} {v : Value} {o : Option T} (hn : IsTree w v o) : (v = .nilIface ∧ o = none) ∨ ∃ T0 x t, v = .iface T0 x ∧ o = some t ∧ IsNode w (.iface T0 x) t := by
  cases o with
  | none => exact .inl ⟨hn, rfl⟩
  | some t =>
    have hn' : IsNode w v t := hn
    obtain ⟨T0, x, rfl⟩ := hn'.iface
    exact .inr ⟨T0, x, t, rfl, rfl, hn'⟩

/-- What a function hands back that makes a tree of some text. -/
def Makes (w : World) (s : ByteArray) (e : Ending) (w' : World) : Prop := ∃ v o, e = .returned v ∧ IsTree w' v o ∧ txt o = s ∧ Ext w w'

set_option maxRecDepth 100000 in
set_option maxHeartbeats 1000000 in
theorem c_join (va vb : Value) (oa ob : Option T) (w : World) (hA : IsTree w va oa) (hB : IsTree w vb ob) (hs : (txt oa).size + (txt ob).size ≤ 1099511627776) :
    Calls Tryd.prog 51 #[va, vb] w (Makes w (txt oa ++ txt ob)) := by
  have e0 : ∀ s : ByteArray, ByteArray.empty ++ s = s := fun s => by apply ext_ba; simp
  have e1 : ∀ s : ByteArray, s ++ ByteArray.empty = s := fun s => by apply ext_ba; simp
  rcases hA.iface with ⟨rfl, rfl⟩ | ⟨Ta, xa, ta, rfl, rfl, hA'⟩
  · simp only [txt, e0]
    rcases hB.iface with ⟨rfl, rfl⟩ | ⟨Tb, xb, tb, rfl, rfl, hB'⟩
    · go_enter Tryd.func51, Tryd.ntmps51
      go_wp2_with fail
      exact ret_one rfl rfl rfl ⟨_, none, rfl, hB, rfl, Ext.refl w⟩
    · go_enter Tryd.func51, Tryd.ntmps51
      go_wp2_with fail
      exact ret_one rfl rfl rfl ⟨_, some tb, rfl, hB, rfl, Ext.refl w⟩
  · rcases hB.iface with ⟨rfl, rfl⟩ | ⟨Tb, xb, tb, rfl, rfl, hB'⟩
    · simp only [txt, e1]
      go_enter Tryd.func51, Tryd.ntmps51
      go_wp2_with fail
      exact ret_one rfl rfl rfl ⟨_, some ta, rfl, hA, rfl, Ext.refl w⟩
    · refine (join_nodes _ _ _ ta tb w (Nat.le_refl _) hA' hB' hs).mono ?_
      rintro e w' ⟨v, t, h1, h2, h3, h4, h5, h6⟩
      exact ⟨v, some t, h1, h2, h3, h6⟩

theorem halves (s : ByteArray) (k : Nat) (h : k ≤ s.size) : s.extract 0 k ++ s.extract k s.size = s := by
  apply ext_ba
  have hl := len_eq s
  rw [toList_append, ByteArray.data_extract, ByteArray.data_extract, Array.toList_extract, Array.toList_extract, List.extract_eq_take_drop, List.extract_eq_take_drop]
  rw [List.take_of_length_le (l := s.data.toList.drop k) (by rw [List.length_drop]; omega)]
  simp

set_option maxRecDepth 100000 in
set_option maxHeartbeats 1000000 in
theorem c_build (n : Nat) : ∀ (s : ByteArray) (w : World), s.size ≤ n → s.size ≤ 1099511627776 → Calls Tryd.prog 50 #[.string s] w (Makes w s) := by
  induction n with
  | zero =>
    intro s w hn hs
    go_enter Tryd.func50, Tryd.ntmps50
    go_wp2_with (go_at_call 60; refine (c_piece s w (by omega)).mono ?_; rintro e w1 ⟨v, rfl, hv, rfl⟩)
    refine ret_one rfl rfl rfl ⟨_, _, rfl, hv, ?_, Ext.refl _⟩
    rw [if_pos (by omega)]
    apply ext_ba
    have hl := len_eq s
    rw [show s.size = 0 from by omega] at hl
    rw [List.length_eq_zero_iff.1 hl]
    rfl
  | succ n ih =>
    intro s w hn hs
    by_cases hc : s.size ≤ 256
    · go_enter Tryd.func50, Tryd.ntmps50
      go_wp2_with (go_at_call 60; refine (c_piece s w (by omega)).mono ?_; rintro e w1 ⟨v, rfl, hv, rfl⟩)
      refine ret_one rfl rfl rfl ⟨_, _, rfl, hv, ?_, Ext.refl _⟩
      by_cases h0 : s.size = 0
      · rw [if_pos h0]
        apply ext_ba
        have hl := len_eq s
        rw [h0] at hl
        rw [List.length_eq_zero_iff.1 hl]
        rfl
      · rw [if_neg h0]
        rfl
    · have f1 : (0 : Int) ≤ (s.size : Int) / 2 := by omega
      have f2 : (s.size : Int) / 2 ≤ (s.size : Int) := by omega
      have Ih := Lib.hid ih
      clear ih
      have z1 : (s.extract 0 (s.size / 2)).size ≤ n := by rw [ByteArray.size_extract]; omega
      have z2 : (s.extract 0 (s.size / 2)).size ≤ 1099511627776 := by rw [ByteArray.size_extract]; omega
      have z3 : (s.extract (s.size / 2) s.size).size ≤ n := by rw [ByteArray.size_extract]; omega
      have z4 : (s.extract (s.size / 2) s.size).size ≤ 1099511627776 := by rw [ByteArray.size_extract]; omega
      go_enter Tryd.func50, Tryd.ntmps50
      go_wp2_with fail
      refine wp_perm [0, 1, 2, 4, 5, 6, 3, 7, 8, 9] [true, true, true, true, true, true, false, false, false, true] (by kernel_rfl) (by kernel_rfl) (by simp only [List.map_cons, List.map_nil, nth]; rfl) ?_
      repeat first
        | refine wpG_move (by rfl) (by simp only [Act.eval, Array.getD_eq_getD_getElem?, List.getElem?_toArray, List.getElem?_cons_succ, List.getElem?_cons_zero, Option.getD_some]; try rfl) (by simp only [Act.put, List.setIfInBounds_toArray, List.set_cons_succ, List.set_cons_zero]; rfl) ?_
        | refine wpG_assign (by rfl) (by simp only [Act.eval, Array.getD_eq_getD_getElem?, List.getElem?_toArray, List.getElem?_cons_succ, List.getElem?_cons_zero, Option.getD_some]; try rfl) (by simp only [Act.put, List.setIfInBounds_toArray, List.set_cons_succ, List.set_cons_zero]; rfl) ?_
        | refine wpG_val (by rfl) (fun w' hx => (by go_simp; first | (go_bits; first | exact rfl | exact ⟨by omega, rfl⟩) | exact rfl | exact (if_neg (by omega)).trans rfl | exact ⟨by omega, rfl⟩)) (by simp only [Act.put, List.setIfInBounds_toArray, List.set_cons_succ, List.set_cons_zero]; rfl) ?_
        | refine wpG_no (by rfl) (by simp only [Act.put, List.setIfInBounds_toArray, List.set_cons_succ, List.set_cons_zero]; rfl) ?_
      refine wpG_do (by rfl) (fun w2 hx2 K hK => ?_)
      go_wp2_with (go_at_call 50; refine (Ih.out (s.extract 0 (s.size / 2)) _ z1 z2).mono ?_; rintro e w3 ⟨v3, o3, rfl, hn3, e3, hx3⟩)
      refine ⟨hx3, ?_⟩
      refine wpG_do (by rfl) (fun w4 hx4 K hK => ?_)
      go_wp2_with (go_at_call 50; refine (Ih.out (s.extract (s.size / 2) s.size) _ z3 z4).mono ?_; rintro e w5 ⟨v5, o5, rfl, hn5, e5, hx5⟩)
      refine ⟨hx5, ?_⟩
      have hz : (txt o3).size + (txt o5).size ≤ 1099511627776 := by rw [e3, e5]; simp; omega
      have E3 := Lib.hid e3
      have E5 := Lib.hid e5
      clear e3 e5
      refine wpG_do (by rfl) (fun w6 hx6 K hK => ?_)
      go_wp2_with (go_at_call 51; refine (c_join _ _ o3 o5 _ (hn3.mono (hx4.trans (hx5.trans hx6))) (hn5.mono hx6) hz).mono ?_; rintro e w7 ⟨v7, o7, rfl, hn7, e7, hx7⟩)
      refine ⟨hx7, ?_⟩
      have E7 := Lib.hid e7
      clear e7
      repeat first
        | refine wpG_move (by rfl) (by simp only [Act.eval, Array.getD_eq_getD_getElem?, List.getElem?_toArray, List.getElem?_cons_succ, List.getElem?_cons_zero, Option.getD_some]; try rfl) (by simp only [Act.put, List.setIfInBounds_toArray, List.set_cons_succ, List.set_cons_zero]; rfl) ?_
        | refine wpG_assign (by rfl) (by simp only [Act.eval, Array.getD_eq_getD_getElem?, List.getElem?_toArray, List.getElem?_cons_succ, List.getElem?_cons_zero, Option.getD_some]; try rfl) (by simp only [Act.put, List.setIfInBounds_toArray, List.set_cons_succ, List.set_cons_zero]; rfl) ?_
        | refine wpG_val (by rfl) (fun w' hx => (by go_simp; first | (go_bits; first | exact rfl | exact ⟨by omega, rfl⟩) | exact rfl | exact (if_neg (by omega)).trans rfl | exact ⟨by omega, rfl⟩)) (by simp only [Act.put, List.setIfInBounds_toArray, List.set_cons_succ, List.set_cons_zero]; rfl) ?_
        | refine wpG_no (by rfl) (by simp only [Act.put, List.setIfInBounds_toArray, List.set_cons_succ, List.set_cons_zero]; rfl) ?_
      refine wpG_end (fun w8 hx8 => wpList_nil (gQ_normal ?_))
      go_wp2_with fail
      refine ret_one rfl rfl rfl ⟨_, o7, rfl, hn7.mono hx8, ?_, hx2.trans (hx3.trans (hx4.trans (hx5.trans (hx6.trans (hx7.trans hx8)))))⟩
      rw [E7.out, E3.out, E5.out]
      exact halves s _ (by omega)

set_option maxHeartbeats 1000000 in
theorem c_New (s : ByteArray) (w : World) (hs : s.size ≤ 1048576) :
    Calls Tryd.prog 22 #[.string s] w fun e w' => ∃ v o, e = .returned (.tuple #[v, .int .i64 0]) ∧ IsRope w' v o ∧ txt o = s ∧ Ext w w' := by
  go_enter Tryd.func22, Tryd.ntmps22
  go_wp2_with (go_at_call 50; refine (c_build s.size s w (Nat.le_refl _) (by omega)).mono ?_; rintro e w1 ⟨v, o, rfl, hv, hz, hx1⟩; rcases hv.iface with ⟨rfl, ho⟩ | ⟨T0, x0, t0, rfl, ho, hv0⟩)
  all_goals exact ret_two rfl rfl rfl rfl ⟨_, o, rfl, .mk _ _ o (hv.mono ((Ext.refl _).alloc _)) (alloc_blk _ _), hz, hx1.alloc _⟩

theorem c_New_long (s : ByteArray) (w : World) (hs : 1048576 < s.size) :
    Calls Tryd.prog 22 #[.string s] w fun e w' => e = .returned (.tuple #[.pointer none, .int .i64 1]) ∧ Ext w w' := by
  go_enter Tryd.func22, Tryd.ntmps22
  go_wp2_with fail
  exact ret_two rfl rfl rfl rfl ⟨rfl, Ext.refl w⟩

theorem rope_node {w : World} {v : Value} {o : Option T} (h : IsRope w v o) : ∃ n, IsTree w n o ∧ ∀ w', Ext w w' → Calls Tryd.prog 32 #[v] w' fun e w'' => e = .returned n ∧ w'' = w' := by
  cases h with
  | nil =>
    refine ⟨.nilIface, rfl, fun w' _ => ?_⟩
    go_enter Tryd.func32, Tryd.ntmps32
    go_wp2_with fail
    go_ret
    exact ⟨rfl, rfl⟩
  | mk b n o hn hc =>
    refine ⟨n, hn, fun w' hx => ?_⟩
    have hcc := cell_blk (hx.blk hc)
    go_enter Tryd.func32, Tryd.ntmps32
    go_wp2_with fail
    go_ret
    exact ⟨rfl, rfl⟩

theorem sumA_empty : sumA ByteArray.empty = #[.int .i64 0, .int .i64 0, .int .i64 0, .int .i64 0, .string { data := #[] }, .string { data := #[] }] := by
  have h1 : nRunes ByteArray.empty = 0 := rfl
  have h2 : nUnits ByteArray.empty = 0 := rfl
  have h3 : nBreaks ByteArray.empty = 0 := rfl
  have h4 : hdB ByteArray.empty = { data := #[] } := by apply ext_ba; rw [toList_hdB]; rfl
  have h5 : tlB ByteArray.empty = { data := #[] } := by apply ext_ba; rw [toList_tlB]; rfl
  unfold sumA
  rw [h1, h2, h3, h4, h5]
  rfl

set_option maxHeartbeats 1000000 in
theorem c_all (v : Value) (o : Option T) (w : World) (h : IsRope w v o) (hs : (txt o).size ≤ 1099511627776) :
    Calls Tryd.prog 31 #[v] w fun e w' => e = .returned (.agg (sumA (txt o))) ∧ Ext w w' := by
  obtain ⟨n, hn, hcall⟩ := rope_node h
  go_enter Tryd.func31, Tryd.ntmps31
  go_upto_region 1 with fail
  refine wp_gen (fun W => Ext w W ∧ W.heap[w.heap.size]? = some (.cells #[.int .i64 0, .int .i64 0, .int .i64 0, .int .i64 0, .string { data := #[] }, .string { data := #[] }] 57 (0, 0))) ⟨(Ext.refl w).alloc _, alloc_blk _ _⟩ (fun w0 hw0 => ?_)
  obtain ⟨hx0, hb0⟩ := hw0
  have hc0 := cell_blk hb0
  have hf0 := frz_blk hb0
  have Hcall := Lib.hid hcall
  clear hcall
  rcases hn.iface with ⟨rfl, ho⟩ | ⟨T0, x0, t0, rfl, ho, hn0⟩
  · have HO := Lib.hid ho
    clear ho
    go_wp2_with (go_at_call 32; refine (Hcall.out w0 hx0).mono ?_; rintro e w1 ⟨rfl, rfl⟩)
    rw [HO.out]
    refine Q_gen (fun W => Ext w W ∧ W.heap[w.heap.size]? = some (.cells (sumA ByteArray.empty) 57 (0, 0))) ⟨?_, ?_⟩ (fun W hW => ?_)
    · repeat refine Ext.setCell ?_ (Nat.le_refl _) _
      exact hx0
    · rw [sumA_empty]
      exact set6_blk hb0 _ _ _ _ _ _
    · obtain ⟨hx7, hb7⟩ := hW
      have hc7 := cell_blk hb7
      exact bodyPost_ret (v := .agg (sumA ByteArray.empty)) (by simp [results, Tryd.results31, go_sem, hc7, sumA_empty]) rfl ⟨rfl, hx7⟩
  · have HO := Lib.hid ho
    clear ho
    have hs' : t0.text.size ≤ 1099511627776 := by rw [HO.out] at hs; exact hs
    go_wp2_with (first
      | (go_at_call 32; refine (Hcall.out w0 hx0).mono ?_; rintro e w1 ⟨rfl, rfl⟩)
      | (refine upon_sum (hn0.mono hx0) hs' (fun w2 hx2 => ?_); have hb2 := hx2.blk hb0; have hc2 := cell_blk hb2; have hf2 := frz_blk hb2; clear hc0 hf0; unfold sumA; go_simp))
    rw [HO.out]
    refine Q_gen (fun W => Ext w W ∧ W.heap[w.heap.size]? = some (.cells (sumA t0.text) 57 (0, 0))) ⟨?_, ?_⟩ (fun W hW => ?_)
    · repeat refine Ext.setCell ?_ (Nat.le_refl _) _
      exact hx0.trans hx2
    · exact set6_blk hb2 _ _ _ _ _ _
    · obtain ⟨hx7, hb7⟩ := hW
      have hc7 := cell_blk hb7
      exact bodyPost_ret (v := .agg (sumA t0.text)) (by simp [results, Tryd.results31, go_sem, hc7, sumA]) rfl ⟨rfl, hx7⟩

@[go_sem] theorem fld0 (a b c d : Int) (e f : ByteArray) (w : World) : (Instr.field 57 (.agg #[.int .i64 a, .int .i64 b, .int .i64 c, .int .i64 d, .string e, .string f]) 0).run Tryd.prog w = .ok (.int .i64 a) w := by kernel_rfl
@[go_sem] theorem fld1 (a b c d : Int) (e f : ByteArray) (w : World) : (Instr.field 57 (.agg #[.int .i64 a, .int .i64 b, .int .i64 c, .int .i64 d, .string e, .string f]) 1).run Tryd.prog w = .ok (.int .i64 b) w := by kernel_rfl
@[go_sem] theorem fld2 (a b c d : Int) (e f : ByteArray) (w : World) : (Instr.field 57 (.agg #[.int .i64 a, .int .i64 b, .int .i64 c, .int .i64 d, .string e, .string f]) 2).run Tryd.prog w = .ok (.int .i64 c) w := by kernel_rfl
@[go_sem] theorem fld3 (a b c d : Int) (e f : ByteArray) (w : World) : (Instr.field 57 (.agg #[.int .i64 a, .int .i64 b, .int .i64 c, .int .i64 d, .string e, .string f]) 3).run Tryd.prog w = .ok (.int .i64 d) w := by kernel_rfl
set_option maxRecDepth 100000 in
theorem c_Len (v : Value) (o : Option T) (w : World) (h : IsRope w v o) (hs : (txt o).size ≤ 1099511627776) :
    Calls Tryd.prog 28 #[v] w fun e w' => e = .returned (.int .i64 ((txt o).size : Nat)) ∧ Ext w w' := by
  go_enter Tryd.func28, Tryd.ntmps28
  go_wp2_with (go_at_call 31; refine (c_all v o w h hs).mono ?_; rintro e w1 ⟨rfl, hx1⟩; unfold sumA)
  go_show
  exact ret_one rfl rfl rfl ⟨rfl, hx1⟩
set_option maxRecDepth 100000 in
theorem c_Runes (v : Value) (o : Option T) (w : World) (h : IsRope w v o) (hs : (txt o).size ≤ 1099511627776) :
    Calls Tryd.prog 26 #[v] w fun e w' => e = .returned (.int .i64 (nRunes (txt o) : Nat)) ∧ Ext w w' := by
  go_enter Tryd.func26, Tryd.ntmps26
  go_wp2_with (go_at_call 31; refine (c_all v o w h hs).mono ?_; rintro e w1 ⟨rfl, hx1⟩; unfold sumA)
  exact ret_one rfl rfl rfl ⟨rfl, hx1⟩
set_option maxRecDepth 100000 in
theorem c_RUnits (v : Value) (o : Option T) (w : World) (h : IsRope w v o) (hs : (txt o).size ≤ 1099511627776) :
    Calls Tryd.prog 36 #[v] w fun e w' => e = .returned (.int .i64 (nUnits (txt o) : Nat)) ∧ Ext w w' := by
  go_enter Tryd.func36, Tryd.ntmps36
  go_wp2_with (go_at_call 31; refine (c_all v o w h hs).mono ?_; rintro e w1 ⟨rfl, hx1⟩; unfold sumA)
  exact ret_one rfl rfl rfl ⟨rfl, hx1⟩
set_option maxRecDepth 100000 in
theorem c_Breaks (v : Value) (o : Option T) (w : World) (h : IsRope w v o) (hs : (txt o).size ≤ 1099511627776) :
    Calls Tryd.prog 14 #[v] w fun e w' => e = .returned (.int .i64 (nBreaks (txt o) : Nat)) ∧ Ext w w' := by
  go_enter Tryd.func14, Tryd.ntmps14
  go_wp2_with (go_at_call 31; refine (c_all v o w h hs).mono ?_; rintro e w1 ⟨rfl, hx1⟩; unfold sumA)
  exact ret_one rfl rfl rfl ⟨rfl, hx1⟩
theorem c_Depth (v : Value) (o : Option T) (w : World) (h : IsRope w v o) :
    Calls Tryd.prog 39 #[v] w fun e w' => e = .returned (.int .i64 (dp o : Nat)) ∧ Ext w w' := by
  obtain ⟨n, hn, hcall⟩ := rope_node h
  have Hcall := Lib.hid hcall
  clear hcall
  rcases hn.iface with ⟨rfl, rfl⟩ | ⟨T0, x0, t0, rfl, rfl, hn0⟩
  · go_enter Tryd.func39, Tryd.ntmps39
    go_wp2_with (go_at_call 32; refine (Hcall.out w (Ext.refl w)).mono ?_; rintro e w1 ⟨rfl, rfl⟩)
    exact ret_one rfl rfl rfl ⟨rfl, Ext.refl _⟩
  · go_enter Tryd.func39, Tryd.ntmps39
    go_wp2_with (first
      | (go_at_call 32; refine (Hcall.out w (Ext.refl w)).mono ?_; rintro e w1 ⟨rfl, rfl⟩)
      | (refine upon_depth hn0 ?_; go_simp))
    exact ret_one rfl rfl rfl ⟨rfl, Ext.refl _⟩
end Go.Proofs.YtohpekbooapcjaaDoor
