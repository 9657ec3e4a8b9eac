/-
  The places of runes and of units: the search for them.
-/
import Derived.Test.YtohpekbooapcjaaDoorDoorB
namespace Go.Proofs.YtohpekbooapcjaaDoor
open Go.RowKit Go.Rp

set_option maxRecDepth 100000 in
set_option maxHeartbeats 1000000 in
theorem says_gR (b1 b2 : Nat) (v : Value) (o : Option T) (q : Int) (w : World) (h : IsRope w v o) (hT : Lib.Utf8Tabs 0 1 w) (hs : (txt o).size ≤ 1048576)
    (h1 : w.heap[b1]? = some (.cells #[.func (.func 11) #[v] #[]] 34 (0, 0))) (h2 : w.heap[b2]? = some (.cells #[.int .i64 q] 3 (0, 0))) :
    Says w (.pointer (some ⟨b1, 0, none⟩)) (.pointer (some ⟨b2, 0, none⟩)) (txt o).size (fun k => decide (q ≤ (gR (txt o).data.toList k : Nat))) := by
  intro w' hx k hk
  have q1 : ∀ w2, Ext w' w2 → ∀ i, w2.cell? ⟨b1, i, none⟩ = _ := fun w2 h i => cell_blk ((hx.trans h).blk h1) i
  have q2 : ∀ w2, Ext w' w2 → ∀ i, w2.cell? ⟨b2, i, none⟩ = _ := fun w2 h i => cell_blk ((hx.trans h).blk h2) i
  have hcl : clampN (k : Nat) (txt o) = k := by unfold clampN; omega
  have hc : ∀ w2, Ext w' w2 → Calls Tryd.prog 11 #[v, .int .i64 (k : Nat)] w2 fun e w3 => e = .returned (.int .i64 (gR (txt o).data.toList k : Nat)) ∧ Ext w2 w3 := by
    intro w2 hx2
    have := c_RuneOf v o (k : Nat) w2 (h.mono (hx.trans hx2)) (tabs_mono (hx.trans hx2) hT) hs
    rw [hcl] at this
    exact this
  have Hc := Lib.hid hc
  clear hc hcl
  go_enter Tryd.func55, Tryd.ntmps55
  go_wp2_with fail
  refine wp_lex [true, true, true, true, true, true] (by kernel_rfl) (by kernel_rfl) ?_
  repeat first
    | refine wpG_move (by rfl) (by simp only [Act.eval, Array.getD_eq_getD_getElem?, List.getElem?_toArray, List.getElem?_cons_succ, List.getElem?_cons_zero, Option.getD_some]; try rfl) (by simp only [Act.put, List.setIfInBounds_toArray, List.set_cons_succ, List.set_cons_zero]; rfl) ?_
    | refine wpG_assign (by rfl) (by simp only [Act.eval, Array.getD_eq_getD_getElem?, List.getElem?_toArray, List.getElem?_cons_succ, List.getElem?_cons_zero, Option.getD_some]; try rfl) (by simp only [Act.put, List.setIfInBounds_toArray, List.set_cons_succ, List.set_cons_zero]; rfl) ?_
    | refine wpG_call (by rfl) (fun w' hx => (by go_simp; first | exact rfl | exact ⟨rfl, rfl⟩)) (fun w' hx => (by first | exact Hc.out w' hx)) (by simp only [Act.put, List.setIfInBounds_toArray, List.set_cons_succ, List.set_cons_zero]; rfl) ?_
    | refine wpG_val (by rfl) (fun w' hx => (by go_simp; first | (go_bits; first | exact rfl | exact ⟨by omega, rfl⟩) | exact rfl | exact (if_neg (by omega)).trans rfl | exact ⟨by omega, rfl⟩)) (by simp only [Act.put, List.setIfInBounds_toArray, List.set_cons_succ, List.set_cons_zero]; rfl) ?_
    | refine wpG_no (by rfl) (by simp only [Act.put, List.setIfInBounds_toArray, List.set_cons_succ, List.set_cons_zero]; rfl) ?_
  refine wpG_end (fun w2 hx2 => wpList_nil (gQ_normal ?_))
  go_wp2_with fail
  exact ret_one rfl rfl rfl ⟨rfl, hx2⟩

set_option maxRecDepth 100000 in
set_option maxHeartbeats 2000000 in
theorem find_yes_gR (v : Value) (o : Option T) (q K : Nat) (w : World) (h : IsRope w v o) (hT : Lib.Utf8Tabs 0 1 w) (hs : (txt o).size ≤ 1048576) (hK : K ≤ (txt o).size) (hg : gR (txt o).data.toList K = q) (hlow : ∀ a, a < K → gR (txt o).data.toList a < q) :
    Calls Tryd.prog 29 #[v, .int .i64 (q : Nat), .func (.func 11) #[v] #[]] w fun e w' => e = .returned (.tuple #[.int .i64 (K : Nat), .bool true]) ∧ Ext w w' := by
  have hl := len_eq (txt o)
  have hmono : ∀ a b, a ≤ b → b ≤ (txt o).size → gR (txt o).data.toList a ≤ gR (txt o).data.toList b := fun a b h1 h2 => (gR_mono (txt o).data.toList a b h1 (by omega)).1
  have hcl : ∀ k : Nat, k ≤ (txt o).size → clampN (k : Nat) (txt o) = k := fun k hk => by unfold clampN; omega
  have hc : ∀ w2, Ext w w2 → ∀ k : Nat, k ≤ (txt o).size → Calls Tryd.prog 11 #[v, .int .i64 (k : Nat)] w2 fun e w3 => e = .returned (.int .i64 (gR (txt o).data.toList k : Nat)) ∧ Ext w2 w3 := by
    intro w2 hx2 k hk
    have := c_RuneOf v o (k : Nat) w2 (h.mono hx2) (tabs_mono hx2 hT) hs
    rw [hcl k hk] at this
    exact this
  have hq2 : ((q : Nat) : Int) ≤ (gR (txt o).data.toList (txt o).size : Nat) := by have := hmono K (txt o).size hK (Nat.le_refl _); omega
  have hq' : ¬ ((gR (txt o).data.toList (txt o).size : Nat) : Int) < (q : Nat) := by omega
  have Hc := Lib.hid hc
  have H := Lib.hid h
  have HM := Lib.hid hmono
  have HG := Lib.hid hg
  have HL := Lib.hid hlow
  clear hc hcl hmono h hg hlow
  go_enter Tryd.func29, Tryd.ntmps29
  go_upto_region 1 with fail
  refine wp_gen (fun W => Ext w W ∧ W.heap[w.heap.size]? = some (.cells #[.int .i64 (q : Nat)] 3 (0, 0)) ∧ W.heap[w.heap.size + 1]? = some (.cells #[.func (.func 11) #[v] #[]] 34 (0, 0))) ⟨((Ext.refl w).alloc _).alloc _, alloc2_blk w _ _⟩ (fun w0 hw0 => ?_)
  obtain ⟨hx0, hb1, hb2⟩ := hw0
  have q1 : ∀ w2, Ext w0 w2 → ∀ i, w2.cell? ⟨w.heap.size, i, none⟩ = _ := fun w2 h i => cell_blk (h.blk hb1) i
  have q2 : ∀ w2, Ext w0 w2 → ∀ i, w2.cell? ⟨w.heap.size + 1, i, none⟩ = _ := fun w2 h i => cell_blk (h.blk hb2) i
  refine wp_lex [true, true, true, true, true, true, true, true, true, true] (by kernel_rfl) (by kernel_rfl) ?_
  repeat first
    | refine wpG_move (by rfl) (by simp only [Act.eval, Array.getD_eq_getD_getElem?, List.getElem?_toArray, List.getElem?_cons_succ, List.getElem?_cons_zero, Option.getD_some]; try rfl) (by simp only [Act.put, List.setIfInBounds_toArray, List.set_cons_succ, List.set_cons_zero]; rfl) ?_
    | refine wpG_assign (by rfl) (by simp only [Act.eval, Array.getD_eq_getD_getElem?, List.getElem?_toArray, List.getElem?_cons_succ, List.getElem?_cons_zero, Option.getD_some]; try rfl) (by simp only [Act.put, List.setIfInBounds_toArray, List.set_cons_succ, List.set_cons_zero]; rfl) ?_
    | refine wpG_call (by rfl) (fun w' hx => (by go_simp; first | exact rfl | exact ⟨rfl, rfl⟩)) (fun w' hx => (by first | exact c_Len v o w' (H.out.mono (hx0.trans hx)) (by omega) | exact Hc.out w' (hx0.trans hx) _ (Nat.le_refl _))) (by simp only [Act.put, List.setIfInBounds_toArray, List.set_cons_succ, List.set_cons_zero]; rfl) ?_
    | refine wpG_val (by rfl) (fun w' hx => (by go_simp; first | (go_bits; first | exact rfl | exact ⟨by omega, rfl⟩) | exact rfl | exact (if_neg (by omega)).trans rfl | exact ⟨by omega, rfl⟩)) (by simp only [Act.put, List.setIfInBounds_toArray, List.set_cons_succ, List.set_cons_zero]; rfl) ?_
    | refine wpG_no (by rfl) (by simp only [Act.put, List.setIfInBounds_toArray, List.set_cons_succ, List.set_cons_zero]; rfl) ?_
  refine wpG_end (fun w2 hx2 => wpList_nil (gQ_normal ?_))
  go_wp2_with fail
  refine (c_Len v o _ (H.out.mono (hx0.trans hx2)) (by omega)).mono ?_
  rintro e w3 ⟨rfl, hx3⟩
  go_wp2_with fail
  refine (c_Search (txt o).size _ _ (fun k => decide ((q : Int) ≤ (gR (txt o).data.toList k : Nat))) _ hs (says_gR (w.heap.size + 1) w.heap.size v o q _ (H.out.mono (hx0.trans (hx2.trans hx3))) (tabs_mono (hx0.trans (hx2.trans hx3)) hT) hs ((hx2.trans hx3).blk hb2) ((hx2.trans hx3).blk hb1)) ?_).mono ?_
  · intro a b hab hb ha
    have := HM.out a b hab (by omega)
    simp only [decide_eq_true_eq] at ha ⊢
    omega
  rintro e w4 ⟨k, rfl, hk, hlo, hhi, hx4⟩
  have hkK : k = K := by
    have hKq := HG.out
    rcases Nat.lt_trichotomy k K with hlt | heq | hgt
    · have h1 := HL.out k hlt
      rcases hhi with rfl | hh
      · omega
      · simp only [decide_eq_true_eq] at hh
        omega
    · exact heq
    · have h1 := hlo K hgt
      simp only [decide_eq_false_iff_not] at h1
      omega
  subst hkK
  clear hlo hhi hq' hq2
  have hc2 : ∀ w5, Ext w4 w5 → Calls Tryd.prog 11 #[v, .int .i64 (k : Nat)] w5 fun e w3 => e = .returned (.int .i64 (q : Nat)) ∧ Ext w5 w3 := by
    intro w5 hx5
    have := Hc.out w5 (hx0.trans (hx2.trans (hx3.trans (hx4.trans hx5)))) k hk
    rw [HG.out] at this
    exact this
  have Hc2 := Lib.hid hc2
  clear hc2
  go_wp2_with fail
  have q1 : ∀ w5, Ext w4 w5 → ∀ i, w5.cell? ⟨w.heap.size, i, none⟩ = _ := fun w5 h i => cell_blk ((hx2.trans (hx3.trans (hx4.trans h))).blk hb1) i
  have q2 : ∀ w5, Ext w4 w5 → ∀ i, w5.cell? ⟨w.heap.size + 1, i, none⟩ = _ := fun w5 h i => cell_blk ((hx2.trans (hx3.trans (hx4.trans h))).blk hb2) i
  refine wp_lex [true, true, true, true, true] (by kernel_rfl) (by kernel_rfl) ?_
  repeat first
    | refine wpG_move (by rfl) (by simp only [Act.eval, Array.getD_eq_getD_getElem?, List.getElem?_toArray, List.getElem?_cons_succ, List.getElem?_cons_zero, Option.getD_some]; try rfl) (by simp only [Act.put, List.setIfInBounds_toArray, List.set_cons_succ, List.set_cons_zero]; rfl) ?_
    | refine wpG_assign (by rfl) (by simp only [Act.eval, Array.getD_eq_getD_getElem?, List.getElem?_toArray, List.getElem?_cons_succ, List.getElem?_cons_zero, Option.getD_some]; try rfl) (by simp only [Act.put, List.setIfInBounds_toArray, List.set_cons_succ, List.set_cons_zero]; rfl) ?_
    | refine wpG_call (by rfl) (fun w' hx => (by go_simp; first | exact rfl | exact ⟨rfl, rfl⟩)) (fun w' hx => (by first | exact Hc2.out w' hx)) (by simp only [Act.put, List.setIfInBounds_toArray, List.set_cons_succ, List.set_cons_zero]; rfl) ?_
    | refine wpG_val (by rfl) (fun w' hx => (by go_simp; first | (go_bits; first | exact rfl | exact ⟨by omega, rfl⟩) | exact rfl | exact (if_neg (by omega)).trans rfl | exact ⟨by omega, rfl⟩)) (by simp only [Act.put, List.setIfInBounds_toArray, List.set_cons_succ, List.set_cons_zero]; rfl) ?_
    | refine wpG_no (by rfl) (by simp only [Act.put, List.setIfInBounds_toArray, List.set_cons_succ, List.set_cons_zero]; rfl) ?_
  refine wpG_end (fun w6 hx6 => wpList_nil (gQ_normal ?_))
  go_wp2_with fail
  exact ret_two rfl rfl rfl rfl ⟨rfl, hx0.trans (hx2.trans (hx3.trans (hx4.trans hx6)))⟩

set_option maxRecDepth 100000 in
set_option maxHeartbeats 2000000 in
theorem find_no_gR (v : Value) (o : Option T) (q : Int) (w : World) (h : IsRope w v o) (hT : Lib.Utf8Tabs 0 1 w) (hs : (txt o).size ≤ 1048576) (hno : ∀ k : Nat, k ≤ (txt o).size → ((gR (txt o).data.toList k : Nat) : Int) ≠ q) :
    Calls Tryd.prog 29 #[v, .int .i64 q, .func (.func 11) #[v] #[]] w fun e w' => e = .returned (.tuple #[.int .i64 0, .bool false]) ∧ Ext w w' := by
  have hl := len_eq (txt o)
  have hmono : ∀ a b, a ≤ b → b ≤ (txt o).size → gR (txt o).data.toList a ≤ gR (txt o).data.toList b := fun a b h1 h2 => (gR_mono (txt o).data.toList a b h1 (by omega)).1
  have hcl : ∀ k : Nat, k ≤ (txt o).size → clampN (k : Nat) (txt o) = k := fun k hk => by unfold clampN; omega
  have hc : ∀ w2, Ext w w2 → ∀ k : Nat, k ≤ (txt o).size → Calls Tryd.prog 11 #[v, .int .i64 (k : Nat)] w2 fun e w3 => e = .returned (.int .i64 (gR (txt o).data.toList k : Nat)) ∧ Ext w2 w3 := by
    intro w2 hx2 k hk
    have := c_RuneOf v o (k : Nat) w2 (h.mono hx2) (tabs_mono hx2 hT) hs
    rw [hcl k hk] at this
    exact this
  have Hc := Lib.hid hc
  have H := Lib.hid h
  have HM := Lib.hid hmono
  have HN := Lib.hid hno
  clear hc hcl hmono h hno
  go_enter Tryd.func29, Tryd.ntmps29
  go_upto_region 1 with fail
  refine wp_gen (fun W => Ext w W ∧ W.heap[w.heap.size]? = some (.cells #[.int .i64 q] 3 (0, 0)) ∧ W.heap[w.heap.size + 1]? = some (.cells #[.func (.func 11) #[v] #[]] 34 (0, 0))) ⟨((Ext.refl w).alloc _).alloc _, alloc2_blk w _ _⟩ (fun w0 hw0 => ?_)
  obtain ⟨hx0, hb1, hb2⟩ := hw0
  have q1 : ∀ w2, Ext w0 w2 → ∀ i, w2.cell? ⟨w.heap.size, i, none⟩ = _ := fun w2 h i => cell_blk (h.blk hb1) i
  have q2 : ∀ w2, Ext w0 w2 → ∀ i, w2.cell? ⟨w.heap.size + 1, i, none⟩ = _ := fun w2 h i => cell_blk (h.blk hb2) i
  by_cases h0 : q < 0
  · refine wp_lex [true, true, true, true, true, true, true, true, true, true] (by kernel_rfl) (by kernel_rfl) ?_
    repeat first
      | refine wpG_move (by rfl) (by simp only [Act.eval, Array.getD_eq_getD_getElem?, List.getElem?_toArray, List.getElem?_cons_succ, List.getElem?_cons_zero, Option.getD_some]; try rfl) (by simp only [Act.put, List.setIfInBounds_toArray, List.set_cons_succ, List.set_cons_zero]; rfl) ?_
      | refine wpG_assign (by rfl) (by simp only [Act.eval, Array.getD_eq_getD_getElem?, List.getElem?_toArray, List.getElem?_cons_succ, List.getElem?_cons_zero, Option.getD_some]; try rfl) (by simp only [Act.put, List.setIfInBounds_toArray, List.set_cons_succ, List.set_cons_zero]; rfl) ?_
      | refine wpG_val (by rfl) (fun w' hx => (by go_simp; first | (go_bits; first | exact rfl | exact ⟨by omega, rfl⟩) | exact rfl | exact (if_neg (by omega)).trans rfl | exact ⟨by omega, rfl⟩)) (by simp only [Act.put, List.setIfInBounds_toArray, List.set_cons_succ, List.set_cons_zero]; rfl) ?_
      | refine wpG_no (by rfl) (by simp only [Act.put, List.setIfInBounds_toArray, List.set_cons_succ, List.set_cons_zero]; rfl) ?_
    refine wpG_end (fun w2 hx2 => wpList_nil (gQ_normal ?_))
    go_wp2_with fail
    exact ret_two rfl rfl rfl rfl ⟨rfl, hx0.trans hx2⟩
  have h1 : 0 ≤ q := by omega
  by_cases h2 : ((gR (txt o).data.toList (txt o).size : Nat) : Int) < q
  · refine wp_lex [true, true, true, true, true, true, true, true, true, true] (by kernel_rfl) (by kernel_rfl) ?_
    repeat first
      | refine wpG_move (by rfl) (by simp only [Act.eval, Array.getD_eq_getD_getElem?, List.getElem?_toArray, List.getElem?_cons_succ, List.getElem?_cons_zero, Option.getD_some]; try rfl) (by simp only [Act.put, List.setIfInBounds_toArray, List.set_cons_succ, List.set_cons_zero]; rfl) ?_
      | refine wpG_assign (by rfl) (by simp only [Act.eval, Array.getD_eq_getD_getElem?, List.getElem?_toArray, List.getElem?_cons_succ, List.getElem?_cons_zero, Option.getD_some]; try rfl) (by simp only [Act.put, List.setIfInBounds_toArray, List.set_cons_succ, List.set_cons_zero]; rfl) ?_
      | refine wpG_call (by rfl) (fun w' hx => (by go_simp; first | exact rfl | exact ⟨rfl, rfl⟩)) (fun w' hx => (by first | exact c_Len v o w' (H.out.mono (hx0.trans hx)) (by omega) | exact Hc.out w' (hx0.trans hx) _ (Nat.le_refl _))) (by simp only [Act.put, List.setIfInBounds_toArray, List.set_cons_succ, List.set_cons_zero]; rfl) ?_
      | refine wpG_val (by rfl) (fun w' hx => (by go_simp; first | (go_bits; first | exact rfl | exact ⟨by omega, rfl⟩) | exact rfl | exact (if_neg (by omega)).trans rfl | exact ⟨by omega, rfl⟩)) (by simp only [Act.put, List.setIfInBounds_toArray, List.set_cons_succ, List.set_cons_zero]; rfl) ?_
      | refine wpG_no (by rfl) (by simp only [Act.put, List.setIfInBounds_toArray, List.set_cons_succ, List.set_cons_zero]; rfl) ?_
    refine wpG_end (fun w2 hx2 => wpList_nil (gQ_normal ?_))
    go_wp2_with fail
    exact ret_two rfl rfl rfl rfl ⟨rfl, hx0.trans hx2⟩
  have h3 : q ≤ ((gR (txt o).data.toList (txt o).size : Nat) : Int) := by omega
  refine wp_lex [true, true, true, true, true, true, true, true, true, true] (by kernel_rfl) (by kernel_rfl) ?_
  repeat first
    | refine wpG_move (by rfl) (by simp only [Act.eval, Array.getD_eq_getD_getElem?, List.getElem?_toArray, List.getElem?_cons_succ, List.getElem?_cons_zero, Option.getD_some]; try rfl) (by simp only [Act.put, List.setIfInBounds_toArray, List.set_cons_succ, List.set_cons_zero]; rfl) ?_
    | refine wpG_assign (by rfl) (by simp only [Act.eval, Array.getD_eq_getD_getElem?, List.getElem?_toArray, List.getElem?_cons_succ, List.getElem?_cons_zero, Option.getD_some]; try rfl) (by simp only [Act.put, List.setIfInBounds_toArray, List.set_cons_succ, List.set_cons_zero]; rfl) ?_
    | refine wpG_call (by rfl) (fun w' hx => (by go_simp; first | exact rfl | exact ⟨rfl, rfl⟩)) (fun w' hx => (by first | exact c_Len v o w' (H.out.mono (hx0.trans hx)) (by omega) | exact Hc.out w' (hx0.trans hx) _ (Nat.le_refl _))) (by simp only [Act.put, List.setIfInBounds_toArray, List.set_cons_succ, List.set_cons_zero]; rfl) ?_
    | refine wpG_val (by rfl) (fun w' hx => (by go_simp; first | (go_bits; first | exact rfl | exact ⟨by omega, rfl⟩) | exact rfl | exact (if_neg (by omega)).trans rfl | exact ⟨by omega, rfl⟩)) (by simp only [Act.put, List.setIfInBounds_toArray, List.set_cons_succ, List.set_cons_zero]; rfl) ?_
    | refine wpG_no (by rfl) (by simp only [Act.put, List.setIfInBounds_toArray, List.set_cons_succ, List.set_cons_zero]; rfl) ?_
  refine wpG_end (fun w2 hx2 => wpList_nil (gQ_normal ?_))
  go_wp2_with fail
  refine (c_Len v o _ (H.out.mono (hx0.trans hx2)) (by omega)).mono ?_
  rintro e w3 ⟨rfl, hx3⟩
  go_wp2_with fail
  refine (c_Search (txt o).size _ _ (fun k => decide (q ≤ (gR (txt o).data.toList k : Nat))) _ hs (says_gR (w.heap.size + 1) w.heap.size v o q _ (H.out.mono (hx0.trans (hx2.trans hx3))) (tabs_mono (hx0.trans (hx2.trans hx3)) hT) hs ((hx2.trans hx3).blk hb2) ((hx2.trans hx3).blk hb1)) ?_).mono ?_
  · intro a b hab hb ha
    have := HM.out a b hab (by omega)
    simp only [decide_eq_true_eq] at ha ⊢
    omega
  rintro e w4 ⟨k, rfl, hk, hlo, hhi, hx4⟩
  have hne := HN.out k hk
  clear hlo hhi h2 h3
  obtain ⟨gk, hgk⟩ : ∃ gk, gR (txt o).data.toList k = gk := ⟨_, rfl⟩
  rw [hgk] at hne
  have hne2 : (((gk : Nat) : Int) == q) = false := beq_false_of_ne hne
  have hc2 : ∀ w5, Ext w4 w5 → Calls Tryd.prog 11 #[v, .int .i64 (k : Nat)] w5 fun e w3 => e = .returned (.int .i64 (gk : Nat)) ∧ Ext w5 w3 := by
    intro w5 hx5
    have := Hc.out w5 (hx0.trans (hx2.trans (hx3.trans (hx4.trans hx5)))) k hk
    rw [hgk] at this
    exact this
  have Hc2 := Lib.hid hc2
  clear hc2 hgk
  go_wp2_with fail
  have q1 : ∀ w5, Ext w4 w5 → ∀ i, w5.cell? ⟨w.heap.size, i, none⟩ = _ := fun w5 h i => cell_blk ((hx2.trans (hx3.trans (hx4.trans h))).blk hb1) i
  have q2 : ∀ w5, Ext w4 w5 → ∀ i, w5.cell? ⟨w.heap.size + 1, i, none⟩ = _ := fun w5 h i => cell_blk ((hx2.trans (hx3.trans (hx4.trans h))).blk hb2) i
  refine wp_lex [true, true, true, true, true] (by kernel_rfl) (by kernel_rfl) ?_
  repeat first
    | refine wpG_move (by rfl) (by simp only [Act.eval, Array.getD_eq_getD_getElem?, List.getElem?_toArray, List.getElem?_cons_succ, List.getElem?_cons_zero, Option.getD_some]; try rfl) (by simp only [Act.put, List.setIfInBounds_toArray, List.set_cons_succ, List.set_cons_zero]; rfl) ?_
    | refine wpG_assign (by rfl) (by simp only [Act.eval, Array.getD_eq_getD_getElem?, List.getElem?_toArray, List.getElem?_cons_succ, List.getElem?_cons_zero, Option.getD_some]; try rfl) (by simp only [Act.put, List.setIfInBounds_toArray, List.set_cons_succ, List.set_cons_zero]; rfl) ?_
    | refine wpG_call (by rfl) (fun w' hx => (by go_simp; first | exact rfl | exact ⟨rfl, rfl⟩)) (fun w' hx => (by first | exact Hc2.out w' hx)) (by simp only [Act.put, List.setIfInBounds_toArray, List.set_cons_succ, List.set_cons_zero]; rfl) ?_
    | refine wpG_val (by rfl) (fun w' hx => (by go_simp; first | (go_bits; first | exact rfl | exact ⟨by omega, rfl⟩) | exact rfl | exact (if_neg (by omega)).trans rfl | exact ⟨by omega, rfl⟩)) (by simp only [Act.put, List.setIfInBounds_toArray, List.set_cons_succ, List.set_cons_zero]; rfl) ?_
    | refine wpG_no (by rfl) (by simp only [Act.put, List.setIfInBounds_toArray, List.set_cons_succ, List.set_cons_zero]; rfl) ?_
  refine wpG_end (fun w6 hx6 => wpList_nil (gQ_normal ?_))
  go_wp2_with fail
  exact ret_two rfl rfl rfl rfl ⟨rfl, hx0.trans (hx2.trans (hx3.trans (hx4.trans hx6)))⟩

theorem c_AtRune_yes (v : Value) (o : Option T) (q K : Nat) (w : World) (h : IsRope w v o) (hT : Lib.Utf8Tabs 0 1 w) (hs : (txt o).size ≤ 1048576) (hK : K ≤ (txt o).size) (hg : gR (txt o).data.toList K = q) (hlow : ∀ a, a < K → gR (txt o).data.toList a < q) :
    Calls Tryd.prog 10 #[v, .int .i64 (q : Nat)] w fun e w' => e = .returned (.tuple #[.int .i64 (K : Nat), .bool true]) ∧ Ext w w' := by
  have HG := Lib.hid hg
  have HL := Lib.hid hlow
  clear hg hlow
  go_enter Tryd.func10, Tryd.ntmps10
  go_wp2_with fail
  refine (find_yes_gR v o q K _ h hT hs hK HG.out HL.out).mono ?_
  rintro e w1 ⟨rfl, hx1⟩
  go_wp2_with fail
  exact ret_two rfl rfl rfl rfl ⟨rfl, hx1⟩
theorem c_AtRune_no (v : Value) (o : Option T) (q : Int) (w : World) (h : IsRope w v o) (hT : Lib.Utf8Tabs 0 1 w) (hs : (txt o).size ≤ 1048576) (hno : ∀ k : Nat, k ≤ (txt o).size → ((gR (txt o).data.toList k : Nat) : Int) ≠ q) :
    Calls Tryd.prog 10 #[v, .int .i64 q] w fun e w' => e = .returned (.tuple #[.int .i64 0, .bool false]) ∧ Ext w w' := by
  have HN := Lib.hid hno
  clear hno
  go_enter Tryd.func10, Tryd.ntmps10
  go_wp2_with fail
  refine (find_no_gR v o q _ h hT hs HN.out).mono ?_
  rintro e w1 ⟨rfl, hx1⟩
  go_wp2_with fail
  exact ret_two rfl rfl rfl rfl ⟨rfl, hx1⟩

set_option maxRecDepth 100000 in
set_option maxHeartbeats 1000000 in
theorem says_gU (b1 b2 : Nat) (v : Value) (o : Option T) (q : Int) (w : World) (h : IsRope w v o) (hT : Lib.Utf8Tabs 0 1 w) (hs : (txt o).size ≤ 1048576)
    (h1 : w.heap[b1]? = some (.cells #[.func (.func 13) #[v] #[]] 34 (0, 0))) (h2 : w.heap[b2]? = some (.cells #[.int .i64 q] 3 (0, 0))) :
    Says w (.pointer (some ⟨b1, 0, none⟩)) (.pointer (some ⟨b2, 0, none⟩)) (txt o).size (fun k => decide (q ≤ (gU (txt o).data.toList k : Nat))) := by
  intro w' hx k hk
  have q1 : ∀ w2, Ext w' w2 → ∀ i, w2.cell? ⟨b1, i, none⟩ = _ := fun w2 h i => cell_blk ((hx.trans h).blk h1) i
  have q2 : ∀ w2, Ext w' w2 → ∀ i, w2.cell? ⟨b2, i, none⟩ = _ := fun w2 h i => cell_blk ((hx.trans h).blk h2) i
  have hcl : clampN (k : Nat) (txt o) = k := by unfold clampN; omega
  have hc : ∀ w2, Ext w' w2 → Calls Tryd.prog 13 #[v, .int .i64 (k : Nat)] w2 fun e w3 => e = .returned (.int .i64 (gU (txt o).data.toList k : Nat)) ∧ Ext w2 w3 := by
    intro w2 hx2
    have := c_UnitOf v o (k : Nat) w2 (h.mono (hx.trans hx2)) (tabs_mono (hx.trans hx2) hT) hs
    rw [hcl] at this
    exact this
  have Hc := Lib.hid hc
  clear hc hcl
  go_enter Tryd.func55, Tryd.ntmps55
  go_wp2_with fail
  refine wp_lex [true, true, true, true, true, true] (by kernel_rfl) (by kernel_rfl) ?_
  repeat first
    | refine wpG_move (by rfl) (by simp only [Act.eval, Array.getD_eq_getD_getElem?, List.getElem?_toArray, List.getElem?_cons_succ, List.getElem?_cons_zero, Option.getD_some]; try rfl) (by simp only [Act.put, List.setIfInBounds_toArray, List.set_cons_succ, List.set_cons_zero]; rfl) ?_
    | refine wpG_assign (by rfl) (by simp only [Act.eval, Array.getD_eq_getD_getElem?, List.getElem?_toArray, List.getElem?_cons_succ, List.getElem?_cons_zero, Option.getD_some]; try rfl) (by simp only [Act.put, List.setIfInBounds_toArray, List.set_cons_succ, List.set_cons_zero]; rfl) ?_
    | refine wpG_call (by rfl) (fun w' hx => (by go_simp; first | exact rfl | exact ⟨rfl, rfl⟩)) (fun w' hx => (by first | exact Hc.out w' hx)) (by simp only [Act.put, List.setIfInBounds_toArray, List.set_cons_succ, List.set_cons_zero]; rfl) ?_
    | refine wpG_val (by rfl) (fun w' hx => (by go_simp; first | (go_bits; first | exact rfl | exact ⟨by omega, rfl⟩) | exact rfl | exact (if_neg (by omega)).trans rfl | exact ⟨by omega, rfl⟩)) (by simp only [Act.put, List.setIfInBounds_toArray, List.set_cons_succ, List.set_cons_zero]; rfl) ?_
    | refine wpG_no (by rfl) (by simp only [Act.put, List.setIfInBounds_toArray, List.set_cons_succ, List.set_cons_zero]; rfl) ?_
  refine wpG_end (fun w2 hx2 => wpList_nil (gQ_normal ?_))
  go_wp2_with fail
  exact ret_one rfl rfl rfl ⟨rfl, hx2⟩

set_option maxRecDepth 100000 in
set_option maxHeartbeats 2000000 in
theorem find_yes_gU (v : Value) (o : Option T) (q K : Nat) (w : World) (h : IsRope w v o) (hT : Lib.Utf8Tabs 0 1 w) (hs : (txt o).size ≤ 1048576) (hK : K ≤ (txt o).size) (hg : gU (txt o).data.toList K = q) (hlow : ∀ a, a < K → gU (txt o).data.toList a < q) :
    Calls Tryd.prog 29 #[v, .int .i64 (q : Nat), .func (.func 13) #[v] #[]] w fun e w' => e = .returned (.tuple #[.int .i64 (K : Nat), .bool true]) ∧ Ext w w' := by
  have hl := len_eq (txt o)
  have hmono : ∀ a b, a ≤ b → b ≤ (txt o).size → gU (txt o).data.toList a ≤ gU (txt o).data.toList b := fun a b h1 h2 => (gR_mono (txt o).data.toList a b h1 (by omega)).2
  have hcl : ∀ k : Nat, k ≤ (txt o).size → clampN (k : Nat) (txt o) = k := fun k hk => by unfold clampN; omega
  have hc : ∀ w2, Ext w w2 → ∀ k : Nat, k ≤ (txt o).size → Calls Tryd.prog 13 #[v, .int .i64 (k : Nat)] w2 fun e w3 => e = .returned (.int .i64 (gU (txt o).data.toList k : Nat)) ∧ Ext w2 w3 := by
    intro w2 hx2 k hk
    have := c_UnitOf v o (k : Nat) w2 (h.mono hx2) (tabs_mono hx2 hT) hs
    rw [hcl k hk] at this
    exact this
  have hq2 : ((q : Nat) : Int) ≤ (gU (txt o).data.toList (txt o).size : Nat) := by have := hmono K (txt o).size hK (Nat.le_refl _); omega
  have hq' : ¬ ((gU (txt o).data.toList (txt o).size : Nat) : Int) < (q : Nat) := by omega
  have Hc := Lib.hid hc
  have H := Lib.hid h
  have HM := Lib.hid hmono
  have HG := Lib.hid hg
  have HL := Lib.hid hlow
  clear hc hcl hmono h hg hlow
  go_enter Tryd.func29, Tryd.ntmps29
  go_upto_region 1 with fail
  refine wp_gen (fun W => Ext w W ∧ W.heap[w.heap.size]? = some (.cells #[.int .i64 (q : Nat)] 3 (0, 0)) ∧ W.heap[w.heap.size + 1]? = some (.cells #[.func (.func 13) #[v] #[]] 34 (0, 0))) ⟨((Ext.refl w).alloc _).alloc _, alloc2_blk w _ _⟩ (fun w0 hw0 => ?_)
  obtain ⟨hx0, hb1, hb2⟩ := hw0
  have q1 : ∀ w2, Ext w0 w2 → ∀ i, w2.cell? ⟨w.heap.size, i, none⟩ = _ := fun w2 h i => cell_blk (h.blk hb1) i
  have q2 : ∀ w2, Ext w0 w2 → ∀ i, w2.cell? ⟨w.heap.size + 1, i, none⟩ = _ := fun w2 h i => cell_blk (h.blk hb2) i
  refine wp_lex [true, true, true, true, true, true, true, true, true, true] (by kernel_rfl) (by kernel_rfl) ?_
  repeat first
    | refine wpG_move (by rfl) (by simp only [Act.eval, Array.getD_eq_getD_getElem?, List.getElem?_toArray, List.getElem?_cons_succ, List.getElem?_cons_zero, Option.getD_some]; try rfl) (by simp only [Act.put, List.setIfInBounds_toArray, List.set_cons_succ, List.set_cons_zero]; rfl) ?_
    | refine wpG_assign (by rfl) (by simp only [Act.eval, Array.getD_eq_getD_getElem?, List.getElem?_toArray, List.getElem?_cons_succ, List.getElem?_cons_zero, Option.getD_some]; try rfl) (by simp only [Act.put, List.setIfInBounds_toArray, List.set_cons_succ, List.set_cons_zero]; rfl) ?_
    | refine wpG_call (by rfl) (fun w' hx => (by go_simp; first | exact rfl | exact ⟨rfl, rfl⟩)) (fun w' hx => (by first | exact c_Len v o w' (H.out.mono (hx0.trans hx)) (by omega) | exact Hc.out w' (hx0.trans hx) _ (Nat.le_refl _))) (by simp only [Act.put, List.setIfInBounds_toArray, List.set_cons_succ, List.set_cons_zero]; rfl) ?_
    | refine wpG_val (by rfl) (fun w' hx => (by go_simp; first | (go_bits; first | exact rfl | exact ⟨by omega, rfl⟩) | exact rfl | exact (if_neg (by omega)).trans rfl | exact ⟨by omega, rfl⟩)) (by simp only [Act.put, List.setIfInBounds_toArray, List.set_cons_succ, List.set_cons_zero]; rfl) ?_
    | refine wpG_no (by rfl) (by simp only [Act.put, List.setIfInBounds_toArray, List.set_cons_succ, List.set_cons_zero]; rfl) ?_
  refine wpG_end (fun w2 hx2 => wpList_nil (gQ_normal ?_))
  go_wp2_with fail
  refine (c_Len v o _ (H.out.mono (hx0.trans hx2)) (by omega)).mono ?_
  rintro e w3 ⟨rfl, hx3⟩
  go_wp2_with fail
  refine (c_Search (txt o).size _ _ (fun k => decide ((q : Int) ≤ (gU (txt o).data.toList k : Nat))) _ hs (says_gU (w.heap.size + 1) w.heap.size v o q _ (H.out.mono (hx0.trans (hx2.trans hx3))) (tabs_mono (hx0.trans (hx2.trans hx3)) hT) hs ((hx2.trans hx3).blk hb2) ((hx2.trans hx3).blk hb1)) ?_).mono ?_
  · intro a b hab hb ha
    have := HM.out a b hab (by omega)
    simp only [decide_eq_true_eq] at ha ⊢
    omega
  rintro e w4 ⟨k, rfl, hk, hlo, hhi, hx4⟩
  have hkK : k = K := by
    have hKq := HG.out
    rcases Nat.lt_trichotomy k K with hlt | heq | hgt
    · have h1 := HL.out k hlt
      rcases hhi with rfl | hh
      · omega
      · simp only [decide_eq_true_eq] at hh
        omega
    · exact heq
    · have h1 := hlo K hgt
      simp only [decide_eq_false_iff_not] at h1
      omega
  subst hkK
  clear hlo hhi hq' hq2
  have hc2 : ∀ w5, Ext w4 w5 → Calls Tryd.prog 13 #[v, .int .i64 (k : Nat)] w5 fun e w3 => e = .returned (.int .i64 (q : Nat)) ∧ Ext w5 w3 := by
    intro w5 hx5
    have := Hc.out w5 (hx0.trans (hx2.trans (hx3.trans (hx4.trans hx5)))) k hk
    rw [HG.out] at this
    exact this
  have Hc2 := Lib.hid hc2
  clear hc2
  go_wp2_with fail
  have q1 : ∀ w5, Ext w4 w5 → ∀ i, w5.cell? ⟨w.heap.size, i, none⟩ = _ := fun w5 h i => cell_blk ((hx2.trans (hx3.trans (hx4.trans h))).blk hb1) i
  have q2 : ∀ w5, Ext w4 w5 → ∀ i, w5.cell? ⟨w.heap.size + 1, i, none⟩ = _ := fun w5 h i => cell_blk ((hx2.trans (hx3.trans (hx4.trans h))).blk hb2) i
  refine wp_lex [true, true, true, true, true] (by kernel_rfl) (by kernel_rfl) ?_
  repeat first
    | refine wpG_move (by rfl) (by simp only [Act.eval, Array.getD_eq_getD_getElem?, List.getElem?_toArray, List.getElem?_cons_succ, List.getElem?_cons_zero, Option.getD_some]; try rfl) (by simp only [Act.put, List.setIfInBounds_toArray, List.set_cons_succ, List.set_cons_zero]; rfl) ?_
    | refine wpG_assign (by rfl) (by simp only [Act.eval, Array.getD_eq_getD_getElem?, List.getElem?_toArray, List.getElem?_cons_succ, List.getElem?_cons_zero, Option.getD_some]; try rfl) (by simp only [Act.put, List.setIfInBounds_toArray, List.set_cons_succ, List.set_cons_zero]; rfl) ?_
    | refine wpG_call (by rfl) (fun w' hx => (by go_simp; first | exact rfl | exact ⟨rfl, rfl⟩)) (fun w' hx => (by first | exact Hc2.out w' hx)) (by simp only [Act.put, List.setIfInBounds_toArray, List.set_cons_succ, List.set_cons_zero]; rfl) ?_
    | refine wpG_val (by rfl) (fun w' hx => (by go_simp; first | (go_bits; first | exact rfl | exact ⟨by omega, rfl⟩) | exact rfl | exact (if_neg (by omega)).trans rfl | exact ⟨by omega, rfl⟩)) (by simp only [Act.put, List.setIfInBounds_toArray, List.set_cons_succ, List.set_cons_zero]; rfl) ?_
    | refine wpG_no (by rfl) (by simp only [Act.put, List.setIfInBounds_toArray, List.set_cons_succ, List.set_cons_zero]; rfl) ?_
  refine wpG_end (fun w6 hx6 => wpList_nil (gQ_normal ?_))
  go_wp2_with fail
  exact ret_two rfl rfl rfl rfl ⟨rfl, hx0.trans (hx2.trans (hx3.trans (hx4.trans hx6)))⟩

set_option maxRecDepth 100000 in
set_option maxHeartbeats 2000000 in
theorem find_no_gU (v : Value) (o : Option T) (q : Int) (w : World) (h : IsRope w v o) (hT : Lib.Utf8Tabs 0 1 w) (hs : (txt o).size ≤ 1048576) (hno : ∀ k : Nat, k ≤ (txt o).size → ((gU (txt o).data.toList k : Nat) : Int) ≠ q) :
    Calls Tryd.prog 29 #[v, .int .i64 q, .func (.func 13) #[v] #[]] w fun e w' => e = .returned (.tuple #[.int .i64 0, .bool false]) ∧ Ext w w' := by
  have hl := len_eq (txt o)
  have hmono : ∀ a b, a ≤ b → b ≤ (txt o).size → gU (txt o).data.toList a ≤ gU (txt o).data.toList b := fun a b h1 h2 => (gR_mono (txt o).data.toList a b h1 (by omega)).2
  have hcl : ∀ k : Nat, k ≤ (txt o).size → clampN (k : Nat) (txt o) = k := fun k hk => by unfold clampN; omega
  have hc : ∀ w2, Ext w w2 → ∀ k : Nat, k ≤ (txt o).size → Calls Tryd.prog 13 #[v, .int .i64 (k : Nat)] w2 fun e w3 => e = .returned (.int .i64 (gU (txt o).data.toList k : Nat)) ∧ Ext w2 w3 := by
    intro w2 hx2 k hk
    have := c_UnitOf v o (k : Nat) w2 (h.mono hx2) (tabs_mono hx2 hT) hs
    rw [hcl k hk] at this
    exact this
  have Hc := Lib.hid hc
  have H := Lib.hid h
  have HM := Lib.hid hmono
  have HN := Lib.hid hno
  clear hc hcl hmono h hno
  go_enter Tryd.func29, Tryd.ntmps29
  go_upto_region 1 with fail
  refine wp_gen (fun W => Ext w W ∧ W.heap[w.heap.size]? = some (.cells #[.int .i64 q] 3 (0, 0)) ∧ W.heap[w.heap.size + 1]? = some (.cells #[.func (.func 13) #[v] #[]] 34 (0, 0))) ⟨((Ext.refl w).alloc _).alloc _, alloc2_blk w _ _⟩ (fun w0 hw0 => ?_)
  obtain ⟨hx0, hb1, hb2⟩ := hw0
  have q1 : ∀ w2, Ext w0 w2 → ∀ i, w2.cell? ⟨w.heap.size, i, none⟩ = _ := fun w2 h i => cell_blk (h.blk hb1) i
  have q2 : ∀ w2, Ext w0 w2 → ∀ i, w2.cell? ⟨w.heap.size + 1, i, none⟩ = _ := fun w2 h i => cell_blk (h.blk hb2) i
  by_cases h0 : q < 0
  · refine wp_lex [true, true, true, true, true, true, true, true, true, true] (by kernel_rfl) (by kernel_rfl) ?_
    repeat first
      | refine wpG_move (by rfl) (by simp only [Act.eval, Array.getD_eq_getD_getElem?, List.getElem?_toArray, List.getElem?_cons_succ, List.getElem?_cons_zero, Option.getD_some]; try rfl) (by simp only [Act.put, List.setIfInBounds_toArray, List.set_cons_succ, List.set_cons_zero]; rfl) ?_
      | refine wpG_assign (by rfl) (by simp only [Act.eval, Array.getD_eq_getD_getElem?, List.getElem?_toArray, List.getElem?_cons_succ, List.getElem?_cons_zero, Option.getD_some]; try rfl) (by simp only [Act.put, List.setIfInBounds_toArray, List.set_cons_succ, List.set_cons_zero]; rfl) ?_
      | refine wpG_val (by rfl) (fun w' hx => (by go_simp; first | (go_bits; first | exact rfl | exact ⟨by omega, rfl⟩) | exact rfl | exact (if_neg (by omega)).trans rfl | exact ⟨by omega, rfl⟩)) (by simp only [Act.put, List.setIfInBounds_toArray, List.set_cons_succ, List.set_cons_zero]; rfl) ?_
      | refine wpG_no (by rfl) (by simp only [Act.put, List.setIfInBounds_toArray, List.set_cons_succ, List.set_cons_zero]; rfl) ?_
    refine wpG_end (fun w2 hx2 => wpList_nil (gQ_normal ?_))
    go_wp2_with fail
    exact ret_two rfl rfl rfl rfl ⟨rfl, hx0.trans hx2⟩
  have h1 : 0 ≤ q := by omega
  by_cases h2 : ((gU (txt o).data.toList (txt o).size : Nat) : Int) < q
  · refine wp_lex [true, true, true, true, true, true, true, true, true, true] (by kernel_rfl) (by kernel_rfl) ?_
    repeat first
      | refine wpG_move (by rfl) (by simp only [Act.eval, Array.getD_eq_getD_getElem?, List.getElem?_toArray, List.getElem?_cons_succ, List.getElem?_cons_zero, Option.getD_some]; try rfl) (by simp only [Act.put, List.setIfInBounds_toArray, List.set_cons_succ, List.set_cons_zero]; rfl) ?_
      | refine wpG_assign (by rfl) (by simp only [Act.eval, Array.getD_eq_getD_getElem?, List.getElem?_toArray, List.getElem?_cons_succ, List.getElem?_cons_zero, Option.getD_some]; try rfl) (by simp only [Act.put, List.setIfInBounds_toArray, List.set_cons_succ, List.set_cons_zero]; rfl) ?_
      | refine wpG_call (by rfl) (fun w' hx => (by go_simp; first | exact rfl | exact ⟨rfl, rfl⟩)) (fun w' hx => (by first | exact c_Len v o w' (H.out.mono (hx0.trans hx)) (by omega) | exact Hc.out w' (hx0.trans hx) _ (Nat.le_refl _))) (by simp only [Act.put, List.setIfInBounds_toArray, List.set_cons_succ, List.set_cons_zero]; rfl) ?_
      | refine wpG_val (by rfl) (fun w' hx => (by go_simp; first | (go_bits; first | exact rfl | exact ⟨by omega, rfl⟩) | exact rfl | exact (if_neg (by omega)).trans rfl | exact ⟨by omega, rfl⟩)) (by simp only [Act.put, List.setIfInBounds_toArray, List.set_cons_succ, List.set_cons_zero]; rfl) ?_
      | refine wpG_no (by rfl) (by simp only [Act.put, List.setIfInBounds_toArray, List.set_cons_succ, List.set_cons_zero]; rfl) ?_
    refine wpG_end (fun w2 hx2 => wpList_nil (gQ_normal ?_))
    go_wp2_with fail
    exact ret_two rfl rfl rfl rfl ⟨rfl, hx0.trans hx2⟩
  have h3 : q ≤ ((gU (txt o).data.toList (txt o).size : Nat) : Int) := by omega
  refine wp_lex [true, true, true, true, true, true, true, true, true, true] (by kernel_rfl) (by kernel_rfl) ?_
  repeat first
    | refine wpG_move (by rfl) (by simp only [Act.eval, Array.getD_eq_getD_getElem?, List.getElem?_toArray, List.getElem?_cons_succ, List.getElem?_cons_zero, Option.getD_some]; try rfl) (by simp only [Act.put, List.setIfInBounds_toArray, List.set_cons_succ, List.set_cons_zero]; rfl) ?_
    | refine wpG_assign (by rfl) (by simp only [Act.eval, Array.getD_eq_getD_getElem?, List.getElem?_toArray, List.getElem?_cons_succ, List.getElem?_cons_zero, Option.getD_some]; try rfl) (by simp only [Act.put, List.setIfInBounds_toArray, List.set_cons_succ, List.set_cons_zero]; rfl) ?_
    | refine wpG_call (by rfl) (fun w' hx => (by go_simp; first | exact rfl | exact ⟨rfl, rfl⟩)) (fun w' hx => (by first | exact c_Len v o w' (H.out.mono (hx0.trans hx)) (by omega) | exact Hc.out w' (hx0.trans hx) _ (Nat.le_refl _))) (by simp only [Act.put, List.setIfInBounds_toArray, List.set_cons_succ, List.set_cons_zero]; rfl) ?_
    | refine wpG_val (by rfl) (fun w' hx => (by go_simp; first | (go_bits; first | exact rfl | exact ⟨by omega, rfl⟩) | exact rfl | exact (if_neg (by omega)).trans rfl | exact ⟨by omega, rfl⟩)) (by simp only [Act.put, List.setIfInBounds_toArray, List.set_cons_succ, List.set_cons_zero]; rfl) ?_
    | refine wpG_no (by rfl) (by simp only [Act.put, List.setIfInBounds_toArray, List.set_cons_succ, List.set_cons_zero]; rfl) ?_
  refine wpG_end (fun w2 hx2 => wpList_nil (gQ_normal ?_))
  go_wp2_with fail
  refine (c_Len v o _ (H.out.mono (hx0.trans hx2)) (by omega)).mono ?_
  rintro e w3 ⟨rfl, hx3⟩
  go_wp2_with fail
  refine (c_Search (txt o).size _ _ (fun k => decide (q ≤ (gU (txt o).data.toList k : Nat))) _ hs (says_gU (w.heap.size + 1) w.heap.size v o q _ (H.out.mono (hx0.trans (hx2.trans hx3))) (tabs_mono (hx0.trans (hx2.trans hx3)) hT) hs ((hx2.trans hx3).blk hb2) ((hx2.trans hx3).blk hb1)) ?_).mono ?_
  · intro a b hab hb ha
    have := HM.out a b hab (by omega)
    simp only [decide_eq_true_eq] at ha ⊢
    omega
  rintro e w4 ⟨k, rfl, hk, hlo, hhi, hx4⟩
  have hne := HN.out k hk
  clear hlo hhi h2 h3
  obtain ⟨gk, hgk⟩ : ∃ gk, gU (txt o).data.toList k = gk := ⟨_, rfl⟩
  rw [hgk] at hne
  have hne2 : (((gk : Nat) : Int) == q) = false := beq_false_of_ne hne
  have hc2 : ∀ w5, Ext w4 w5 → Calls Tryd.prog 13 #[v, .int .i64 (k : Nat)] w5 fun e w3 => e = .returned (.int .i64 (gk : Nat)) ∧ Ext w5 w3 := by
    intro w5 hx5
    have := Hc.out w5 (hx0.trans (hx2.trans (hx3.trans (hx4.trans hx5)))) k hk
    rw [hgk] at this
    exact this
  have Hc2 := Lib.hid hc2
  clear hc2 hgk
  go_wp2_with fail
  have q1 : ∀ w5, Ext w4 w5 → ∀ i, w5.cell? ⟨w.heap.size, i, none⟩ = _ := fun w5 h i => cell_blk ((hx2.trans (hx3.trans (hx4.trans h))).blk hb1) i
  have q2 : ∀ w5, Ext w4 w5 → ∀ i, w5.cell? ⟨w.heap.size + 1, i, none⟩ = _ := fun w5 h i => cell_blk ((hx2.trans (hx3.trans (hx4.trans h))).blk hb2) i
  refine wp_lex [true, true, true, true, true] (by kernel_rfl) (by kernel_rfl) ?_
  repeat first
    | refine wpG_move (by rfl) (by simp only [Act.eval, Array.getD_eq_getD_getElem?, List.getElem?_toArray, List.getElem?_cons_succ, List.getElem?_cons_zero, Option.getD_some]; try rfl) (by simp only [Act.put, List.setIfInBounds_toArray, List.set_cons_succ, List.set_cons_zero]; rfl) ?_
    | refine wpG_assign (by rfl) (by simp only [Act.eval, Array.getD_eq_getD_getElem?, List.getElem?_toArray, List.getElem?_cons_succ, List.getElem?_cons_zero, Option.getD_some]; try rfl) (by simp only [Act.put, List.setIfInBounds_toArray, List.set_cons_succ, List.set_cons_zero]; rfl) ?_
    | refine wpG_call (by rfl) (fun w' hx => (by go_simp; first | exact rfl | exact ⟨rfl, rfl⟩)) (fun w' hx => (by first | exact Hc2.out w' hx)) (by simp only [Act.put, List.setIfInBounds_toArray, List.set_cons_succ, List.set_cons_zero]; rfl) ?_
    | refine wpG_val (by rfl) (fun w' hx => (by go_simp; first | (go_bits; first | exact rfl | exact ⟨by omega, rfl⟩) | exact rfl | exact (if_neg (by omega)).trans rfl | exact ⟨by omega, rfl⟩)) (by simp only [Act.put, List.setIfInBounds_toArray, List.set_cons_succ, List.set_cons_zero]; rfl) ?_
    | refine wpG_no (by rfl) (by simp only [Act.put, List.setIfInBounds_toArray, List.set_cons_succ, List.set_cons_zero]; rfl) ?_
  refine wpG_end (fun w6 hx6 => wpList_nil (gQ_normal ?_))
  go_wp2_with fail
  exact ret_two rfl rfl rfl rfl ⟨rfl, hx0.trans (hx2.trans (hx3.trans (hx4.trans hx6)))⟩

theorem c_AtUnit_yes (v : Value) (o : Option T) (q K : Nat) (w : World) (h : IsRope w v o) (hT : Lib.Utf8Tabs 0 1 w) (hs : (txt o).size ≤ 1048576) (hK : K ≤ (txt o).size) (hg : gU (txt o).data.toList K = q) (hlow : ∀ a, a < K → gU (txt o).data.toList a < q) :
    Calls Tryd.prog 12 #[v, .int .i64 (q : Nat)] w fun e w' => e = .returned (.tuple #[.int .i64 (K : Nat), .bool true]) ∧ Ext w w' := by
  have HG := Lib.hid hg
  have HL := Lib.hid hlow
  clear hg hlow
  go_enter Tryd.func12, Tryd.ntmps12
  go_wp2_with fail
  refine (find_yes_gU v o q K _ h hT hs hK HG.out HL.out).mono ?_
  rintro e w1 ⟨rfl, hx1⟩
  go_wp2_with fail
  exact ret_two rfl rfl rfl rfl ⟨rfl, hx1⟩
theorem c_AtUnit_no (v : Value) (o : Option T) (q : Int) (w : World) (h : IsRope w v o) (hT : Lib.Utf8Tabs 0 1 w) (hs : (txt o).size ≤ 1048576) (hno : ∀ k : Nat, k ≤ (txt o).size → ((gU (txt o).data.toList k : Nat) : Int) ≠ q) :
    Calls Tryd.prog 12 #[v, .int .i64 q] w fun e w' => e = .returned (.tuple #[.int .i64 0, .bool false]) ∧ Ext w w' := by
  have HN := Lib.hid hno
  clear hno
  go_enter Tryd.func12, Tryd.ntmps12
  go_wp2_with fail
  refine (find_no_gU v o q _ h hT hs HN.out).mono ?_
  rintro e w1 ⟨rfl, hx1⟩
  go_wp2_with fail
  exact ret_two rfl rfl rfl rfl ⟨rfl, hx1⟩
end Go.Proofs.YtohpekbooapcjaaDoor
