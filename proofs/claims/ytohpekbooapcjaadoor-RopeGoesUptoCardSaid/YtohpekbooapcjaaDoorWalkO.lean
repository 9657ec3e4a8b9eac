/-
  The search for a place.
-/
import Derived.Test.YtohpekbooapcjaaDoorWalkN
namespace Go.Proofs.YtohpekbooapcjaaDoor
open Go.RowKit Go.Rp

/-- What a function value that is asked for a number says. -/
def Says (w : World) (p1 p2 : Value) (n : Nat) (g : Nat → Bool) : Prop :=
  ∀ w', Ext w w' → ∀ h, h < n → Calls Tryd.prog 55 #[.int .i64 (h : Nat), p1, p2] w' fun e w'' => e = .returned (.bool (g h)) ∧ Ext w' w''

set_option maxRecDepth 100000 in
set_option maxHeartbeats 2000000 in
theorem c_Search (n : Nat) (p1 p2 : Value) (g : Nat → Bool) (w : World) (hn : n ≤ 1048576) (hg : Says w p1 p2 n g) (hm : ∀ a b, a ≤ b → b < n → g a = true → g b = true) :
    Calls Tryd.prog 54 #[.int .i64 (n : Nat), .func (.func 55) #[] #[p1, p2]] w fun e w' => ∃ k : Nat, e = .returned (.int .i64 (k : Nat)) ∧ k ≤ n ∧ (∀ a, a < k → g a = false) ∧ (k = n ∨ g k = true) ∧ Ext w w' := by
  have Hg := Lib.hid hg
  have Hm := Lib.hid hm
  clear hg hm
  go_enter Tryd.func54, Tryd.ntmps54
  go_wp2_with fail
  go_loopw [5, 6] (fun i j w' => ∃ a b : Nat, i = .int .i64 a ∧ j = .int .i64 b ∧ a ≤ b ∧ b ≤ n ∧ Hid ((∀ c, c < a → g c = false) ∧ (b = n ∨ g b = true)) ∧ Ext w w') (fun i j _ => (intOf j).toNat - (intOf i).toNat)
  case atStart => exact ⟨0, n, rfl, rfl, by omega, by omega, ⟨fun c hc => by omega, .inl rfl⟩, Ext.refl w⟩
  case round =>
    obtain ⟨a, b, rfl, rfl, h1, h2, h3, h4⟩ := hrel
    by_cases hlt : a < b
    · obtain ⟨m, hmm⟩ : ∃ m : Nat, m = (a + b) / 2 := ⟨_, rfl⟩
      have hm1 : a ≤ m := by omega
      have hm2 : m < b := by omega
      have HM := Lib.hid (show ((a : Int) + b) / 2 = (m : Nat) from by omega)
      clear hmm
      go_wp2_with fail
      rw [HM.out]
      refine (Hg.out wr h4 m (by omega)).mono ?_
      rintro e w1 ⟨rfl, hx1⟩
      by_cases hgm : g m = true
      · rw [hgm]
        have H3 : Hid ((∀ c, c < a → g c = false) ∧ (m = n ∨ g m = true)) := ⟨h3.out.1, .inr hgm⟩
        clear hgm h3
        go_wp2_with fail
        go_roundw
        case rel => exact ⟨a, m, rfl, rfl, hm1, by omega, H3, h4.trans hx1⟩
        case measure => simp [intOf]; omega
      · have hgf : g m = false := by simpa using hgm
        rw [hgf]
        have H3 : Hid ((∀ c, c < m + 1 → g c = false) ∧ (b = n ∨ g b = true)) := ⟨fun c hc => by
          by_cases hcm : c = m
          · rw [hcm]; exact hgf
          · cases hgc : g c with
            | false => rfl
            | true => rw [Hm.out c m (by omega) (by omega) hgc] at hgf; exact hgf, h3.out.2⟩
        clear hgm hgf h3
        go_wp2_with fail
        go_roundw
        case rel => exact ⟨m + 1, b, by go_num, rfl, by omega, h2, H3, h4.trans hx1⟩
        case measure => simp [intOf]; omega
    · go_wp2_with fail
      obtain rfl : a = b := by omega
      exact ret_one rfl rfl rfl ⟨a, rfl, h2, h3.out.1, h3.out.2, h4⟩

/-- How many bytes 10 stand ahead. -/
def linesAt (s : ByteArray) (k : Nat) : Nat := nBreaks (s.extract 0 k)
theorem linesAt_mono (s : ByteArray) (a b : Nat) (h : a ≤ b) : linesAt s a ≤ linesAt s b := by
  unfold linesAt nBreaks
  rw [toList_extract, toList_extract]
  simp only [List.drop_zero, Nat.sub_zero]
  have e : s.data.toList.take b = s.data.toList.take a ++ (s.data.toList.drop a).take (b - a) := by
    rw [← List.take_append_drop a (s.data.toList.take b), List.take_take, Nat.min_eq_left h, List.drop_take]
  rw [e, List.filter_append, List.length_append]
  omega
theorem linesAt_all (s : ByteArray) : linesAt s s.size = nBreaks s := by
  unfold linesAt
  congr 1
  apply ext_ba
  rw [toList_extract, take_all (by rw [List.length_drop, len_eq]; omega)]
  simp

set_option maxRecDepth 100000 in
set_option maxHeartbeats 1000000 in
/-- The question that the search asks: do so many lines end ahead of a place? -/
theorem says_lines (b1 b2 : Nat) (v : Value) (o : Option T) (q : Int) (w : World) (h : IsRope w v o) (hs : (txt o).size ≤ 1048576)
    (h1 : w.heap[b1]? = some (.cells #[.func (.func 16) #[v] #[]] 34 (0, 0))) (h2 : w.heap[b2]? = some (.cells #[.int .i64 q] 3 (0, 0))) :
    Says w (.pointer (some ⟨b1, 0, none⟩)) (.pointer (some ⟨b2, 0, none⟩)) (txt o).size (fun k => decide (q ≤ (linesAt (txt o) k : Nat))) := by
  intro w' hx k hk
  have q1 : ∀ w2, Ext w' w2 → ∀ i, w2.cell? ⟨b1, i, none⟩ = _ := fun w2 h i => cell_blk ((hx.trans h).blk h1) i
  have q2 : ∀ w2, Ext w' w2 → ∀ i, w2.cell? ⟨b2, i, none⟩ = _ := fun w2 h i => cell_blk ((hx.trans h).blk h2) i
  have hcl : clampN (k : Nat) (txt o) = k := by unfold clampN; omega
  have hc : ∀ w2, Ext w' w2 → Calls Tryd.prog 16 #[v, .int .i64 (k : Nat)] w2 fun e w3 => e = .returned (.int .i64 (linesAt (txt o) k : Nat)) ∧ Ext w2 w3 := by
    intro w2 hx2
    have := c_LineOf v o (k : Nat) w2 (h.mono (hx.trans hx2)) hs
    rw [hcl] at this
    exact this
  have Hc := Lib.hid hc
  clear hc hcl
  go_enter Tryd.func55, Tryd.ntmps55
  go_wp2_with fail
  refine wp_lex [true, true, true, true, true, true] (by kernel_rfl) (by kernel_rfl) ?_
  repeat first
    | refine wpG_move (by rfl) (by simp only [Act.eval, Array.getD_eq_getD_getElem?, List.getElem?_toArray, List.getElem?_cons_succ, List.getElem?_cons_zero, Option.getD_some]; try rfl) (by simp only [Act.put, List.setIfInBounds_toArray, List.set_cons_succ, List.set_cons_zero]; rfl) ?_
    | refine wpG_assign (by rfl) (by simp only [Act.eval, Array.getD_eq_getD_getElem?, List.getElem?_toArray, List.getElem?_cons_succ, List.getElem?_cons_zero, Option.getD_some]; try rfl) (by simp only [Act.put, List.setIfInBounds_toArray, List.set_cons_succ, List.set_cons_zero]; rfl) ?_
    | refine wpG_call (by rfl) (fun w' hx => (by go_simp; first | exact rfl | exact ⟨rfl, rfl⟩)) (fun w' hx => (by first | exact Hc.out w' hx)) (by simp only [Act.put, List.setIfInBounds_toArray, List.set_cons_succ, List.set_cons_zero]; rfl) ?_
    | refine wpG_val (by rfl) (fun w' hx => (by go_simp; first | (go_bits; first | exact rfl | exact ⟨by omega, rfl⟩) | exact rfl | exact (if_neg (by omega)).trans rfl | exact ⟨by omega, rfl⟩)) (by simp only [Act.put, List.setIfInBounds_toArray, List.set_cons_succ, List.set_cons_zero]; rfl) ?_
    | refine wpG_no (by rfl) (by simp only [Act.put, List.setIfInBounds_toArray, List.set_cons_succ, List.set_cons_zero]; rfl) ?_
  refine wpG_end (fun w2 hx2 => wpList_nil (gQ_normal ?_))
  go_wp2_with fail
  exact ret_one rfl rfl rfl ⟨rfl, hx2⟩
end Go.Proofs.YtohpekbooapcjaaDoor
