/-
  May a line end ahead of a rune? May a line end ahead of a rune?
-/
import Derived.Test.YtlmkbldiicbejaaGreatDoorLnD
section
namespace Go.Proofs.YtlmkbldiicbejaaGreatDoor
open Go.RowKit Go.Rp Go.Maps Go.Cl Go.Shelf Go.Gr Go.Ln

theorem NRow.eon {w w' : World} {v : Value} {l : List Nat} (h : NRow w v l) (hx : EOn (fun _ => True) w w') : NRow w' v l := by
  obtain ⟨p, cap, rfl, hc, h2⟩ := h
  refine ⟨p, cap, rfl, hc, fun hne => ?_⟩
  obtain ⟨b, rfl, hb, h3⟩ := h2 hne
  exact ⟨b, rfl, Nat.lt_of_lt_of_le hb hx.sz, fun i hi => hx.cell trivial (h3 i hi)⟩
set_option maxRecDepth 100000 in
set_option maxHeartbeats 2000000 in
theorem c_glued (vat : Value) (g cap : Nat) (C : List Nat) (j y : Nat) (b q : Int) (w : World) (h : NRow w (.slice (some ⟨g, 0, none⟩) C.length cap) C) (hn : j < C.length) (hy : C[j]'hn = y) (hl : C.length ≤ 65536) :
    Calls Tryz.prog 111 #[.agg #[vat, .slice (some ⟨g, 0, none⟩) C.length cap], .int .i64 ((j : Int) + 1), .int .i64 b, .int .i64 q] w fun e w' => e = .returned (.bool (decide (GluedL y b q))) ∧ Ext w w' := by
  have HR := Lib.hid h
  have hjI : ((j : Nat) : Int) + 1 ≤ 65536 := by omega
  have hj2 : ((j : Nat) : Int) < (C.length : Nat) := by omega
  have hd : decide (j < C.length) = true := decide_eq_true hn
  obtain ⟨g', e, hg, hcc⟩ := nrow_at h (show 0 < C.length by omega)
  obtain rfl : g = g' := by cases e; rfl
  have h7 : ∀ o, (w.alloc o).cell? ⟨g, j, none⟩ = some (.int .i64 (y : Nat)) := fun o => ((Ext.refl w).alloc o).cell ((hcc j hn).trans (by rw [hy]))
  clear h hcc hy hg e
  by_cases h8 : q = 8
  · subst h8
    go_enter Tryz.func111, Tryz.ntmps111
    go_wp2_with fail
    have HX0 := Lib.hid ((Ext.refl w).alloc (.cells #[vat, .slice (some ⟨g, 0, none⟩) C.length cap] 144))
    have HB0 := Lib.hid (World.alloc_heap_new w (.cells #[vat, .slice (some ⟨g, 0, none⟩) C.length cap] 144))
    have HSZ := Lib.hid (show w.heap.size + 1 = (w.alloc (.cells #[vat, .slice (some ⟨g, 0, none⟩) C.length cap] 144)).heap.size by rw [World.size_alloc])
    generalize w.alloc (.cells #[vat, .slice (some ⟨g, 0, none⟩) C.length cap] 144) = w0 at HX0 HB0 HSZ ⊢
    generalize w.heap.size = tb at HB0 HSZ ⊢
    replace HR := Lib.hid (HR.out.ext HX0.out)
    have HX := Lib.hid (Ext.refl w0)
    have k0 : w0.cell? ⟨tb, 0, none⟩ = some vat := (cell_blk HB0.out 0).trans rfl
    have k1 : w0.cell? ⟨tb, 1, none⟩ = some (.slice (some ⟨g, 0, none⟩) C.length cap) := (cell_blk HB0.out 1).trans rfl
    have HA := Lib.hid True.intro
    refine am_step HX HA ?_ rfl rfl (by decide) (by first | rfl | exact HSZ.out)
    intro m w1 HX HA
    clear k0 k1
    have k0 := (cell_blk (HX.out.blk HB0.out) 0).trans rfl
    have k1 := (cell_blk (HX.out.blk HB0.out) 1).trans rfl
    rcases m with _ | _
    · have N1 := Lib.hid (show ¬((y : Int) = 1 ∨ (y : Int) = 2 ∨ (y : Int) = 3 ∨ (y : Int) = 4 ∨ (y : Int) = 5) by have h := HA.out.2; simpa [intOf] using h)
      go_wp2_with fail
      exact ret_one rfl rfl rfl ⟨congrArg (fun b => Ending.returned (.bool b)) (decide_eq_true (.inl ⟨rfl, N1.out⟩)).symm, HX0.out.trans HX.out⟩
    · have M1 := Lib.hid (show ((y : Int) = 1 ∨ (y : Int) = 2 ∨ (y : Int) = 3 ∨ (y : Int) = 4 ∨ (y : Int) = 5) by have h := HA.out.2; simpa [intOf] using h)
      clear HA
      have HA := Lib.hid True.intro
      by_cases h6 : b = 6
      · subst h6
        go_wp2_with fail
        exact ret_one rfl rfl rfl ⟨congrArg (fun b => Ending.returned (.bool b)) (decide_eq_true (.inr (.inr (.inl rfl)))).symm, HX0.out.trans HX.out⟩
      · by_cases h7 : b = 7
        · subst h7
          go_wp2_with fail
          exact ret_one rfl rfl rfl ⟨congrArg (fun b => Ending.returned (.bool b)) (decide_eq_true (.inr (.inr (.inr (.inl rfl))))).symm, HX0.out.trans HX.out⟩
        · have b6 : (b == 6) = false := beq_eq_false_iff_ne.2 h6
          have b7 : (b == 7) = false := beq_eq_false_iff_ne.2 h7
          have NB := Lib.hid (And.intro h6 h7)
          clear h6 h7
          go_wp2_with fail
          refine am_step HX HA ?_ rfl rfl (by decide) (by first | rfl | exact HSZ.out)
          intro m w2 HX HA
          clear k0 k1
          have k0 := (cell_blk (HX.out.blk HB0.out) 0).trans rfl
          have k1 := (cell_blk (HX.out.blk HB0.out) 1).trans rfl
          rcases m with _ | _
          · go_wp2_with fail
            exact ret_one rfl rfl rfl ⟨congrArg (fun b => Ending.returned (.bool b)) (decide_eq_false (by have h := M1.out; have h2 := NB.out; unfold GluedL; omega)).symm, HX0.out.trans HX.out⟩
          · exfalso
            have h := HA.out.2.1 rfl
            simp [intOf] at h
  · have q8 : (q == 8) = false := beq_eq_false_iff_ne.2 h8
    by_cases hq6 : q = 6
    · subst hq6
      go_enter Tryz.func111, Tryz.ntmps111
      go_wp2_with fail
      have HX0 := Lib.hid ((Ext.refl w).alloc (.cells #[vat, .slice (some ⟨g, 0, none⟩) C.length cap] 144))
      have HB0 := Lib.hid (World.alloc_heap_new w (.cells #[vat, .slice (some ⟨g, 0, none⟩) C.length cap] 144))
      have HSZ := Lib.hid (show w.heap.size + 1 = (w.alloc (.cells #[vat, .slice (some ⟨g, 0, none⟩) C.length cap] 144)).heap.size by rw [World.size_alloc])
      generalize w.alloc (.cells #[vat, .slice (some ⟨g, 0, none⟩) C.length cap] 144) = w0 at HX0 HB0 HSZ ⊢
      generalize w.heap.size = tb at HB0 HSZ ⊢
      replace HR := Lib.hid (HR.out.ext HX0.out)
      have HX := Lib.hid (Ext.refl w0)
      have k0 : w0.cell? ⟨tb, 0, none⟩ = some vat := (cell_blk HB0.out 0).trans rfl
      have k1 : w0.cell? ⟨tb, 1, none⟩ = some (.slice (some ⟨g, 0, none⟩) C.length cap) := (cell_blk HB0.out 1).trans rfl
      exact ret_one rfl rfl rfl ⟨congrArg (fun b => Ending.returned (.bool b)) (decide_eq_true (.inr (.inl rfl))).symm, HX0.out.trans HX.out⟩
    · have q6 : (q == 6) = false := beq_eq_false_iff_ne.2 hq6
      by_cases h6 : b = 6
      · subst h6
        go_enter Tryz.func111, Tryz.ntmps111
        go_wp2_with fail
        have HX0 := Lib.hid ((Ext.refl w).alloc (.cells #[vat, .slice (some ⟨g, 0, none⟩) C.length cap] 144))
        have HB0 := Lib.hid (World.alloc_heap_new w (.cells #[vat, .slice (some ⟨g, 0, none⟩) C.length cap] 144))
        have HSZ := Lib.hid (show w.heap.size + 1 = (w.alloc (.cells #[vat, .slice (some ⟨g, 0, none⟩) C.length cap] 144)).heap.size by rw [World.size_alloc])
        generalize w.alloc (.cells #[vat, .slice (some ⟨g, 0, none⟩) C.length cap] 144) = w0 at HX0 HB0 HSZ ⊢
        generalize w.heap.size = tb at HB0 HSZ ⊢
        replace HR := Lib.hid (HR.out.ext HX0.out)
        have HX := Lib.hid (Ext.refl w0)
        have k0 : w0.cell? ⟨tb, 0, none⟩ = some vat := (cell_blk HB0.out 0).trans rfl
        have k1 : w0.cell? ⟨tb, 1, none⟩ = some (.slice (some ⟨g, 0, none⟩) C.length cap) := (cell_blk HB0.out 1).trans rfl
        exact ret_one rfl rfl rfl ⟨congrArg (fun b => Ending.returned (.bool b)) (decide_eq_true (.inr (.inr (.inl rfl)))).symm, HX0.out.trans HX.out⟩
      · by_cases hb7 : b = 7
        · subst hb7
          go_enter Tryz.func111, Tryz.ntmps111
          go_wp2_with fail
          have HX0 := Lib.hid ((Ext.refl w).alloc (.cells #[vat, .slice (some ⟨g, 0, none⟩) C.length cap] 144))
          have HB0 := Lib.hid (World.alloc_heap_new w (.cells #[vat, .slice (some ⟨g, 0, none⟩) C.length cap] 144))
          have HSZ := Lib.hid (show w.heap.size + 1 = (w.alloc (.cells #[vat, .slice (some ⟨g, 0, none⟩) C.length cap] 144)).heap.size by rw [World.size_alloc])
          generalize w.alloc (.cells #[vat, .slice (some ⟨g, 0, none⟩) C.length cap] 144) = w0 at HX0 HB0 HSZ ⊢
          generalize w.heap.size = tb at HB0 HSZ ⊢
          replace HR := Lib.hid (HR.out.ext HX0.out)
          have HX := Lib.hid (Ext.refl w0)
          have k0 : w0.cell? ⟨tb, 0, none⟩ = some vat := (cell_blk HB0.out 0).trans rfl
          have k1 : w0.cell? ⟨tb, 1, none⟩ = some (.slice (some ⟨g, 0, none⟩) C.length cap) := (cell_blk HB0.out 1).trans rfl
          exact ret_one rfl rfl rfl ⟨congrArg (fun b => Ending.returned (.bool b)) (decide_eq_true (.inr (.inr (.inr (.inl rfl))))).symm, HX0.out.trans HX.out⟩
        · have b6 : (b == 6) = false := beq_eq_false_iff_ne.2 h6
          have b7 : (b == 7) = false := beq_eq_false_iff_ne.2 hb7
          have NB := Lib.hid (And.intro h6 (And.intro hb7 (And.intro h8 hq6)))
          clear h6 hb7 h8 hq6
          by_cases hq7 : q = 7
          · subst hq7
            go_enter Tryz.func111, Tryz.ntmps111
            go_wp2_with fail
            have HX0 := Lib.hid ((Ext.refl w).alloc (.cells #[vat, .slice (some ⟨g, 0, none⟩) C.length cap] 144))
            have HB0 := Lib.hid (World.alloc_heap_new w (.cells #[vat, .slice (some ⟨g, 0, none⟩) C.length cap] 144))
            have HSZ := Lib.hid (show w.heap.size + 1 = (w.alloc (.cells #[vat, .slice (some ⟨g, 0, none⟩) C.length cap] 144)).heap.size by rw [World.size_alloc])
            generalize w.alloc (.cells #[vat, .slice (some ⟨g, 0, none⟩) C.length cap] 144) = w0 at HX0 HB0 HSZ ⊢
            generalize w.heap.size = tb at HB0 HSZ ⊢
            replace HR := Lib.hid (HR.out.ext HX0.out)
            have HX := Lib.hid (Ext.refl w0)
            have k0 : w0.cell? ⟨tb, 0, none⟩ = some vat := (cell_blk HB0.out 0).trans rfl
            have k1 : w0.cell? ⟨tb, 1, none⟩ = some (.slice (some ⟨g, 0, none⟩) C.length cap) := (cell_blk HB0.out 1).trans rfl
            have HA := Lib.hid True.intro
            refine am_step HX HA ?_ rfl rfl (by decide) (by first | rfl | exact HSZ.out)
            intro m w1 HX HA
            clear k0 k1
            have k0 := (cell_blk (HX.out.blk HB0.out) 0).trans rfl
            have k1 := (cell_blk (HX.out.blk HB0.out) 1).trans rfl
            rcases m with _ | _
            · have N1 := Lib.hid (show ¬(b = 4 ∨ b = 17 ∨ b = 16) by have h := HA.out.2; simpa [intOf] using h)
              go_wp2_with fail
              exact ret_one rfl rfl rfl ⟨congrArg (fun b => Ending.returned (.bool b)) (decide_eq_true (.inr (.inr (.inr (.inr (.inl ⟨rfl, N1.out⟩)))))).symm, HX0.out.trans HX.out⟩
            · have M1 := Lib.hid (show (b = 4 ∨ b = 17 ∨ b = 16) by have h := HA.out.2; simpa [intOf] using h)
              clear HA
              have HA := Lib.hid True.intro
              go_wp2_with fail
              refine am_step HX HA ?_ rfl rfl (by decide) (by first | rfl | exact HSZ.out)
              intro m w2 HX HA
              clear k0 k1
              have k0 := (cell_blk (HX.out.blk HB0.out) 0).trans rfl
              have k1 := (cell_blk (HX.out.blk HB0.out) 1).trans rfl
              rcases m with _ | _
              · go_wp2_with fail
                exact ret_one rfl rfl rfl ⟨congrArg (fun b => Ending.returned (.bool b)) (decide_eq_false (by have h := M1.out; have h2 := NB.out; unfold GluedL; omega)).symm, HX0.out.trans HX.out⟩
              · exfalso
                have h := HA.out.2.1 rfl
                simp [intOf] at h
          · have q7 : (q == 7) = false := beq_eq_false_iff_ne.2 hq7
            have NQ := Lib.hid hq7
            clear hq7
            go_enter Tryz.func111, Tryz.ntmps111
            go_wp2_with fail
            have HX0 := Lib.hid ((Ext.refl w).alloc (.cells #[vat, .slice (some ⟨g, 0, none⟩) C.length cap] 144))
            have HB0 := Lib.hid (World.alloc_heap_new w (.cells #[vat, .slice (some ⟨g, 0, none⟩) C.length cap] 144))
            have HSZ := Lib.hid (show w.heap.size + 1 = (w.alloc (.cells #[vat, .slice (some ⟨g, 0, none⟩) C.length cap] 144)).heap.size by rw [World.size_alloc])
            generalize w.alloc (.cells #[vat, .slice (some ⟨g, 0, none⟩) C.length cap] 144) = w0 at HX0 HB0 HSZ ⊢
            generalize w.heap.size = tb at HB0 HSZ ⊢
            replace HR := Lib.hid (HR.out.ext HX0.out)
            have HX := Lib.hid (Ext.refl w0)
            have k0 : w0.cell? ⟨tb, 0, none⟩ = some vat := (cell_blk HB0.out 0).trans rfl
            have k1 : w0.cell? ⟨tb, 1, none⟩ = some (.slice (some ⟨g, 0, none⟩) C.length cap) := (cell_blk HB0.out 1).trans rfl
            have HA := Lib.hid True.intro
            refine am_step HX HA ?_ rfl rfl (by decide) (by first | rfl | exact HSZ.out)
            intro m w1 HX HA
            clear k0 k1
            have k0 := (cell_blk (HX.out.blk HB0.out) 0).trans rfl
            have k1 := (cell_blk (HX.out.blk HB0.out) 1).trans rfl
            have H1 := Lib.hid (show m = true ↔ (q = 11 ∨ q = 10 ∨ q = 13 ∨ q = 14 ∨ q = 15) by have h := HA.out.2; simpa [intOf] using h)
            go_wp2_with fail
            refine ret_one rfl rfl rfl ⟨congrArg (fun b => Ending.returned (.bool b)) (bool_is ?_), HX0.out.trans HX.out⟩
            rw [H1.out]
            have h2 := NB.out
            have h3 := NQ.out
            unfold GluedL
            omega
set_option maxRecDepth 100000 in
set_option maxHeartbeats 2000000 in
theorem c_over (vat : Value) (p : Option Addr) (cap : Nat) (C : List Nat) (i : Nat) (q : Int) (w : World) (h : NRow w (.slice p C.length cap) C) (hn : i ≤ C.length) (hl : C.length ≤ 65536) :
    Calls Tryz.prog 112 #[.agg #[vat, .slice p C.length cap], .int .i64 (i : Nat), .int .i64 q] w fun e w' => e = .returned (.bool (decide (OverL (lastL C (pastL C 8 (pastL C 4 i))) q))) ∧ Ext w w' := by
  have HR := Lib.hid h
  have hiI : ((i : Nat) : Int) ≤ 65536 := by omega
  clear h
  have P1 := Lib.hid (fun w' (h : NRow w' (.slice p C.length cap) C) => c_past4 vat p cap C i w' h hn hl)
  have hp4 := pastL_le C 4 i
  generalize pastL C 4 i = a4 at hp4 P1 ⊢
  have P2 := Lib.hid (fun w' (h : NRow w' (.slice p C.length cap) C) => c_past8 vat p cap C a4 w' h (by omega) hl)
  have hp8 := pastL_le C 8 a4
  generalize pastL C 8 a4 = a8 at hp8 P2 ⊢
  have P3 := Lib.hid (fun w' (h : NRow w' (.slice p C.length cap) C) => c_last vat p cap C a8 w' h (by omega) hl)
  generalize lastL C a8 = a at P3 ⊢
  go_enter Tryz.func112, Tryz.ntmps112
  go_wp2_with fail
  have HX0 := Lib.hid ((Ext.refl w).alloc (.cells #[vat, .slice p C.length cap] 144))
  have HB0 := Lib.hid (World.alloc_heap_new w (.cells #[vat, .slice p C.length cap] 144))
  have HSZ := Lib.hid (show w.heap.size + 1 = (w.alloc (.cells #[vat, .slice p C.length cap] 144)).heap.size by rw [World.size_alloc])
  generalize w.alloc (.cells #[vat, .slice p C.length cap] 144) = w0 at HX0 HB0 HSZ ⊢
  generalize w.heap.size = tb at HB0 HSZ ⊢
  replace HR := Lib.hid (HR.out.ext HX0.out)
  have HX := Lib.hid (Ext.refl w0)
  have k0 : w0.cell? ⟨tb, 0, none⟩ = some vat := (cell_blk HB0.out 0).trans rfl
  have k1 : w0.cell? ⟨tb, 1, none⟩ = some (.slice p C.length cap) := (cell_blk HB0.out 1).trans rfl
  have s0 : ∀ w', EOn (fun _ => True) w0 w' → w'.cell? ⟨tb, 0, none⟩ = some vat := fun w' h => h.cell trivial ((cell_blk (HX.out.blk HB0.out) 0).trans rfl)
  have s1 : ∀ w', EOn (fun _ => True) w0 w' → w'.cell? ⟨tb, 1, none⟩ = some (.slice p C.length cap) := fun w' h => h.cell trivial ((cell_blk (HX.out.blk HB0.out) 1).trans rfl)
  have HRE := Lib.hid (show ∀ w', EOn (fun _ => True) w0 w' → NRow w' (.slice p C.length cap) C from fun w' h => (HR.out.ext HX.out).eon h)
  clear k0 k1
  refine wp_lex (fun _ => True) [true, true, true, true, true, true, true, true] (by kernel_rfl) (by kernel_rfl) ?_
  repeat first
    | refine wpG_move' ?_
    | refine wpG_assign' ?_
    | refine wpG_val' ?_
    | refine wpG_no' ?_
  refine wpG_call (by rfl) (fun w' hx => (by go_simp; first | exact rfl | exact ⟨rfl, rfl⟩)) (fun w' hx => (by exact P1.out w' (HRE.out w' hx))) (by simp only [Act.put, List.setIfInBounds_toArray, List.set_cons_succ, List.set_cons_zero]; rfl) ?_
  refine wpG_call (by rfl) (fun w' hx => (by go_simp; first | exact rfl | exact ⟨rfl, rfl⟩)) (fun w' hx => (by exact P2.out w' (HRE.out w' hx))) (by simp only [Act.put, List.setIfInBounds_toArray, List.set_cons_succ, List.set_cons_zero]; rfl) ?_
  refine wpG_call (by rfl) (fun w' hx => (by go_simp; first | exact rfl | exact ⟨rfl, rfl⟩)) (fun w' hx => (by exact P3.out w' (HRE.out w' hx))) (by simp only [Act.put, List.setIfInBounds_toArray, List.set_cons_succ, List.set_cons_zero]; rfl) ?_
  repeat first
    | refine wpG_move' ?_
    | refine wpG_assign' ?_
    | refine wpG_val' ?_
    | refine wpG_no' ?_
  refine wpG_end (fun w3 hx => ?_)
  replace HX := Lib.hid (HX.out.trans hx)
  clear hx s0 s1
  have k0 := (cell_blk (HX.out.blk HB0.out) 0).trans rfl
  have k1 := (cell_blk (HX.out.blk HB0.out) 1).trans rfl
  go_wp2_with fail
  refine gQ_normal ?_
  have HA := Lib.hid True.intro
  clear P1 P2 P3
  by_cases h9 : a = 9
  · subst h9
    go_wp2_with fail
    exact ret_one rfl rfl rfl ⟨congrArg (fun b => Ending.returned (.bool b)) (decide_eq_true (.inl rfl)).symm, HX0.out.trans HX.out⟩
  · have h9b : (a == 9) = false := beq_eq_false_iff_ne.2 h9
    by_cases h12 : a = 12
    · subst h12
      by_cases hq : q = 9
      · subst hq
        go_wp2_with fail
        exact ret_one rfl rfl rfl ⟨congrArg (fun b => Ending.returned (.bool b)) (decide_eq_true (.inr (.inl ⟨rfl, rfl⟩))).symm, HX0.out.trans HX.out⟩
      · have hqb : (q == 9) = false := beq_eq_false_iff_ne.2 hq
        have NQ := Lib.hid hq
        clear hq h9
        go_wp2_with fail
        refine am_step HX HA ?_ rfl rfl (by decide) (by first | rfl | exact HSZ.out)
        intro m w4 HX HA
        clear k0 k1
        have k0 := (cell_blk (HX.out.blk HB0.out) 0).trans rfl
        have k1 := (cell_blk (HX.out.blk HB0.out) 1).trans rfl
        rcases m with _ | _
        · go_wp2_with fail
          exact ret_one rfl rfl rfl ⟨congrArg (fun b => Ending.returned (.bool b)) (decide_eq_false (by have h := NQ.out; unfold OverL; omega)).symm, HX0.out.trans HX.out⟩
        · exfalso
          have h := HA.out.2.1 rfl
          simp [intOf] at h
    · have h12b : (a == 12) = false := beq_eq_false_iff_ne.2 h12
      have NA := Lib.hid (And.intro h9 h12)
      clear h9 h12
      go_wp2_with fail
      refine am_step HX HA ?_ rfl rfl (by decide) (by first | rfl | exact HSZ.out)
      intro m w4 HX HA
      clear k0 k1
      have k0 := (cell_blk (HX.out.blk HB0.out) 0).trans rfl
      have k1 := (cell_blk (HX.out.blk HB0.out) 1).trans rfl
      rcases m with _ | _
      · have N1 := Lib.hid (show ¬(a = 11 ∨ a = 10) by have h := HA.out.2; simpa [intOf] using h)
        clear HA
        by_cases h18 : a = 18
        · subst h18
          by_cases hq : q = 18
          · subst hq
            go_wp2_with fail
            exact ret_one rfl rfl rfl ⟨congrArg (fun b => Ending.returned (.bool b)) (decide_eq_true (.inr (.inr (.inr ⟨rfl, rfl⟩)))).symm, HX0.out.trans HX.out⟩
          · have hqb : (q == 18) = false := beq_eq_false_iff_ne.2 hq
            have NQ := Lib.hid hq
            clear hq
            go_wp2_with fail
            exact ret_one rfl rfl rfl ⟨congrArg (fun b => Ending.returned (.bool b)) (decide_eq_false (by have h := NQ.out; unfold OverL; omega)).symm, HX0.out.trans HX.out⟩
        · have h18b : (a == 18) = false := beq_eq_false_iff_ne.2 h18
          have NQ := Lib.hid h18
          clear h18
          go_wp2_with fail
          exact ret_one rfl rfl rfl ⟨congrArg (fun b => Ending.returned (.bool b)) (decide_eq_false (by have h := NQ.out; have h2 := N1.out; have h3 := NA.out; unfold OverL; omega)).symm, HX0.out.trans HX.out⟩
      · have M1 := Lib.hid (show (a = 11 ∨ a = 10) by have h := HA.out.2; simpa [intOf] using h)
        clear HA
        have h18b : (a == 18) = false := beq_eq_false_iff_ne.2 (by have := M1.out; omega)
        by_cases hq : q = 24
        · subst hq
          go_wp2_with fail
          exact ret_one rfl rfl rfl ⟨congrArg (fun b => Ending.returned (.bool b)) (decide_eq_true (.inr (.inr (.inl ⟨M1.out, rfl⟩)))).symm, HX0.out.trans HX.out⟩
        · have hqb : (q == 24) = false := beq_eq_false_iff_ne.2 hq
          have NQ := Lib.hid hq
          clear hq
          go_wp2_with fail
          exact ret_one rfl rfl rfl ⟨congrArg (fun b => Ending.returned (.bool b)) (decide_eq_false (by have h := NQ.out; have h2 := M1.out; unfold OverL; omega)).symm, HX0.out.trans HX.out⟩
end Go.Proofs.YtlmkbldiicbejaaGreatDoor
end

section
namespace Go.Proofs.YtlmkbldiicbejaaGreatDoor
open Go.RowKit Go.Rp Go.Maps Go.Cl Go.Shelf Go.Gr Go.Ln

set_option maxRecDepth 100000 in
set_option maxHeartbeats 2000000 in
theorem c_cut (vat : Value) (g cap : Nat) (C : List Nat) (j x y : Nat) (w : World) (h : NRow w (.slice (some ⟨g, 0, none⟩) C.length cap) C) (hn : j + 1 < C.length) (hx : C[j]'(by omega) = x) (hy : C[j + 1]'hn = y) (hl : C.length ≤ 65536) :
    Calls Tryz.prog 81 #[.agg #[vat, .slice (some ⟨g, 0, none⟩) C.length cap], .int .i64 ((j : Int) + 1)] w fun e w' => e = .returned (.bool (cutL C (j + 1))) ∧ Ext w w' := by
  have HR := Lib.hid h
  have hjI : ((j : Nat) : Int) + 1 ≤ 65536 := by omega
  have hj2 : ((j : Nat) : Int) < (C.length : Nat) := by omega
  have hj3 : ((j : Nat) : Int) + 1 < (C.length : Nat) := by omega
  have hd : decide (j < C.length) = true := decide_eq_true (by omega)
  have hd3 : decide (j + 1 < C.length) = true := decide_eq_true hn
  obtain ⟨g', e, hg, hcc⟩ := nrow_at h (show 0 < C.length by omega)
  obtain rfl : g = g' := by cases e; rfl
  have h7 := (hcc j (by omega)).trans (by rw [hx])
  have h8 := (hcc (j + 1) hn).trans (by rw [hy])
  have HXJ := Lib.hid hx
  have HCV := Lib.hid (show cutL C (j + 1) = (if ((x : Int) = 2 ∧ (y : Int) = 3) then false
  else if ((x : Int) = 1 ∨ (x : Int) = 2 ∨ (x : Int) = 3) then true
  else if ((y : Int) = 1 ∨ (y : Int) = 2 ∨ (y : Int) = 3 ∨ (y : Int) = 4 ∨ (y : Int) = 5) then false
  else if lastL C (pastL C 4 (j + 1)) = 5 then true
  else if GluedL x (lastL C (pastL C 8 (j + 1))) y then false
  else if OverL (lastL C (pastL C 8 (pastL C 4 (j + 1)))) y then false
  else if (x : Int) = 4 then true
  else !decide (LettersL C (j + 1) (lastL C (pastL C 8 (j + 1))) y)) by
    have e1 : lastL C (j + 1) = (x : Int) := by simp [lastL, List.getD_eq_getElem?_getD, show j < C.length by omega, hx]
    have e2 : C.getD (j + 1) 0 = y := by simp [List.getD_eq_getElem?_getD, hn, hy]
    unfold cutL
    simp only [e1, e2])
  have HZ0 := Lib.hid hg
  clear h hcc hy hx hg e
  have ej : ((j + 1 : Nat) : Int) = (j : Int) + 1 := by omega
  have hp8 := pastL_le C 8 (j + 1)
  have hp4 := pastL_le C 4 (j + 1)
  have P1 := Lib.hid (show ∀ W, NRow W (.slice (some ⟨g, 0, none⟩) C.length cap) C → Calls Tryz.prog 109 #[.agg #[vat, .slice (some ⟨g, 0, none⟩) C.length cap], .int .i64 ((j : Int) + 1), .int .i64 8] W fun e w' => e = .returned (.int .i64 (pastL C 8 (j + 1) : Nat)) ∧ Ext W w' from fun W h => by
    have := c_past8 vat _ cap C (j + 1) W h (by omega) hl
    rwa [ej] at this)
  have P2 := Lib.hid (fun W (h : NRow W (.slice (some ⟨g, 0, none⟩) C.length cap) C) => c_last vat _ cap C (pastL C 8 (j + 1)) W h (by omega) hl)
  have P3 := Lib.hid (show ∀ W, NRow W (.slice (some ⟨g, 0, none⟩) C.length cap) C → Calls Tryz.prog 109 #[.agg #[vat, .slice (some ⟨g, 0, none⟩) C.length cap], .int .i64 ((j : Int) + 1), .int .i64 4] W fun e w' => e = .returned (.int .i64 (pastL C 4 (j + 1) : Nat)) ∧ Ext W w' from fun W h => by
    have := c_past4 vat _ cap C (j + 1) W h (by omega) hl
    rwa [ej] at this)
  have P4 := Lib.hid (fun W (h : NRow W (.slice (some ⟨g, 0, none⟩) C.length cap) C) => c_last vat _ cap C (pastL C 4 (j + 1)) W h (by omega) hl)
  have P5 := Lib.hid (fun W (h : NRow W (.slice (some ⟨g, 0, none⟩) C.length cap) C) (b q : Int) => c_glued vat g cap C j x b q W h (by omega) HXJ.out hl)
  have P6 := Lib.hid (show ∀ W (q : Int), NRow W (.slice (some ⟨g, 0, none⟩) C.length cap) C → Calls Tryz.prog 112 #[.agg #[vat, .slice (some ⟨g, 0, none⟩) C.length cap], .int .i64 ((j : Int) + 1), .int .i64 q] W fun e w' => e = .returned (.bool (decide (OverL (lastL C (pastL C 8 (pastL C 4 (j + 1)))) q))) ∧ Ext W w' from fun W q h => by
    have := c_over vat _ cap C (j + 1) q W h (by omega) hl
    rwa [ej] at this)
  have P7 := Lib.hid (show ∀ W (b q : Int), NRow W (.slice (some ⟨g, 0, none⟩) C.length cap) C → Calls Tryz.prog 113 #[.agg #[vat, .slice (some ⟨g, 0, none⟩) C.length cap], .int .i64 ((j : Int) + 1), .int .i64 b, .int .i64 q] W fun e w' => e = .returned (.bool (decide (LettersL C (j + 1) b q))) ∧ Ext W w' from fun W b q h => by
    have := c_letters vat _ cap C (j + 1) b q W h (by omega) hl
    rwa [ej] at this)
  obtain ⟨cv, hcv⟩ : ∃ cv, cutL C (j + 1) = cv := ⟨_, rfl⟩
  rw [hcv] at HCV ⊢
  generalize lastL C (pastL C 8 (pastL C 4 (j + 1))) = ov at HCV P6
  generalize lastL C (pastL C 8 (j + 1)) = bv at HCV P2
  generalize lastL C (pastL C 4 (j + 1)) = av at HCV P4
  generalize pastL C 8 (j + 1) = a8 at P1 P2 hp8
  generalize pastL C 4 (j + 1) = a4 at P3 P4 hp4
  clear hcv ej
  go_enter Tryz.func81, Tryz.ntmps81
  go_wp2_with fail
  have HX0 := Lib.hid ((Ext.refl w).alloc (.cells #[vat, .slice (some ⟨g, 0, none⟩) C.length cap] 144))
  have HB0 := Lib.hid (World.alloc_heap_new w (.cells #[vat, .slice (some ⟨g, 0, none⟩) C.length cap] 144))
  have HSZ := Lib.hid (show w.heap.size + 1 = (w.alloc (.cells #[vat, .slice (some ⟨g, 0, none⟩) C.length cap] 144)).heap.size by rw [World.size_alloc])
  generalize w.alloc (.cells #[vat, .slice (some ⟨g, 0, none⟩) C.length cap] 144) = w0 at HX0 HB0 HSZ ⊢
  generalize w.heap.size = tb at HB0 HSZ ⊢
  replace HR := Lib.hid (HR.out.ext HX0.out)
  have HX := Lib.hid (Ext.refl w0)
  have k0 : w0.cell? ⟨tb, 0, none⟩ = some vat := (cell_blk HB0.out 0).trans rfl
  have k1 : w0.cell? ⟨tb, 1, none⟩ = some (.slice (some ⟨g, 0, none⟩) C.length cap) := (cell_blk HB0.out 1).trans rfl
  have s0 : ∀ w', EOn (fun _ => True) w0 w' → w'.cell? ⟨tb, 0, none⟩ = some vat := fun w' h => h.cell trivial ((cell_blk (HX.out.blk HB0.out) 0).trans rfl)
  have s1 : ∀ w', EOn (fun _ => True) w0 w' → w'.cell? ⟨tb, 1, none⟩ = some (.slice (some ⟨g, 0, none⟩) C.length cap) := fun w' h => h.cell trivial ((cell_blk (HX.out.blk HB0.out) 1).trans rfl)
  have HRE := Lib.hid (show ∀ w', EOn (fun _ => True) w0 w' → NRow w' (.slice (some ⟨g, 0, none⟩) C.length cap) C from fun w' h => (HR.out.ext HX.out).eon h)
  clear k0 k1
  have s7 : ∀ w', EOn (fun _ => True) w0 w' → w'.cell? ⟨g, j, none⟩ = some (.int .i64 (x : Nat)) := fun w' h => h.cell trivial (HX0.out.cell h7)
  have s8 : ∀ w', EOn (fun _ => True) w0 w' → w'.cell? ⟨g, j + 1, none⟩ = some (.int .i64 (y : Nat)) := fun w' h => h.cell trivial (HX0.out.cell h8)
  clear h7 h8
  refine wp_lex (fun _ => True) [true, true, true, true, true, true, true, true, true, true, true, true, true] (by kernel_rfl) (by kernel_rfl) ?_
  repeat first
    | refine wpG_move' ?_
    | refine wpG_assign' ?_
    | refine wpG_val' ?_
    | refine wpG_no' ?_
  clear s7 s8
  refine wpG_end (fun w1 hx => ?_)
  replace HX := Lib.hid (HX.out.trans hx)
  clear hx s0 s1
  have k0 := (cell_blk (HX.out.blk HB0.out) 0).trans rfl
  have k1 := (cell_blk (HX.out.blk HB0.out) 1).trans rfl
  go_wp2_with fail
  refine gQ_normal ?_
  have s0 : ∀ w', EOn (fun _ => True) w1 w' → w'.cell? ⟨tb, 0, none⟩ = some vat := fun w' h => h.cell trivial ((cell_blk (HX.out.blk HB0.out) 0).trans rfl)
  have s1 : ∀ w', EOn (fun _ => True) w1 w' → w'.cell? ⟨tb, 1, none⟩ = some (.slice (some ⟨g, 0, none⟩) C.length cap) := fun w' h => h.cell trivial ((cell_blk (HX.out.blk HB0.out) 1).trans rfl)
  have HRE := Lib.hid (show ∀ w', EOn (fun _ => True) w1 w' → NRow w' (.slice (some ⟨g, 0, none⟩) C.length cap) C from fun w' h => (HR.out.ext HX.out).eon h)
  clear k0 k1
  go_wp2_with fail
  refine wp_lex (fun _ => True) [true, true, true, true, true, true] (by kernel_rfl) (by kernel_rfl) ?_
  repeat first
    | refine wpG_move' ?_
    | refine wpG_assign' ?_
    | refine wpG_val' ?_
    | refine wpG_no' ?_
  refine wpG_call (by rfl) (fun w' hx => (by go_simp; first | exact rfl | exact ⟨rfl, rfl⟩)) (fun w' hx => (by exact P1.out w' (HRE.out w' hx))) (by simp only [Act.put, List.setIfInBounds_toArray, List.set_cons_succ, List.set_cons_zero]; rfl) ?_
  refine wpG_call (by rfl) (fun w' hx => (by go_simp; first | exact rfl | exact ⟨rfl, rfl⟩)) (fun w' hx => (by exact P2.out w' (HRE.out w' hx))) (by simp only [Act.put, List.setIfInBounds_toArray, List.set_cons_succ, List.set_cons_zero]; rfl) ?_
  repeat first
    | refine wpG_move' ?_
    | refine wpG_assign' ?_
    | refine wpG_val' ?_
    | refine wpG_no' ?_
  refine wpG_end (fun w2 hx => ?_)
  replace HX := Lib.hid (HX.out.trans hx)
  clear hx s0 s1
  have k0 := (cell_blk (HX.out.blk HB0.out) 0).trans rfl
  have k1 := (cell_blk (HX.out.blk HB0.out) 1).trans rfl
  go_wp2_with fail
  refine gQ_normal ?_
  clear P1 P2
  have HA := Lib.hid True.intro
  by_cases x2 : x = 2
  · subst x2
    by_cases y3 : y = 3
    · subst y3
      go_wp2_with fail
      refine ret_one rfl rfl rfl ⟨congrArg (fun b => Ending.returned (.bool b)) ?_, HX0.out.trans HX.out⟩
      rw [HCV.out, if_pos ⟨rfl, rfl⟩]
    · have yb : (((y : Nat) : Int) == 3) = false := beq_eq_false_iff_ne.2 (by omega)
      have N1 := Lib.hid (show ¬(((2 : Nat) : Int) = 2 ∧ (y : Int) = 3) by omega)
      clear y3
      go_wp2_with fail
      refine am_step HX HA ?_ rfl rfl (by decide) (by first | rfl | exact HSZ.out)
      intro m w3 HX HA
      clear k0 k1
      have k0 := (cell_blk (HX.out.blk HB0.out) 0).trans rfl
      have k1 := (cell_blk (HX.out.blk HB0.out) 1).trans rfl
      rcases m with _ | _
      · exfalso
        have h := HA.out.2.2 (by simp [intOf])
        cases h
      · go_wp2_with fail
        refine ret_one rfl rfl rfl ⟨congrArg (fun b => Ending.returned (.bool b)) ?_, HX0.out.trans HX.out⟩
        rw [HCV.out, if_neg N1.out, if_pos (.inr (.inl rfl))]
  · have xb : (((x : Nat) : Int) == 2) = false := beq_eq_false_iff_ne.2 (by omega)
    have N1 := Lib.hid (show ¬(((x : Nat) : Int) = 2 ∧ (y : Int) = 3) by omega)
    clear x2
    go_wp2_with fail
    refine am_step HX HA ?_ rfl rfl (by decide) (by first | rfl | exact HSZ.out)
    intro m w3 HX HA
    clear k0 k1
    have k0 := (cell_blk (HX.out.blk HB0.out) 0).trans rfl
    have k1 := (cell_blk (HX.out.blk HB0.out) 1).trans rfl
    rcases m with _ | _
    · have N2 := Lib.hid (show ¬((x : Int) = 1 ∨ (x : Int) = 2 ∨ (x : Int) = 3) by have h := HA.out.2; simpa [intOf] using h)
      clear HA
      have HA := Lib.hid True.intro
      go_wp2_with fail
      refine am_step HX HA ?_ rfl rfl (by decide) (by first | rfl | exact HSZ.out)
      intro m w4 HX HA
      clear k0 k1
      have k0 := (cell_blk (HX.out.blk HB0.out) 0).trans rfl
      have k1 := (cell_blk (HX.out.blk HB0.out) 1).trans rfl
      rcases m with _ | _
      · have N3 := Lib.hid (show ¬((y : Int) = 1 ∨ (y : Int) = 2 ∨ (y : Int) = 3 ∨ (y : Int) = 4 ∨ (y : Int) = 5) by have h := HA.out.2; simpa [intOf] using h)
        go_wp2_with fail
        have s0 : ∀ w', EOn (fun _ => True) w4 w' → w'.cell? ⟨tb, 0, none⟩ = some vat := fun w' h => h.cell trivial ((cell_blk (HX.out.blk HB0.out) 0).trans rfl)
        have s1 : ∀ w', EOn (fun _ => True) w4 w' → w'.cell? ⟨tb, 1, none⟩ = some (.slice (some ⟨g, 0, none⟩) C.length cap) := fun w' h => h.cell trivial ((cell_blk (HX.out.blk HB0.out) 1).trans rfl)
        have HRE := Lib.hid (show ∀ w', EOn (fun _ => True) w4 w' → NRow w' (.slice (some ⟨g, 0, none⟩) C.length cap) C from fun w' h => (HR.out.ext HX.out).eon h)
        clear k0 k1
        refine wp_lex (fun _ => True) [true, true, true, true, true, true, true] (by kernel_rfl) (by kernel_rfl) ?_
        repeat first
          | refine wpG_move' ?_
          | refine wpG_assign' ?_
          | refine wpG_val' ?_
          | refine wpG_no' ?_
        refine wpG_call (by rfl) (fun w' hx => (by go_simp; first | exact rfl | exact ⟨rfl, rfl⟩)) (fun w' hx => (by exact P3.out w' (HRE.out w' hx))) (by simp only [Act.put, List.setIfInBounds_toArray, List.set_cons_succ, List.set_cons_zero]; rfl) ?_
        refine wpG_call (by rfl) (fun w' hx => (by go_simp; first | exact rfl | exact ⟨rfl, rfl⟩)) (fun w' hx => (by exact P4.out w' (HRE.out w' hx))) (by simp only [Act.put, List.setIfInBounds_toArray, List.set_cons_succ, List.set_cons_zero]; rfl) ?_
        repeat first
          | refine wpG_move' ?_
          | refine wpG_assign' ?_
          | refine wpG_val' ?_
          | refine wpG_no' ?_
        refine wpG_end (fun w5 hx => ?_)
        replace HX := Lib.hid (HX.out.trans hx)
        clear hx s0 s1
        have k0 := (cell_blk (HX.out.blk HB0.out) 0).trans rfl
        have k1 := (cell_blk (HX.out.blk HB0.out) 1).trans rfl
        go_wp2_with fail
        refine gQ_normal ?_
        clear P3 P4
        clear hjI hj2 hj3 hd hd3 hp8 hp4 xb
        by_cases h5 : av = 5
        · have h5b : (av == 5) = true := beq_iff_eq.2 h5
          have M4 := Lib.hid h5
          clear h5
          go_wp2_with fail
          refine ret_one rfl rfl rfl ⟨congrArg (fun b => Ending.returned (.bool b)) ?_, HX0.out.trans HX.out⟩
          rw [HCV.out, if_neg N1.out, if_neg N2.out, if_neg N3.out, if_pos M4.out]
        · have h5b : (av == 5) = false := beq_eq_false_iff_ne.2 h5
          have N4 := Lib.hid h5
          clear h5
          go_wp2_with fail
          refine (P5.out w5 (HR.out.ext HX.out) bv y).mono ?_
          rintro e w6 ⟨rfl, hx⟩
          replace HX := Lib.hid (HX.out.trans hx)
          clear hx k0 k1
          have k0 := (cell_blk (HX.out.blk HB0.out) 0).trans rfl
          have k1 := (cell_blk (HX.out.blk HB0.out) 1).trans rfl
          by_cases hg : GluedL x bv y
          · rw [decide_eq_true hg]
            have M5 := Lib.hid hg
            clear hg
            go_wp2_with fail
            refine ret_one rfl rfl rfl ⟨congrArg (fun b => Ending.returned (.bool b)) ?_, HX0.out.trans HX.out⟩
            rw [HCV.out, if_neg N1.out, if_neg N2.out, if_neg N3.out, if_neg N4.out, if_pos M5.out]
          · rw [decide_eq_false hg]
            have N5 := Lib.hid hg
            clear hg
            go_wp2_with fail
            refine (P6.out w6 y (HR.out.ext HX.out)).mono ?_
            rintro e w7 ⟨rfl, hx⟩
            replace HX := Lib.hid (HX.out.trans hx)
            clear hx k0 k1
            have k0 := (cell_blk (HX.out.blk HB0.out) 0).trans rfl
            have k1 := (cell_blk (HX.out.blk HB0.out) 1).trans rfl
            by_cases ho : OverL ov y
            · rw [decide_eq_true ho]
              have M6 := Lib.hid ho
              clear ho
              go_wp2_with fail
              refine ret_one rfl rfl rfl ⟨congrArg (fun b => Ending.returned (.bool b)) ?_, HX0.out.trans HX.out⟩
              rw [HCV.out, if_neg N1.out, if_neg N2.out, if_neg N3.out, if_neg N4.out, if_neg N5.out, if_pos M6.out]
            · rw [decide_eq_false ho]
              have N6 := Lib.hid ho
              clear ho
              by_cases hx4 : x = 4
              · subst hx4
                go_wp2_with fail
                refine ret_one rfl rfl rfl ⟨congrArg (fun b => Ending.returned (.bool b)) ?_, HX0.out.trans HX.out⟩
                rw [HCV.out, if_neg N1.out, if_neg N2.out, if_neg N3.out, if_neg N4.out, if_neg N5.out, if_neg N6.out]; rfl
              · have xb4 : (((x : Nat) : Int) == 4) = false := beq_eq_false_iff_ne.2 (by omega)
                have N7 := Lib.hid (show ¬((x : Nat) : Int) = 4 by omega)
                clear hx4
                go_wp2_with fail
                refine (P7.out w7 bv y (HR.out.ext HX.out)).mono ?_
                rintro e w8 ⟨rfl, hx⟩
                replace HX := Lib.hid (HX.out.trans hx)
                clear hx k0 k1
                have k0 := (cell_blk (HX.out.blk HB0.out) 0).trans rfl
                have k1 := (cell_blk (HX.out.blk HB0.out) 1).trans rfl
                obtain ⟨lb, hlb⟩ : ∃ lb, decide (LettersL C (j + 1) bv y) = lb := ⟨_, rfl⟩
                rw [hlb] at HCV ⊢
                clear hlb
                go_wp2_with fail
                refine ret_one rfl rfl rfl ⟨congrArg (fun b => Ending.returned (.bool b)) ?_, HX0.out.trans HX.out⟩
                rw [HCV.out, if_neg N1.out, if_neg N2.out, if_neg N3.out, if_neg N4.out, if_neg N5.out, if_neg N6.out, if_neg N7.out]
      · have M3 := Lib.hid (show ((y : Int) = 1 ∨ (y : Int) = 2 ∨ (y : Int) = 3 ∨ (y : Int) = 4 ∨ (y : Int) = 5) by have h := HA.out.2; simpa [intOf] using h)
        go_wp2_with fail
        refine ret_one rfl rfl rfl ⟨congrArg (fun b => Ending.returned (.bool b)) ?_, HX0.out.trans HX.out⟩
        rw [HCV.out, if_neg N1.out, if_neg N2.out, if_pos M3.out]
    · have M2 := Lib.hid (show ((x : Int) = 1 ∨ (x : Int) = 2 ∨ (x : Int) = 3) by have h := HA.out.2; simpa [intOf] using h)
      go_wp2_with fail
      refine ret_one rfl rfl rfl ⟨congrArg (fun b => Ending.returned (.bool b)) ?_, HX0.out.trans HX.out⟩
      rw [HCV.out, if_neg N1.out, if_pos M2.out]
end Go.Proofs.YtlmkbldiicbejaaGreatDoor
end
