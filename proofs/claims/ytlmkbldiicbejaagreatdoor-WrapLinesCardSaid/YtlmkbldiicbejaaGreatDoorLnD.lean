/-
  What holds letters together.
-/
import Derived.Test.YtlmkbldiicbejaaGreatDoorLnAC
namespace Go.Proofs.YtlmkbldiicbejaaGreatDoor
open Go.RowKit Go.Rp Go.Maps Go.Cl Go.Shelf Go.Gr Go.Ln

set_option maxRecDepth 100000 in
set_option maxHeartbeats 2000000 in
theorem c_letters (vat : Value) (p : Option Addr) (cap : Nat) (C : List Nat) (i : Nat) (b q : Int) (w : World) (h : NRow w (.slice p C.length cap) C) (hn : i ≤ C.length) (hl : C.length ≤ 65536) :
    Calls Tryz.prog 113 #[.agg #[vat, .slice p C.length cap], .int .i64 (i : Nat), .int .i64 b, .int .i64 q] w fun e w' => e = .returned (.bool (decide (LettersL C i b q))) ∧ Ext w w' := by
  have HR := Lib.hid h
  have hiI : ((i : Nat) : Int) ≤ 65536 := by omega
  clear h
  go_enter Tryz.func113, Tryz.ntmps113
  go_wp2_with fail
  have HX0 := Lib.hid ((Ext.refl w).alloc (.cells #[vat, .slice p C.length cap] 144))
  have HB0 := Lib.hid (World.alloc_heap_new w (.cells #[vat, .slice p C.length cap] 144))
  have HSZ := Lib.hid (show w.heap.size + 1 = (w.alloc (.cells #[vat, .slice p C.length cap] 144)).heap.size by rw [World.size_alloc])
  generalize w.alloc (.cells #[vat, .slice p C.length cap] 144) = w0 at HX0 HB0 HSZ ⊢
  generalize w.heap.size = tb at HB0 HSZ ⊢
  replace HR := Lib.hid (HR.out.ext HX0.out)
  have HX := Lib.hid (Ext.refl w0)
  have k0 : w0.cell? ⟨tb, 0, none⟩ = some vat := (cell_blk HB0.out 0).trans rfl
  have k1 : w0.cell? ⟨tb, 1, none⟩ = some (.slice p C.length cap) := (cell_blk HB0.out 1).trans rfl
  have HA := Lib.hid True.intro
  refine am_step HX HA ?_ rfl rfl (by decide) (by first | rfl | exact HSZ.out)
  intro m w1 HX HA
  clear k0 k1
  have k0 := (cell_blk (HX.out.blk HB0.out) 0).trans rfl
  have k1 := (cell_blk (HX.out.blk HB0.out) 1).trans rfl
  rcases m with _ | _
  · have N1 := Lib.hid (show ¬(q = 12 ∨ q = 17 ∨ q = 16 ∨ q = 24 ∨ q = 19) by have h := HA.out.2; simpa [intOf] using h)
    clear HA
    have HA := Lib.hid True.intro
    by_cases hb : b = 12
    · subst hb
      go_wp2_with fail
      exact ret_one rfl rfl rfl ⟨congrArg (fun b => Ending.returned (.bool b)) (decide_eq_true (.inr (.inl rfl))).symm, HX0.out.trans HX.out⟩
    · have hbb : (b == 12) = false := beq_eq_false_iff_ne.2 hb
      have N2 := Lib.hid hb
      clear hb
      go_wp2_with fail
      refine (c_pairs b q w1).mono ?_
      rintro e w2 ⟨rfl, hx⟩
      replace HX := Lib.hid (HX.out.trans hx)
      clear hx k0 k1
      have k0 := (cell_blk (HX.out.blk HB0.out) 0).trans rfl
      have k1 := (cell_blk (HX.out.blk HB0.out) 1).trans rfl
      by_cases hp : PairsL b q
      · rw [decide_eq_true hp]
        have M3 := Lib.hid hp
        clear hp
        go_wp2_with fail
        exact ret_one rfl rfl rfl ⟨congrArg (fun b => Ending.returned (.bool b)) (decide_eq_true (.inr (.inr (.inl M3.out)))).symm, HX0.out.trans HX.out⟩
      · rw [decide_eq_false hp]
        have N3 := Lib.hid hp
        clear hp
        go_wp2_with fail
        refine am_step HX HA ?_ rfl rfl (by decide) (by first | rfl | exact HSZ.out)
        intro m w3 HX HA
        clear k0 k1
        have k0 := (cell_blk (HX.out.blk HB0.out) 0).trans rfl
        have k1 := (cell_blk (HX.out.blk HB0.out) 1).trans rfl
        rcases m with _ | _
        · have N4 := Lib.hid (show ¬(q = 21 ∨ q = 22) by have h := HA.out.2; simpa [intOf] using h)
          clear HA
          have HA := Lib.hid True.intro
          go_wp2_with fail
          refine am_step HX HA ?_ rfl rfl (by decide) (by first | rfl | exact HSZ.out)
          intro m w4 HX HA
          clear k0 k1
          have k0 := (cell_blk (HX.out.blk HB0.out) 0).trans rfl
          have k1 := (cell_blk (HX.out.blk HB0.out) 1).trans rfl
          rcases m with _ | _
          · have N5 := Lib.hid (show ¬(b = 21 ∨ b = 22) by have h := HA.out.2; simpa [intOf] using h)
            clear HA
            have HA := Lib.hid True.intro
            by_cases h25 : q = 25
            · subst h25
              go_wp2_with fail
              refine (c_regions vat _ cap C i w4 (HR.out.ext HX.out) (by omega) hl).mono ?_
              rintro e w9 ⟨rfl, hx⟩
              replace HX := Lib.hid (HX.out.trans hx)
              clear hx k0 k1
              have k0 := (cell_blk (HX.out.blk HB0.out) 0).trans rfl
              have k1 := (cell_blk (HX.out.blk HB0.out) 1).trans rfl
              obtain ⟨rg, hrg⟩ : ∃ rg, regL C i = rg := ⟨_, rfl⟩
              rw [hrg]
              have HRG := Lib.hid hrg
              clear hrg
              go_wp2_with fail
              refine ret_one rfl rfl rfl ⟨congrArg (fun b => Ending.returned (.bool b)) ?_, HX0.out.trans HX.out⟩
              rw [Bool.eq_iff_iff, beq_iff_eq, decide_eq_true_iff]
              have n1 := N1.out
              have n3 := N3.out
              have n5 : ¬((b = 21 ∨ b = 22) ∧ ((25 : Int) = 20 ∨ (((25 : Int) = 9 ∨ (25 : Int) = 16) ∧ i + 1 < C.length ∧ C.getD (i + 1) 0 = 20))) := by omega
              unfold LettersL
              rw [HRG.out]
              constructor
              · intro h
                refine .inr (.inr (.inr (.inr (.inr ⟨rfl, ?_⟩))))
                omega
              · rintro (h | h | h | h | h | h)
                · exact absurd h n1
                · exact absurd h N2.out
                · exact absurd h n3
                · rcases h.1 with h | h <;> omega
                · exact absurd h n5
                · have := h.2
                  omega
            · have h25b : (q == 25) = false := beq_eq_false_iff_ne.2 h25
              have N25 := Lib.hid h25
              clear h25
              go_wp2_with fail
              refine ret_one rfl rfl rfl ⟨congrArg (fun b => Ending.returned (.bool b)) (decide_eq_false ?_).symm, HX0.out.trans HX.out⟩
              have n4 : ¬((q = 21 ∨ q = 22) ∧ NumL C i) := (fun h => N4.out h.1)
              have n5 : ¬((b = 21 ∨ b = 22) ∧ (q = 20 ∨ ((q = 9 ∨ q = 16) ∧ i + 1 < C.length ∧ C.getD (i + 1) 0 = 20))) := (fun h => N5.out h.1)
              unfold LettersL
              rintro (h | h | h | h | h | h)
              · exact N1.out h
              · exact N2.out h
              · exact N3.out h
              · exact n4 h
              · exact n5 h
              · exact N25.out h.1
          · have M5 := Lib.hid (show (b = 21 ∨ b = 22) by have h := HA.out.2; simpa [intOf] using h)
            clear HA
            have HA := Lib.hid True.intro
            by_cases h20 : q = 20
            · subst h20
              go_wp2_with fail
              exact ret_one rfl rfl rfl ⟨congrArg (fun b => Ending.returned (.bool b)) (decide_eq_true (.inr (.inr (.inr (.inr (.inl ⟨M5.out, .inl rfl⟩)))))).symm, HX0.out.trans HX.out⟩
            · have h20b : (q == 20) = false := beq_eq_false_iff_ne.2 h20
              have N20 := Lib.hid h20
              clear h20
              go_wp2_with fail
              refine am_step HX HA ?_ rfl rfl (by decide) (by first | rfl | exact HSZ.out)
              intro m w5 HX HA
              clear k0 k1
              have k0 := (cell_blk (HX.out.blk HB0.out) 0).trans rfl
              have k1 := (cell_blk (HX.out.blk HB0.out) 1).trans rfl
              rcases m with _ | _
              · have N6 := Lib.hid (show ¬(q = 9 ∨ q = 16) by have h := HA.out.2; simpa [intOf] using h)
                clear HA
                by_cases h25 : q = 25
                · subst h25
                  go_wp2_with fail
                  refine (c_regions vat _ cap C i w5 (HR.out.ext HX.out) (by omega) hl).mono ?_
                  rintro e w9 ⟨rfl, hx⟩
                  replace HX := Lib.hid (HX.out.trans hx)
                  clear hx k0 k1
                  have k0 := (cell_blk (HX.out.blk HB0.out) 0).trans rfl
                  have k1 := (cell_blk (HX.out.blk HB0.out) 1).trans rfl
                  obtain ⟨rg, hrg⟩ : ∃ rg, regL C i = rg := ⟨_, rfl⟩
                  rw [hrg]
                  have HRG := Lib.hid hrg
                  clear hrg
                  go_wp2_with fail
                  refine ret_one rfl rfl rfl ⟨congrArg (fun b => Ending.returned (.bool b)) ?_, HX0.out.trans HX.out⟩
                  rw [Bool.eq_iff_iff, beq_iff_eq, decide_eq_true_iff]
                  have n1 := N1.out
                  have n3 := N3.out
                  have n5 : ¬((b = 21 ∨ b = 22) ∧ ((25 : Int) = 20 ∨ (((25 : Int) = 9 ∨ (25 : Int) = 16) ∧ i + 1 < C.length ∧ C.getD (i + 1) 0 = 20))) := by omega
                  unfold LettersL
                  rw [HRG.out]
                  constructor
                  · intro h
                    refine .inr (.inr (.inr (.inr (.inr ⟨rfl, ?_⟩))))
                    omega
                  · rintro (h | h | h | h | h | h)
                    · exact absurd h n1
                    · exact absurd h N2.out
                    · exact absurd h n3
                    · rcases h.1 with h | h <;> omega
                    · exact absurd h n5
                    · have := h.2
                      omega
                · have h25b : (q == 25) = false := beq_eq_false_iff_ne.2 h25
                  have N25 := Lib.hid h25
                  clear h25
                  go_wp2_with fail
                  refine ret_one rfl rfl rfl ⟨congrArg (fun b => Ending.returned (.bool b)) (decide_eq_false ?_).symm, HX0.out.trans HX.out⟩
                  have n4 : ¬((q = 21 ∨ q = 22) ∧ NumL C i) := (fun h => N4.out h.1)
                  have n5 : ¬((b = 21 ∨ b = 22) ∧ (q = 20 ∨ ((q = 9 ∨ q = 16) ∧ i + 1 < C.length ∧ C.getD (i + 1) 0 = 20))) := (fun h => h.2.elim N20.out (fun h => N6.out h.1))
                  unfold LettersL
                  rintro (h | h | h | h | h | h)
                  · exact N1.out h
                  · exact N2.out h
                  · exact N3.out h
                  · exact n4 h
                  · exact n5 h
                  · exact N25.out h.1
              · have M6 := Lib.hid (show (q = 9 ∨ q = 16) by have h := HA.out.2; simpa [intOf] using h)
                clear HA
                by_cases hi : i + 1 < C.length
                · have hi2 : ((i : Nat) : Int) + 1 < (C.length : Nat) := by omega
                  have hd2 : decide (i + 1 < C.length) = true := decide_eq_true hi
                  obtain ⟨g, rfl, hg, hcc⟩ := nrow_at HR.out (show 0 < C.length by omega)
                  have h7 := HX.out.cell (hcc (i + 1) hi)
                  have HY := Lib.hid (show C.getD (i + 1) 0 = C[i + 1] by simp [List.getD_eq_getElem?_getD, hi])
                  have HII := Lib.hid hi
                  generalize C[i + 1] = y at h7 HY
                  clear hcc hg hi
                  by_cases hy : y = 20
                  · have hyb : (((y : Nat) : Int) == 20) = true := beq_iff_eq.2 (by omega)
                    have HY2 := Lib.hid (HY.out.trans hy)
                    clear hy
                    go_wp2_with fail
                    exact ret_one rfl rfl rfl ⟨congrArg (fun b => Ending.returned (.bool b)) (decide_eq_true (.inr (.inr (.inr (.inr (.inl ⟨M5.out, .inr ⟨M6.out, HII.out, HY2.out⟩⟩)))))).symm, HX0.out.trans HX.out⟩
                  · have hyb : (((y : Nat) : Int) == 20) = false := beq_eq_false_iff_ne.2 (by omega)
                    have HY2 := Lib.hid (show C.getD (i + 1) 0 ≠ 20 by rw [HY.out]; exact hy)
                    clear hy
                    by_cases h25 : q = 25
                    · subst h25
                      go_wp2_with fail
                      refine (c_regions vat _ cap C i w5 (HR.out.ext HX.out) (by omega) hl).mono ?_
                      rintro e w9 ⟨rfl, hx⟩
                      replace HX := Lib.hid (HX.out.trans hx)
                      clear hx k0 k1
                      have k0 := (cell_blk (HX.out.blk HB0.out) 0).trans rfl
                      have k1 := (cell_blk (HX.out.blk HB0.out) 1).trans rfl
                      obtain ⟨rg, hrg⟩ : ∃ rg, regL C i = rg := ⟨_, rfl⟩
                      rw [hrg]
                      have HRG := Lib.hid hrg
                      clear hrg
                      go_wp2_with fail
                      refine ret_one rfl rfl rfl ⟨congrArg (fun b => Ending.returned (.bool b)) ?_, HX0.out.trans HX.out⟩
                      rw [Bool.eq_iff_iff, beq_iff_eq, decide_eq_true_iff]
                      have n1 := N1.out
                      have n3 := N3.out
                      have n5 : ¬((b = 21 ∨ b = 22) ∧ ((25 : Int) = 20 ∨ (((25 : Int) = 9 ∨ (25 : Int) = 16) ∧ i + 1 < C.length ∧ C.getD (i + 1) 0 = 20))) := by omega
                      unfold LettersL
                      rw [HRG.out]
                      constructor
                      · intro h
                        refine .inr (.inr (.inr (.inr (.inr ⟨rfl, ?_⟩))))
                        omega
                      · rintro (h | h | h | h | h | h)
                        · exact absurd h n1
                        · exact absurd h N2.out
                        · exact absurd h n3
                        · rcases h.1 with h | h <;> omega
                        · exact absurd h n5
                        · have := h.2
                          omega
                    · have h25b : (q == 25) = false := beq_eq_false_iff_ne.2 h25
                      have N25 := Lib.hid h25
                      clear h25
                      go_wp2_with fail
                      refine ret_one rfl rfl rfl ⟨congrArg (fun b => Ending.returned (.bool b)) (decide_eq_false ?_).symm, HX0.out.trans HX.out⟩
                      have n4 : ¬((q = 21 ∨ q = 22) ∧ NumL C i) := (fun h => N4.out h.1)
                      have n5 : ¬((b = 21 ∨ b = 22) ∧ (q = 20 ∨ ((q = 9 ∨ q = 16) ∧ i + 1 < C.length ∧ C.getD (i + 1) 0 = 20))) := (fun h => h.2.elim N20.out (fun h => HY2.out h.2.2))
                      unfold LettersL
                      rintro (h | h | h | h | h | h)
                      · exact N1.out h
                      · exact N2.out h
                      · exact N3.out h
                      · exact n4 h
                      · exact n5 h
                      · exact N25.out h.1
                · have hi2 : ¬ ((i : Nat) : Int) + 1 < (C.length : Nat) := by omega
                  have hd2 : decide (i + 1 < C.length) = false := decide_eq_false hi
                  have HII := Lib.hid hi
                  clear hi
                  by_cases h25 : q = 25
                  · subst h25
                    go_wp2_with fail
                    refine (c_regions vat _ cap C i w5 (HR.out.ext HX.out) (by omega) hl).mono ?_
                    rintro e w9 ⟨rfl, hx⟩
                    replace HX := Lib.hid (HX.out.trans hx)
                    clear hx k0 k1
                    have k0 := (cell_blk (HX.out.blk HB0.out) 0).trans rfl
                    have k1 := (cell_blk (HX.out.blk HB0.out) 1).trans rfl
                    obtain ⟨rg, hrg⟩ : ∃ rg, regL C i = rg := ⟨_, rfl⟩
                    rw [hrg]
                    have HRG := Lib.hid hrg
                    clear hrg
                    go_wp2_with fail
                    refine ret_one rfl rfl rfl ⟨congrArg (fun b => Ending.returned (.bool b)) ?_, HX0.out.trans HX.out⟩
                    rw [Bool.eq_iff_iff, beq_iff_eq, decide_eq_true_iff]
                    have n1 := N1.out
                    have n3 := N3.out
                    have n5 : ¬((b = 21 ∨ b = 22) ∧ ((25 : Int) = 20 ∨ (((25 : Int) = 9 ∨ (25 : Int) = 16) ∧ i + 1 < C.length ∧ C.getD (i + 1) 0 = 20))) := by omega
                    unfold LettersL
                    rw [HRG.out]
                    constructor
                    · intro h
                      refine .inr (.inr (.inr (.inr (.inr ⟨rfl, ?_⟩))))
                      omega
                    · rintro (h | h | h | h | h | h)
                      · exact absurd h n1
                      · exact absurd h N2.out
                      · exact absurd h n3
                      · rcases h.1 with h | h <;> omega
                      · exact absurd h n5
                      · have := h.2
                        omega
                  · have h25b : (q == 25) = false := beq_eq_false_iff_ne.2 h25
                    have N25 := Lib.hid h25
                    clear h25
                    go_wp2_with fail
                    refine ret_one rfl rfl rfl ⟨congrArg (fun b => Ending.returned (.bool b)) (decide_eq_false ?_).symm, HX0.out.trans HX.out⟩
                    have n4 : ¬((q = 21 ∨ q = 22) ∧ NumL C i) := (fun h => N4.out h.1)
                    have n5 : ¬((b = 21 ∨ b = 22) ∧ (q = 20 ∨ ((q = 9 ∨ q = 16) ∧ i + 1 < C.length ∧ C.getD (i + 1) 0 = 20))) := (fun h => h.2.elim N20.out (fun h => HII.out h.2.1))
                    unfold LettersL
                    rintro (h | h | h | h | h | h)
                    · exact N1.out h
                    · exact N2.out h
                    · exact N3.out h
                    · exact n4 h
                    · exact n5 h
                    · exact N25.out h.1
        · have M4 := Lib.hid (show (q = 21 ∨ q = 22) by have h := HA.out.2; simpa [intOf] using h)
          clear HA
          have HA := Lib.hid True.intro
          go_wp2_with fail
          refine (c_lnumber vat p cap C i w3 (HR.out.ext HX.out) (by omega) hl).mono ?_
          rintro e w8 ⟨rfl, hx⟩
          replace HX := Lib.hid (HX.out.trans hx)
          clear hx k0 k1
          have k0 := (cell_blk (HX.out.blk HB0.out) 0).trans rfl
          have k1 := (cell_blk (HX.out.blk HB0.out) 1).trans rfl
          by_cases hnm : NumL C i
          · rw [decide_eq_true hnm]
            have M6 := Lib.hid hnm
            clear hnm
            go_wp2_with fail
            exact ret_one rfl rfl rfl ⟨congrArg (fun b => Ending.returned (.bool b)) (decide_eq_true (.inr (.inr (.inr (.inl ⟨M4.out, M6.out⟩))))).symm, HX0.out.trans HX.out⟩
          · rw [decide_eq_false hnm]
            have N7 := Lib.hid hnm
            clear hnm
            go_wp2_with fail
            refine am_step HX HA ?_ rfl rfl (by decide) (by first | rfl | exact HSZ.out)
            intro m w4 HX HA
            clear k0 k1
            have k0 := (cell_blk (HX.out.blk HB0.out) 0).trans rfl
            have k1 := (cell_blk (HX.out.blk HB0.out) 1).trans rfl
            rcases m with _ | _
            · have N5 := Lib.hid (show ¬(b = 21 ∨ b = 22) by have h := HA.out.2; simpa [intOf] using h)
              clear HA
              have HA := Lib.hid True.intro
              by_cases h25 : q = 25
              · subst h25
                go_wp2_with fail
                refine (c_regions vat _ cap C i w4 (HR.out.ext HX.out) (by omega) hl).mono ?_
                rintro e w9 ⟨rfl, hx⟩
                replace HX := Lib.hid (HX.out.trans hx)
                clear hx k0 k1
                have k0 := (cell_blk (HX.out.blk HB0.out) 0).trans rfl
                have k1 := (cell_blk (HX.out.blk HB0.out) 1).trans rfl
                obtain ⟨rg, hrg⟩ : ∃ rg, regL C i = rg := ⟨_, rfl⟩
                rw [hrg]
                have HRG := Lib.hid hrg
                clear hrg
                go_wp2_with fail
                refine ret_one rfl rfl rfl ⟨congrArg (fun b => Ending.returned (.bool b)) ?_, HX0.out.trans HX.out⟩
                rw [Bool.eq_iff_iff, beq_iff_eq, decide_eq_true_iff]
                have n1 := N1.out
                have n3 := N3.out
                have n5 : ¬((b = 21 ∨ b = 22) ∧ ((25 : Int) = 20 ∨ (((25 : Int) = 9 ∨ (25 : Int) = 16) ∧ i + 1 < C.length ∧ C.getD (i + 1) 0 = 20))) := by omega
                unfold LettersL
                rw [HRG.out]
                constructor
                · intro h
                  refine .inr (.inr (.inr (.inr (.inr ⟨rfl, ?_⟩))))
                  omega
                · rintro (h | h | h | h | h | h)
                  · exact absurd h n1
                  · exact absurd h N2.out
                  · exact absurd h n3
                  · rcases h.1 with h | h <;> omega
                  · exact absurd h n5
                  · have := h.2
                    omega
              · have h25b : (q == 25) = false := beq_eq_false_iff_ne.2 h25
                have N25 := Lib.hid h25
                clear h25
                go_wp2_with fail
                refine ret_one rfl rfl rfl ⟨congrArg (fun b => Ending.returned (.bool b)) (decide_eq_false ?_).symm, HX0.out.trans HX.out⟩
                have n4 : ¬((q = 21 ∨ q = 22) ∧ NumL C i) := (fun h => N7.out h.2)
                have n5 : ¬((b = 21 ∨ b = 22) ∧ (q = 20 ∨ ((q = 9 ∨ q = 16) ∧ i + 1 < C.length ∧ C.getD (i + 1) 0 = 20))) := (fun h => N5.out h.1)
                unfold LettersL
                rintro (h | h | h | h | h | h)
                · exact N1.out h
                · exact N2.out h
                · exact N3.out h
                · exact n4 h
                · exact n5 h
                · exact N25.out h.1
            · have M5 := Lib.hid (show (b = 21 ∨ b = 22) by have h := HA.out.2; simpa [intOf] using h)
              clear HA
              have HA := Lib.hid True.intro
              by_cases h20 : q = 20
              · subst h20
                go_wp2_with fail
                exact ret_one rfl rfl rfl ⟨congrArg (fun b => Ending.returned (.bool b)) (decide_eq_true (.inr (.inr (.inr (.inr (.inl ⟨M5.out, .inl rfl⟩)))))).symm, HX0.out.trans HX.out⟩
              · have h20b : (q == 20) = false := beq_eq_false_iff_ne.2 h20
                have N20 := Lib.hid h20
                clear h20
                go_wp2_with fail
                refine am_step HX HA ?_ rfl rfl (by decide) (by first | rfl | exact HSZ.out)
                intro m w5 HX HA
                clear k0 k1
                have k0 := (cell_blk (HX.out.blk HB0.out) 0).trans rfl
                have k1 := (cell_blk (HX.out.blk HB0.out) 1).trans rfl
                rcases m with _ | _
                · have N6 := Lib.hid (show ¬(q = 9 ∨ q = 16) by have h := HA.out.2; simpa [intOf] using h)
                  clear HA
                  by_cases h25 : q = 25
                  · subst h25
                    go_wp2_with fail
                    refine (c_regions vat _ cap C i w5 (HR.out.ext HX.out) (by omega) hl).mono ?_
                    rintro e w9 ⟨rfl, hx⟩
                    replace HX := Lib.hid (HX.out.trans hx)
                    clear hx k0 k1
                    have k0 := (cell_blk (HX.out.blk HB0.out) 0).trans rfl
                    have k1 := (cell_blk (HX.out.blk HB0.out) 1).trans rfl
                    obtain ⟨rg, hrg⟩ : ∃ rg, regL C i = rg := ⟨_, rfl⟩
                    rw [hrg]
                    have HRG := Lib.hid hrg
                    clear hrg
                    go_wp2_with fail
                    refine ret_one rfl rfl rfl ⟨congrArg (fun b => Ending.returned (.bool b)) ?_, HX0.out.trans HX.out⟩
                    rw [Bool.eq_iff_iff, beq_iff_eq, decide_eq_true_iff]
                    have n1 := N1.out
                    have n3 := N3.out
                    have n5 : ¬((b = 21 ∨ b = 22) ∧ ((25 : Int) = 20 ∨ (((25 : Int) = 9 ∨ (25 : Int) = 16) ∧ i + 1 < C.length ∧ C.getD (i + 1) 0 = 20))) := by omega
                    unfold LettersL
                    rw [HRG.out]
                    constructor
                    · intro h
                      refine .inr (.inr (.inr (.inr (.inr ⟨rfl, ?_⟩))))
                      omega
                    · rintro (h | h | h | h | h | h)
                      · exact absurd h n1
                      · exact absurd h N2.out
                      · exact absurd h n3
                      · rcases h.1 with h | h <;> omega
                      · exact absurd h n5
                      · have := h.2
                        omega
                  · have h25b : (q == 25) = false := beq_eq_false_iff_ne.2 h25
                    have N25 := Lib.hid h25
                    clear h25
                    go_wp2_with fail
                    refine ret_one rfl rfl rfl ⟨congrArg (fun b => Ending.returned (.bool b)) (decide_eq_false ?_).symm, HX0.out.trans HX.out⟩
                    have n4 : ¬((q = 21 ∨ q = 22) ∧ NumL C i) := (fun h => N7.out h.2)
                    have n5 : ¬((b = 21 ∨ b = 22) ∧ (q = 20 ∨ ((q = 9 ∨ q = 16) ∧ i + 1 < C.length ∧ C.getD (i + 1) 0 = 20))) := (fun h => h.2.elim N20.out (fun h => N6.out h.1))
                    unfold LettersL
                    rintro (h | h | h | h | h | h)
                    · exact N1.out h
                    · exact N2.out h
                    · exact N3.out h
                    · exact n4 h
                    · exact n5 h
                    · exact N25.out h.1
                · have M6 := Lib.hid (show (q = 9 ∨ q = 16) by have h := HA.out.2; simpa [intOf] using h)
                  clear HA
                  by_cases hi : i + 1 < C.length
                  · have hi2 : ((i : Nat) : Int) + 1 < (C.length : Nat) := by omega
                    have hd2 : decide (i + 1 < C.length) = true := decide_eq_true hi
                    obtain ⟨g, rfl, hg, hcc⟩ := nrow_at HR.out (show 0 < C.length by omega)
                    have h7 := HX.out.cell (hcc (i + 1) hi)
                    have HY := Lib.hid (show C.getD (i + 1) 0 = C[i + 1] by simp [List.getD_eq_getElem?_getD, hi])
                    have HII := Lib.hid hi
                    generalize C[i + 1] = y at h7 HY
                    clear hcc hg hi
                    by_cases hy : y = 20
                    · have hyb : (((y : Nat) : Int) == 20) = true := beq_iff_eq.2 (by omega)
                      have HY2 := Lib.hid (HY.out.trans hy)
                      clear hy
                      go_wp2_with fail
                      exact ret_one rfl rfl rfl ⟨congrArg (fun b => Ending.returned (.bool b)) (decide_eq_true (.inr (.inr (.inr (.inr (.inl ⟨M5.out, .inr ⟨M6.out, HII.out, HY2.out⟩⟩)))))).symm, HX0.out.trans HX.out⟩
                    · have hyb : (((y : Nat) : Int) == 20) = false := beq_eq_false_iff_ne.2 (by omega)
                      have HY2 := Lib.hid (show C.getD (i + 1) 0 ≠ 20 by rw [HY.out]; exact hy)
                      clear hy
                      by_cases h25 : q = 25
                      · subst h25
                        go_wp2_with fail
                        refine (c_regions vat _ cap C i w5 (HR.out.ext HX.out) (by omega) hl).mono ?_
                        rintro e w9 ⟨rfl, hx⟩
                        replace HX := Lib.hid (HX.out.trans hx)
                        clear hx k0 k1
                        have k0 := (cell_blk (HX.out.blk HB0.out) 0).trans rfl
                        have k1 := (cell_blk (HX.out.blk HB0.out) 1).trans rfl
                        obtain ⟨rg, hrg⟩ : ∃ rg, regL C i = rg := ⟨_, rfl⟩
                        rw [hrg]
                        have HRG := Lib.hid hrg
                        clear hrg
                        go_wp2_with fail
                        refine ret_one rfl rfl rfl ⟨congrArg (fun b => Ending.returned (.bool b)) ?_, HX0.out.trans HX.out⟩
                        rw [Bool.eq_iff_iff, beq_iff_eq, decide_eq_true_iff]
                        have n1 := N1.out
                        have n3 := N3.out
                        have n5 : ¬((b = 21 ∨ b = 22) ∧ ((25 : Int) = 20 ∨ (((25 : Int) = 9 ∨ (25 : Int) = 16) ∧ i + 1 < C.length ∧ C.getD (i + 1) 0 = 20))) := by omega
                        unfold LettersL
                        rw [HRG.out]
                        constructor
                        · intro h
                          refine .inr (.inr (.inr (.inr (.inr ⟨rfl, ?_⟩))))
                          omega
                        · rintro (h | h | h | h | h | h)
                          · exact absurd h n1
                          · exact absurd h N2.out
                          · exact absurd h n3
                          · rcases h.1 with h | h <;> omega
                          · exact absurd h n5
                          · have := h.2
                            omega
                      · have h25b : (q == 25) = false := beq_eq_false_iff_ne.2 h25
                        have N25 := Lib.hid h25
                        clear h25
                        go_wp2_with fail
                        refine ret_one rfl rfl rfl ⟨congrArg (fun b => Ending.returned (.bool b)) (decide_eq_false ?_).symm, HX0.out.trans HX.out⟩
                        have n4 : ¬((q = 21 ∨ q = 22) ∧ NumL C i) := (fun h => N7.out h.2)
                        have n5 : ¬((b = 21 ∨ b = 22) ∧ (q = 20 ∨ ((q = 9 ∨ q = 16) ∧ i + 1 < C.length ∧ C.getD (i + 1) 0 = 20))) := (fun h => h.2.elim N20.out (fun h => HY2.out h.2.2))
                        unfold LettersL
                        rintro (h | h | h | h | h | h)
                        · exact N1.out h
                        · exact N2.out h
                        · exact N3.out h
                        · exact n4 h
                        · exact n5 h
                        · exact N25.out h.1
                  · have hi2 : ¬ ((i : Nat) : Int) + 1 < (C.length : Nat) := by omega
                    have hd2 : decide (i + 1 < C.length) = false := decide_eq_false hi
                    have HII := Lib.hid hi
                    clear hi
                    by_cases h25 : q = 25
                    · subst h25
                      go_wp2_with fail
                      refine (c_regions vat _ cap C i w5 (HR.out.ext HX.out) (by omega) hl).mono ?_
                      rintro e w9 ⟨rfl, hx⟩
                      replace HX := Lib.hid (HX.out.trans hx)
                      clear hx k0 k1
                      have k0 := (cell_blk (HX.out.blk HB0.out) 0).trans rfl
                      have k1 := (cell_blk (HX.out.blk HB0.out) 1).trans rfl
                      obtain ⟨rg, hrg⟩ : ∃ rg, regL C i = rg := ⟨_, rfl⟩
                      rw [hrg]
                      have HRG := Lib.hid hrg
                      clear hrg
                      go_wp2_with fail
                      refine ret_one rfl rfl rfl ⟨congrArg (fun b => Ending.returned (.bool b)) ?_, HX0.out.trans HX.out⟩
                      rw [Bool.eq_iff_iff, beq_iff_eq, decide_eq_true_iff]
                      have n1 := N1.out
                      have n3 := N3.out
                      have n5 : ¬((b = 21 ∨ b = 22) ∧ ((25 : Int) = 20 ∨ (((25 : Int) = 9 ∨ (25 : Int) = 16) ∧ i + 1 < C.length ∧ C.getD (i + 1) 0 = 20))) := by omega
                      unfold LettersL
                      rw [HRG.out]
                      constructor
                      · intro h
                        refine .inr (.inr (.inr (.inr (.inr ⟨rfl, ?_⟩))))
                        omega
                      · rintro (h | h | h | h | h | h)
                        · exact absurd h n1
                        · exact absurd h N2.out
                        · exact absurd h n3
                        · rcases h.1 with h | h <;> omega
                        · exact absurd h n5
                        · have := h.2
                          omega
                    · have h25b : (q == 25) = false := beq_eq_false_iff_ne.2 h25
                      have N25 := Lib.hid h25
                      clear h25
                      go_wp2_with fail
                      refine ret_one rfl rfl rfl ⟨congrArg (fun b => Ending.returned (.bool b)) (decide_eq_false ?_).symm, HX0.out.trans HX.out⟩
                      have n4 : ¬((q = 21 ∨ q = 22) ∧ NumL C i) := (fun h => N7.out h.2)
                      have n5 : ¬((b = 21 ∨ b = 22) ∧ (q = 20 ∨ ((q = 9 ∨ q = 16) ∧ i + 1 < C.length ∧ C.getD (i + 1) 0 = 20))) := (fun h => h.2.elim N20.out (fun h => HII.out h.2.1))
                      unfold LettersL
                      rintro (h | h | h | h | h | h)
                      · exact N1.out h
                      · exact N2.out h
                      · exact N3.out h
                      · exact n4 h
                      · exact n5 h
                      · exact N25.out h.1
  · have M1 := Lib.hid (show (q = 12 ∨ q = 17 ∨ q = 16 ∨ q = 24 ∨ q = 19) by have h := HA.out.2; simpa [intOf] using h)
    clear HA
    go_wp2_with fail
    exact ret_one rfl rfl rfl ⟨congrArg (fun b => Ending.returned (.bool b)) (decide_eq_true (.inl M1.out)).symm, HX0.out.trans HX.out⟩
end Go.Proofs.YtlmkbldiicbejaaGreatDoor
