/-
  The law WrapChecks.
-/
import Derived.Test.YtlmkbldiicbejaaGreatDoorLvA
namespace Go.Proofs.YtlmkbldiicbejaaGreatDoor
open Go.RowKit Go.Rp Go.Maps Go.Cl Go.Shelf Go.Gr Go.Ln

set_option maxRecDepth 100000 in
set_option maxHeartbeats 2000000 in
theorem c_rwithin (n lo : Int) (w : World) : Calls Tryz.prog 25 #[.int .i64 n, .int .i64 lo] w fun e w' => e = .returned (.bool (decide (lo ≤ n ∧ n ≤ 100000))) ∧ w' = w := by
  by_cases h1 : lo ≤ n
  · by_cases h2 : n ≤ 100000
    · rw [decide_eq_true (show lo ≤ n ∧ n ≤ 100000 from ⟨h1, h2⟩)]
      go_enter Tryz.func25, Tryz.ntmps25
      go_wp2_with fail
      exact ret_one rfl rfl rfl ⟨rfl, rfl⟩
    · rw [decide_eq_false (show ¬ (lo ≤ n ∧ n ≤ 100000) from fun h => h2 h.2)]
      go_enter Tryz.func25, Tryz.ntmps25
      go_wp2_with fail
      exact ret_one rfl rfl rfl ⟨rfl, rfl⟩
  · rw [decide_eq_false (show ¬ (lo ≤ n ∧ n ≤ 100000) from fun h => h1 h.1)]
    go_enter Tryz.func25, Tryz.ntmps25
    go_wp2_with fail
    exact ret_one rfl rfl rfl ⟨rfl, rfl⟩
set_option maxRecDepth 100000 in
set_option maxHeartbeats 2000000 in
theorem c_rCheck16 (p : Option Addr) (cap : Nat) (l : List BxI) (W F R H : Int) (w : World) (h : BxRow w (.slice p l.length cap) l) :
    Calls Tryz.prog 12 #[.slice p l.length cap, .agg #[.int .i64 W, .int .i64 F, .int .i64 R, .int .i64 H]] w fun e w' => e = .returned (.tuple #[.int .i64 (chkK l W F R H).1, .int .i64 ((chkK l W F R H).2 : Nat)]) ∧ Ext w w' := by
  have HR := Lib.hid h
  obtain ⟨c, hck⟩ : ∃ c, chkK l W F R H = c := ⟨_, rfl⟩
  rw [hck]
  have HCK := Lib.hid hck
  clear hck h
  go_enter Tryz.func12, Tryz.ntmps12
  go_wp2_with fail
  have hb := World.alloc_heap_new w (.cells #[.int .i64 W, .int .i64 F, .int .i64 R, .int .i64 H] 24)
  have hx := (Ext.refl w).alloc (.cells #[.int .i64 W, .int .i64 F, .int .i64 R, .int .i64 H] 24)
  generalize w.alloc (.cells #[.int .i64 W, .int .i64 F, .int .i64 R, .int .i64 H] 24) = w1 at hb hx ⊢
  generalize w.heap.size = tb at hb ⊢
  have HX := Lib.hid hx
  have m1 : w1.cell? ⟨tb, 1, none⟩ = some (.int .i64 F) := (cell_blk hb 1).trans rfl
  have m2 : w1.cell? ⟨tb, 2, none⟩ = some (.int .i64 R) := (cell_blk hb 2).trans rfl
  have m3 : w1.cell? ⟨tb, 3, none⟩ = some (.int .i64 H) := (cell_blk hb 3).trans rfl
  clear hb hx
  refine (c_rwithin W 1 w1).mono ?_
  rintro e w1 ⟨rfl, rfl⟩
  by_cases h1 : 1 ≤ W ∧ W ≤ 100000
  · rw [decide_eq_true h1]
    have H1 := Lib.hid h1
    clear h1
    go_wp2_with fail
    refine (c_rwithin F 0 w1).mono ?_
    rintro e w1 ⟨rfl, rfl⟩
    by_cases h2 : 0 ≤ F ∧ F ≤ 100000
    · rw [decide_eq_true h2]
      have H2 := Lib.hid h2
      clear h2
      go_wp2_with fail
      refine (c_rwithin R 0 w1).mono ?_
      rintro e w1 ⟨rfl, rfl⟩
      by_cases h3 : 0 ≤ R ∧ R ≤ 100000
      · rw [decide_eq_true h3]
        have H3 := Lib.hid h3
        clear h3
        by_cases h4 : H = 0
        · subst h4
          have HOK := Lib.hid (show WrOk W F R 0 by have h1 := H1.out; have h2 := H2.out; have h3 := H3.out; unfold WrOk InK; omega)
          by_cases b1 : (4096 : Int) < (l.length : Nat)
          · have b1n : 4096 < l.length := by omega
            have HV2 := Lib.hid (show c = (6, 0) by rw [← HCK.out]; unfold chkK; rw [if_pos HOK.out, if_pos b1n])
            clear b1n
            go_wp2_with fail
            exact ret_two rfl rfl rfl rfl ⟨by rw [HV2.out]; rfl, HX.out⟩
          · have b1n : ¬ 4096 < l.length := by omega
            have HV2 := Lib.hid (show c = badK l 0 by rw [← HCK.out]; unfold chkK; rw [if_pos HOK.out, if_neg b1n])
            have hnI : ((l.length : Nat) : Int) ≤ 4096 := by omega
            clear b1n
            go_wp2_with fail
            go_loopw [6] (fun iv W' => ∃ i : Nat, iv = .int .i64 (i : Nat) ∧ i ≤ l.length ∧ Hid (c = badK (l.drop i) i) ∧ Hid (Ext w W')) (fun iv _ => l.length + 1 - (intOf iv).toNat)
            case atStart => exact ⟨0, rfl, Nat.zero_le _, HV2, HX⟩
            case round =>
              obtain ⟨i, rfl, hi, HJ, HXW⟩ := hrel
              obtain ⟨W', rfl⟩ : ∃ W', W' = wr := ⟨_, rfl⟩
              by_cases hil : i < l.length
              · have hI : ((i : Nat) : Int) < (l.length : Nat) := by omega
                have hd : decide (i < l.length) = true := decide_eq_true hil
                obtain ⟨p', cap', e', _, hcc⟩ := HR.out.ext HXW.out
                obtain ⟨rfl, -, rfl⟩ := Value.slice.inj e'
                obtain ⟨g, o, rfl, _, h6⟩ := hcc (by intro e; subst e; simp at hil)
                obtain ⟨d0, d1, d2, d3⟩ := h6 i hil
                have HJ2 := Lib.hid (show c = badK (l[i] :: l.drop (i + 1)) i by rw [← List.drop_eq_getElem_cons hil]; exact HJ.out)
                generalize l[i] = x at d0 d1 d2 d3 HJ2
                obtain ⟨xw, xb, xh, xm⟩ := x
                simp only at d0 d1 d2 d3
                clear h6 hcc e' HJ
                go_wp2_with fail
                refine (c_rwithin xw 0 W').mono ?_
                rintro e W' ⟨rfl, rfl⟩
                by_cases c1 : 0 ≤ xw ∧ xw ≤ 100000
                · rw [decide_eq_true c1]
                  have HC1 := Lib.hid c1
                  clear c1
                  go_wp2_with fail
                  refine (c_rwithin xb 0 W').mono ?_
                  rintro e W' ⟨rfl, rfl⟩
                  by_cases c2 : 0 ≤ xb ∧ xb ≤ 100000
                  · rw [decide_eq_true c2]
                    have HC2 := Lib.hid c2
                    clear c2
                    go_wp2_with fail
                    refine (c_rwithin xh 0 W').mono ?_
                    rintro e W' ⟨rfl, rfl⟩
                    by_cases c3 : 0 ≤ xh ∧ xh ≤ 100000
                    · rw [decide_eq_true c3]
                      have HJ3 := Lib.hid (show c = badK (l.drop (i + 1)) (i + 1) by rw [HJ2.out, badK, if_pos ⟨HC1.out, HC2.out, c3⟩])
                      clear c3
                      go_wp2_with fail
                      exact ⟨⟨i + 1, by simp, by omega, HJ3, HXW⟩, by simp only [intOf]; omega⟩
                    · rw [decide_eq_false c3]
                      have HC3 := Lib.hid c3
                      clear c3
                      have HV3 := Lib.hid (show c = (160, i) by rw [HJ2.out, badK, if_neg (fun q => by unfold BxOk at q; exact (fun q => HC3.out q.2.2) q)])
                      go_wp2_with fail
                      exact ret_two rfl rfl rfl rfl ⟨by rw [HV3.out]; rfl, HXW.out⟩
                  · rw [decide_eq_false c2]
                    have HC2 := Lib.hid c2
                    clear c2
                    have HV3 := Lib.hid (show c = (160, i) by rw [HJ2.out, badK, if_neg (fun q => by unfold BxOk at q; exact (fun q => HC2.out q.2.1) q)])
                    go_wp2_with fail
                    exact ret_two rfl rfl rfl rfl ⟨by rw [HV3.out]; rfl, HXW.out⟩
                · rw [decide_eq_false c1]
                  have HC1 := Lib.hid c1
                  clear c1
                  have HV3 := Lib.hid (show c = (160, i) by rw [HJ2.out, badK, if_neg (fun q => by unfold BxOk at q; exact (fun q => HC1.out q.1) q)])
                  go_wp2_with fail
                  exact ret_two rfl rfl rfl rfl ⟨by rw [HV3.out]; rfl, HXW.out⟩
              · have hI : ¬ ((i : Nat) : Int) < (l.length : Nat) := by omega
                have hd : decide (i < l.length) = false := decide_eq_false hil
                have HV3 := Lib.hid (show c = (0, 0) by rw [HJ.out, List.drop_of_length_le (by omega)]; rfl)
                go_wp2_with fail
                exact ret_two rfl rfl rfl rfl ⟨by rw [HV3.out]; rfl, HXW.out⟩
        · by_cases h5 : H = 1
          · subst h5
            have HOK := Lib.hid (show WrOk W F R 1 by have h1 := H1.out; have h2 := H2.out; have h3 := H3.out; unfold WrOk InK; omega)
            by_cases b1 : (4096 : Int) < (l.length : Nat)
            · have b1n : 4096 < l.length := by omega
              have HV2 := Lib.hid (show c = (6, 0) by rw [← HCK.out]; unfold chkK; rw [if_pos HOK.out, if_pos b1n])
              clear b1n
              go_wp2_with fail
              exact ret_two rfl rfl rfl rfl ⟨by rw [HV2.out]; rfl, HX.out⟩
            · have b1n : ¬ 4096 < l.length := by omega
              have HV2 := Lib.hid (show c = badK l 0 by rw [← HCK.out]; unfold chkK; rw [if_pos HOK.out, if_neg b1n])
              have hnI : ((l.length : Nat) : Int) ≤ 4096 := by omega
              clear b1n
              go_wp2_with fail
              go_loopw [6] (fun iv W' => ∃ i : Nat, iv = .int .i64 (i : Nat) ∧ i ≤ l.length ∧ Hid (c = badK (l.drop i) i) ∧ Hid (Ext w W')) (fun iv _ => l.length + 1 - (intOf iv).toNat)
              case atStart => exact ⟨0, rfl, Nat.zero_le _, HV2, HX⟩
              case round =>
                obtain ⟨i, rfl, hi, HJ, HXW⟩ := hrel
                obtain ⟨W', rfl⟩ : ∃ W', W' = wr := ⟨_, rfl⟩
                by_cases hil : i < l.length
                · have hI : ((i : Nat) : Int) < (l.length : Nat) := by omega
                  have hd : decide (i < l.length) = true := decide_eq_true hil
                  obtain ⟨p', cap', e', _, hcc⟩ := HR.out.ext HXW.out
                  obtain ⟨rfl, -, rfl⟩ := Value.slice.inj e'
                  obtain ⟨g, o, rfl, _, h6⟩ := hcc (by intro e; subst e; simp at hil)
                  obtain ⟨d0, d1, d2, d3⟩ := h6 i hil
                  have HJ2 := Lib.hid (show c = badK (l[i] :: l.drop (i + 1)) i by rw [← List.drop_eq_getElem_cons hil]; exact HJ.out)
                  generalize l[i] = x at d0 d1 d2 d3 HJ2
                  obtain ⟨xw, xb, xh, xm⟩ := x
                  simp only at d0 d1 d2 d3
                  clear h6 hcc e' HJ
                  go_wp2_with fail
                  refine (c_rwithin xw 0 W').mono ?_
                  rintro e W' ⟨rfl, rfl⟩
                  by_cases c1 : 0 ≤ xw ∧ xw ≤ 100000
                  · rw [decide_eq_true c1]
                    have HC1 := Lib.hid c1
                    clear c1
                    go_wp2_with fail
                    refine (c_rwithin xb 0 W').mono ?_
                    rintro e W' ⟨rfl, rfl⟩
                    by_cases c2 : 0 ≤ xb ∧ xb ≤ 100000
                    · rw [decide_eq_true c2]
                      have HC2 := Lib.hid c2
                      clear c2
                      go_wp2_with fail
                      refine (c_rwithin xh 0 W').mono ?_
                      rintro e W' ⟨rfl, rfl⟩
                      by_cases c3 : 0 ≤ xh ∧ xh ≤ 100000
                      · rw [decide_eq_true c3]
                        have HJ3 := Lib.hid (show c = badK (l.drop (i + 1)) (i + 1) by rw [HJ2.out, badK, if_pos ⟨HC1.out, HC2.out, c3⟩])
                        clear c3
                        go_wp2_with fail
                        exact ⟨⟨i + 1, by simp, by omega, HJ3, HXW⟩, by simp only [intOf]; omega⟩
                      · rw [decide_eq_false c3]
                        have HC3 := Lib.hid c3
                        clear c3
                        have HV3 := Lib.hid (show c = (160, i) by rw [HJ2.out, badK, if_neg (fun q => by unfold BxOk at q; exact (fun q => HC3.out q.2.2) q)])
                        go_wp2_with fail
                        exact ret_two rfl rfl rfl rfl ⟨by rw [HV3.out]; rfl, HXW.out⟩
                    · rw [decide_eq_false c2]
                      have HC2 := Lib.hid c2
                      clear c2
                      have HV3 := Lib.hid (show c = (160, i) by rw [HJ2.out, badK, if_neg (fun q => by unfold BxOk at q; exact (fun q => HC2.out q.2.1) q)])
                      go_wp2_with fail
                      exact ret_two rfl rfl rfl rfl ⟨by rw [HV3.out]; rfl, HXW.out⟩
                  · rw [decide_eq_false c1]
                    have HC1 := Lib.hid c1
                    clear c1
                    have HV3 := Lib.hid (show c = (160, i) by rw [HJ2.out, badK, if_neg (fun q => by unfold BxOk at q; exact (fun q => HC1.out q.1) q)])
                    go_wp2_with fail
                    exact ret_two rfl rfl rfl rfl ⟨by rw [HV3.out]; rfl, HXW.out⟩
                · have hI : ¬ ((i : Nat) : Int) < (l.length : Nat) := by omega
                  have hd : decide (i < l.length) = false := decide_eq_false hil
                  have HV3 := Lib.hid (show c = (0, 0) by rw [HJ.out, List.drop_of_length_le (by omega)]; rfl)
                  go_wp2_with fail
                  exact ret_two rfl rfl rfl rfl ⟨by rw [HV3.out]; rfl, HXW.out⟩
          · have b4 : (H != 0) = true := bne_iff_ne.2 h4
            have b5 : (H != 1) = true := bne_iff_ne.2 h5
            have HV := Lib.hid (show c = (161, 0) by rw [← HCK.out]; unfold chkK; rw [if_neg (fun q => by unfold WrOk InK at q; omega)])
            go_wp2_with fail
            exact ret_two rfl rfl rfl rfl ⟨by rw [HV.out]; rfl, HX.out⟩
      · rw [decide_eq_false h3]
        have HV := Lib.hid (show c = (161, 0) by rw [← HCK.out]; unfold chkK; rw [if_neg (fun q => by unfold WrOk InK at q; omega)])
        go_wp2_with fail
        exact ret_two rfl rfl rfl rfl ⟨by rw [HV.out]; rfl, HX.out⟩
    · rw [decide_eq_false h2]
      have HV := Lib.hid (show c = (161, 0) by rw [← HCK.out]; unfold chkK; rw [if_neg (fun q => by unfold WrOk InK at q; omega)])
      go_wp2_with fail
      exact ret_two rfl rfl rfl rfl ⟨by rw [HV.out]; rfl, HX.out⟩
  · rw [decide_eq_false h1]
    have HV := Lib.hid (show c = (161, 0) by rw [← HCK.out]; unfold chkK; rw [if_neg (fun q => by unfold WrOk InK at q; omega)])
    go_wp2_with fail
    exact ret_two rfl rfl rfl rfl ⟨by rw [HV.out]; rfl, HX.out⟩
set_option maxRecDepth 100000 in
set_option maxHeartbeats 2000000 in
theorem c_Checks (v : Value) (l : List BxI) (W F R H : Int) (w : World) (hT : TabsW w) (h : BxRow w v l) :
    Calls Tryz.prog 3 #[v, .agg #[.int .i64 W, .int .i64 F, .int .i64 R, .int .i64 H]] w fun e w' => e = .returned (.bool true) ∧ Ext w w' := by
  have HL := Lib.hid (fun W' (h' : Ext w W') => c_live16 W' (hT.ext h'))
  have HC := Lib.hid (fun W' (h' : Ext w W') => c_wrCheck v l W F R H W' (h.ext h'))
  obtain ⟨p, cap, rfl, _, _⟩ := id h
  have HD := Lib.hid (fun W' (h' : Ext w W') => c_rCheck16 p cap l W F R H W' (h.ext h'))
  generalize chkK l W F R H = c at HC HD
  obtain ⟨c1, c2⟩ := c
  simp only at HC HD
  clear hT h
  by_cases hbig : 40 < l.length ∧ l.length ≤ 4096
  · have h1 : (40 : Int) < (l.length : Nat) := by omega
    have h2 : ((l.length : Nat) : Int) ≤ 4096 := by omega
    clear hbig
    go_enter Tryz.func3, Tryz.ntmps3
    go_wp2_with fail
    refine (HL.out _ ((Ext.refl w).alloc _)).mono ?_
    rintro e w1 ⟨rfl, hx⟩
    have HX := Lib.hid (((Ext.refl w).alloc _).trans hx)
    clear hx
    go_wp2_with fail
    exact ret_one rfl rfl rfl ⟨rfl, HX.out⟩
  · have HBG := Lib.hid hbig
    by_cases h1 : (40 : Int) < (l.length : Nat)
    · have h2 : ¬ ((l.length : Nat) : Int) ≤ 4096 := by omega
      clear hbig
      go_enter Tryz.func3, Tryz.ntmps3
      go_wp2_with fail
      have hb := World.alloc_heap_new w (.cells #[.int .i64 W, .int .i64 F, .int .i64 R, .int .i64 H] 24)
      have hx := (Ext.refl w).alloc (.cells #[.int .i64 W, .int .i64 F, .int .i64 R, .int .i64 H] 24)
      generalize w.alloc (.cells #[.int .i64 W, .int .i64 F, .int .i64 R, .int .i64 H] 24) = w0 at hb hx ⊢
      generalize w.heap.size = tb at hb ⊢
      refine (HC.out w0 hx).mono ?_
      rintro e w1 ⟨rfl, hx1⟩
      have HX1 := Lib.hid (hx.trans hx1)
      have HB1 := Lib.hid (hx1.blk hb)
      have m0 : w1.cell? ⟨tb, 0, none⟩ = some (.int .i64 W) := (cell_blk HB1.out 0).trans rfl
      have m1 : w1.cell? ⟨tb, 1, none⟩ = some (.int .i64 F) := (cell_blk HB1.out 1).trans rfl
      have m2 : w1.cell? ⟨tb, 2, none⟩ = some (.int .i64 R) := (cell_blk HB1.out 2).trans rfl
      have m3 : w1.cell? ⟨tb, 3, none⟩ = some (.int .i64 H) := (cell_blk HB1.out 3).trans rfl
      clear hx hx1 hb
      go_wp2_with fail
      refine (HD.out w1 HX1.out).mono ?_
      rintro e w2 ⟨rfl, hx2⟩
      have HX2 := Lib.hid (HX1.out.trans hx2)
      clear hx2 m0 m1 m2 m3
      go_wp2_with fail
      refine (c_num16 c1 w2).mono ?_
      rintro e w3 ⟨rfl, rfl⟩
      go_wp2_with fail
      refine (HL.out w3 HX2.out).mono ?_
      rintro e w4 ⟨rfl, hx4⟩
      have HX4 := Lib.hid (HX2.out.trans hx4)
      clear hx4
      go_wp2_with fail
      exact ret_one rfl rfl rfl ⟨rfl, HX4.out⟩
    · clear hbig
      go_enter Tryz.func3, Tryz.ntmps3
      go_wp2_with fail
      have hb := World.alloc_heap_new w (.cells #[.int .i64 W, .int .i64 F, .int .i64 R, .int .i64 H] 24)
      have hx := (Ext.refl w).alloc (.cells #[.int .i64 W, .int .i64 F, .int .i64 R, .int .i64 H] 24)
      generalize w.alloc (.cells #[.int .i64 W, .int .i64 F, .int .i64 R, .int .i64 H] 24) = w0 at hb hx ⊢
      generalize w.heap.size = tb at hb ⊢
      refine (HC.out w0 hx).mono ?_
      rintro e w1 ⟨rfl, hx1⟩
      have HX1 := Lib.hid (hx.trans hx1)
      have HB1 := Lib.hid (hx1.blk hb)
      have m0 : w1.cell? ⟨tb, 0, none⟩ = some (.int .i64 W) := (cell_blk HB1.out 0).trans rfl
      have m1 : w1.cell? ⟨tb, 1, none⟩ = some (.int .i64 F) := (cell_blk HB1.out 1).trans rfl
      have m2 : w1.cell? ⟨tb, 2, none⟩ = some (.int .i64 R) := (cell_blk HB1.out 2).trans rfl
      have m3 : w1.cell? ⟨tb, 3, none⟩ = some (.int .i64 H) := (cell_blk HB1.out 3).trans rfl
      clear hx hx1 hb
      go_wp2_with fail
      refine (HD.out w1 HX1.out).mono ?_
      rintro e w2 ⟨rfl, hx2⟩
      have HX2 := Lib.hid (HX1.out.trans hx2)
      clear hx2 m0 m1 m2 m3
      go_wp2_with fail
      refine (c_num16 c1 w2).mono ?_
      rintro e w3 ⟨rfl, rfl⟩
      go_wp2_with fail
      refine (HL.out w3 HX2.out).mono ?_
      rintro e w4 ⟨rfl, hx4⟩
      have HX4 := Lib.hid (HX2.out.trans hx4)
      clear hx4
      go_wp2_with fail
      exact ret_one rfl rfl rfl ⟨rfl, HX4.out⟩
end Go.Proofs.YtlmkbldiicbejaaGreatDoor
