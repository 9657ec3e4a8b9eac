/-
 The law WrapChecks. The document's answer for lines: last, room, size, fits, cost. The document's answer for lines: what a line costs; the greedy lines. The document's answer for lines: the table of ways, whatever the paragraphs. The document's answer for lines: what lines cost. The document's answer for lines: the even lines.
-/
import Derived.Test.YtlmkbldiicbejaaGreatDoorLvA
import Derived.Test.YtlmkbldiicbejaaGreatDoorLwA
import Derived.Test.YtlmkbldiicbejaaGreatDoorWrH
section
namespace Go.Proofs.YtlmkbldiicbejaaGreatDoor
open Go.RowKit Go.Rp Go.Maps Go.Cl Go.Shelf Go.Gr Go.Ln

set_option maxRecDepth 100000 in
set_option maxHeartbeats 2000000 in
theorem c_rwithin (n lo : Int) (w : World) : Calls Tryz.prog 25 #[.int .i64 n, .int .i64 lo] w fun e w' => e = .returned (.bool (decide (lo ≤ n ∧ n ≤ 100000))) ∧ w' = w := by
 by_cases h1 : lo ≤ n
 ·by_cases h2 : n ≤ 100000
  ·rw [decide_eq_true (show lo ≤ n ∧ n ≤ 100000 from ⟨h1, h2⟩)]
   go_enter Tryz.func25, Tryz.ntmps25
   go_wp2_with fail
   exact ret_one rfl rfl rfl ⟨rfl, rfl⟩
  ·rw [decide_eq_false (show ¬ (lo ≤ n ∧ n ≤ 100000) from fun h => h2 h.2)]
   go_enter Tryz.func25, Tryz.ntmps25
   go_wp2_with fail
   exact ret_one rfl rfl rfl ⟨rfl, rfl⟩
 ·rw [decide_eq_false (show ¬ (lo ≤ n ∧ n ≤ 100000) from fun h => h1 h.1)]
  go_enter Tryz.func25, Tryz.ntmps25
  go_wp2_with fail
  exact ret_one rfl rfl rfl ⟨rfl, rfl⟩
set_option maxRecDepth 100000 in
set_option maxHeartbeats 2000000 in
theorem c_rCheck16 (p : Option Addr) (cap : Nat) (l : List BxI) (W F R H : Int) (w : World) (h : BxRow w (.slice p l.length cap) l) :
  Calls Tryz.prog 12 #[.slice p l.length cap, .agg #[.int .i64 W, .int .i64 F, .int .i64 R, .int .i64 H]] w fun e w' => e = .returned (.tuple #[.int .i64 (chkK l W F R H).1, .int .i64 ((chkK l W F R H).2 : Nat)]) ∧ Ext w w' := by
 have HR := Lib.hid h
 obtain ⟨c, hck⟩ : ∃ c, chkK l W F R H = c := ⟨_, rfl⟩
 rw [hck]
 have HCK := Lib.hid hck
 clear hck h
 go_enter Tryz.func12, Tryz.ntmps12
 go_wp2_with fail
 have hb := World.alloc_heap_new w (.cells #[.int .i64 W, .int .i64 F, .int .i64 R, .int .i64 H] 24)
 have hx := (Ext.refl w).alloc (.cells #[.int .i64 W, .int .i64 F, .int .i64 R, .int .i64 H] 24)
 generalize w.alloc (.cells #[.int .i64 W, .int .i64 F, .int .i64 R, .int .i64 H] 24) = w1 at hb hx ⊢
 generalize w.heap.size = tb at hb ⊢
 have HX := Lib.hid hx
 have m1 : w1.cell? ⟨tb, 1, none⟩ = some (.int .i64 F) := (cell_blk hb 1).trans rfl
 have m2 : w1.cell? ⟨tb, 2, none⟩ = some (.int .i64 R) := (cell_blk hb 2).trans rfl
 have m3 : w1.cell? ⟨tb, 3, none⟩ = some (.int .i64 H) := (cell_blk hb 3).trans rfl
 clear hb hx
 refine (c_rwithin W 1 w1).mono ?_
 rintro e w1 ⟨rfl, rfl⟩
 by_cases h1 : 1 ≤ W ∧ W ≤ 100000
 ·rw [decide_eq_true h1]
  have H1 := Lib.hid h1
  clear h1
  go_wp2_with fail
  refine (c_rwithin F 0 w1).mono ?_
  rintro e w1 ⟨rfl, rfl⟩
  by_cases h2 : 0 ≤ F ∧ F ≤ 100000
  ·rw [decide_eq_true h2]
   have H2 := Lib.hid h2
   clear h2
   go_wp2_with fail
   refine (c_rwithin R 0 w1).mono ?_
   rintro e w1 ⟨rfl, rfl⟩
   by_cases h3 : 0 ≤ R ∧ R ≤ 100000
   ·rw [decide_eq_true h3]
    have H3 := Lib.hid h3
    clear h3
    by_cases h4 : H = 0
    ·subst h4
     have HOK := Lib.hid (show WrOk W F R 0 by have h1 := H1.out; have h2 := H2.out; have h3 := H3.out; unfold WrOk InK; omega)
     by_cases b1 : (4096 : Int) < (l.length : Nat)
     ·have b1n : 4096 < l.length := by omega
      have HV2 := Lib.hid (show c = (6, 0) by rw [← HCK.out]; unfold chkK; rw [if_pos HOK.out, if_pos b1n])
      clear b1n
      go_wp2_with fail
      exact ret_two rfl rfl rfl rfl ⟨by rw [HV2.out]; rfl, HX.out⟩
     ·have b1n : ¬ 4096 < l.length := by omega
      have HV2 := Lib.hid (show c = badK l 0 by rw [← HCK.out]; unfold chkK; rw [if_pos HOK.out, if_neg b1n])
      have hnI : ((l.length : Nat) : Int) ≤ 4096 := by omega
      clear b1n
      go_wp2_with fail
      go_loopw [6] (fun iv W' => ∃ i : Nat, iv = .int .i64 (i : Nat) ∧ i ≤ l.length ∧ Hid (c = badK (l.drop i) i) ∧ Hid (Ext w W')) (fun iv _ => l.length + 1 - (intOf iv).toNat)
      case atStart => exact ⟨0, rfl, Nat.zero_le _, HV2, HX⟩
      case round =>
       obtain ⟨i, rfl, hi, HJ, HXW⟩ := hrel
       obtain ⟨W', rfl⟩ : ∃ W', W' = wr := ⟨_, rfl⟩
       by_cases hil : i < l.length
       ·have hI : ((i : Nat) : Int) < (l.length : Nat) := by omega
        have hd : decide (i < l.length) = true := decide_eq_true hil
        obtain ⟨p', cap', e', _, hcc⟩ := HR.out.ext HXW.out
        obtain ⟨rfl, -, rfl⟩ := Value.slice.inj e'
        obtain ⟨g, o, rfl, _, h6⟩ := hcc (by intro e; subst e; simp at hil)
        obtain ⟨d0, d1, d2, d3⟩ := h6 i hil
        have HJ2 := Lib.hid (show c = badK (l[i] :: l.drop (i + 1)) i by rw [← List.drop_eq_getElem_cons hil]; exact HJ.out)
        generalize l[i] = x at d0 d1 d2 d3 HJ2
        obtain ⟨xw, xb, xh, xm⟩ := x
        simp only at d0 d1 d2 d3
        clear h6 hcc e' HJ
        go_wp2_with fail
        refine (c_rwithin xw 0 W').mono ?_
        rintro e W' ⟨rfl, rfl⟩
        by_cases c1 : 0 ≤ xw ∧ xw ≤ 100000
        ·rw [decide_eq_true c1]
         have HC1 := Lib.hid c1
         clear c1
         go_wp2_with fail
         refine (c_rwithin xb 0 W').mono ?_
         rintro e W' ⟨rfl, rfl⟩
         by_cases c2 : 0 ≤ xb ∧ xb ≤ 100000
         ·rw [decide_eq_true c2]
          have HC2 := Lib.hid c2
          clear c2
          go_wp2_with fail
          refine (c_rwithin xh 0 W').mono ?_
          rintro e W' ⟨rfl, rfl⟩
          by_cases c3 : 0 ≤ xh ∧ xh ≤ 100000
          ·rw [decide_eq_true c3]
           have HJ3 := Lib.hid (show c = badK (l.drop (i + 1)) (i + 1) by rw [HJ2.out, badK, if_pos ⟨HC1.out, HC2.out, c3⟩])
           clear c3
           go_wp2_with fail
           exact ⟨⟨i + 1, by simp, by omega, HJ3, HXW⟩, by simp only [intOf]; omega⟩
          ·rw [decide_eq_false c3]
           have HC3 := Lib.hid c3
           clear c3
           have HV3 := Lib.hid (show c = (160, i) by rw [HJ2.out, badK, if_neg (fun q => by unfold BxOk at q; exact (fun q => HC3.out q.2.2) q)])
           go_wp2_with fail
           exact ret_two rfl rfl rfl rfl ⟨by rw [HV3.out]; rfl, HXW.out⟩
         ·rw [decide_eq_false c2]
          have HC2 := Lib.hid c2
          clear c2
          have HV3 := Lib.hid (show c = (160, i) by rw [HJ2.out, badK, if_neg (fun q => by unfold BxOk at q; exact (fun q => HC2.out q.2.1) q)])
          go_wp2_with fail
          exact ret_two rfl rfl rfl rfl ⟨by rw [HV3.out]; rfl, HXW.out⟩
        ·rw [decide_eq_false c1]
         have HC1 := Lib.hid c1
         clear c1
         have HV3 := Lib.hid (show c = (160, i) by rw [HJ2.out, badK, if_neg (fun q => by unfold BxOk at q; exact (fun q => HC1.out q.1) q)])
         go_wp2_with fail
         exact ret_two rfl rfl rfl rfl ⟨by rw [HV3.out]; rfl, HXW.out⟩
       ·have hI : ¬ ((i : Nat) : Int) < (l.length : Nat) := by omega
        have hd : decide (i < l.length) = false := decide_eq_false hil
        have HV3 := Lib.hid (show c = (0, 0) by rw [HJ.out, List.drop_of_length_le (by omega)]; rfl)
        go_wp2_with fail
        exact ret_two rfl rfl rfl rfl ⟨by rw [HV3.out]; rfl, HXW.out⟩
    ·by_cases h5 : H = 1
     ·subst h5
      have HOK := Lib.hid (show WrOk W F R 1 by have h1 := H1.out; have h2 := H2.out; have h3 := H3.out; unfold WrOk InK; omega)
      by_cases b1 : (4096 : Int) < (l.length : Nat)
      ·have b1n : 4096 < l.length := by omega
       have HV2 := Lib.hid (show c = (6, 0) by rw [← HCK.out]; unfold chkK; rw [if_pos HOK.out, if_pos b1n])
       clear b1n
       go_wp2_with fail
       exact ret_two rfl rfl rfl rfl ⟨by rw [HV2.out]; rfl, HX.out⟩
      ·have b1n : ¬ 4096 < l.length := by omega
       have HV2 := Lib.hid (show c = badK l 0 by rw [← HCK.out]; unfold chkK; rw [if_pos HOK.out, if_neg b1n])
       have hnI : ((l.length : Nat) : Int) ≤ 4096 := by omega
       clear b1n
       go_wp2_with fail
       go_loopw [6] (fun iv W' => ∃ i : Nat, iv = .int .i64 (i : Nat) ∧ i ≤ l.length ∧ Hid (c = badK (l.drop i) i) ∧ Hid (Ext w W')) (fun iv _ => l.length + 1 - (intOf iv).toNat)
       case atStart => exact ⟨0, rfl, Nat.zero_le _, HV2, HX⟩
       case round =>
        obtain ⟨i, rfl, hi, HJ, HXW⟩ := hrel
        obtain ⟨W', rfl⟩ : ∃ W', W' = wr := ⟨_, rfl⟩
        by_cases hil : i < l.length
        ·have hI : ((i : Nat) : Int) < (l.length : Nat) := by omega
         have hd : decide (i < l.length) = true := decide_eq_true hil
         obtain ⟨p', cap', e', _, hcc⟩ := HR.out.ext HXW.out
         obtain ⟨rfl, -, rfl⟩ := Value.slice.inj e'
         obtain ⟨g, o, rfl, _, h6⟩ := hcc (by intro e; subst e; simp at hil)
         obtain ⟨d0, d1, d2, d3⟩ := h6 i hil
         have HJ2 := Lib.hid (show c = badK (l[i] :: l.drop (i + 1)) i by rw [← List.drop_eq_getElem_cons hil]; exact HJ.out)
         generalize l[i] = x at d0 d1 d2 d3 HJ2
         obtain ⟨xw, xb, xh, xm⟩ := x
         simp only at d0 d1 d2 d3
         clear h6 hcc e' HJ
         go_wp2_with fail
         refine (c_rwithin xw 0 W').mono ?_
         rintro e W' ⟨rfl, rfl⟩
         by_cases c1 : 0 ≤ xw ∧ xw ≤ 100000
         ·rw [decide_eq_true c1]
          have HC1 := Lib.hid c1
          clear c1
          go_wp2_with fail
          refine (c_rwithin xb 0 W').mono ?_
          rintro e W' ⟨rfl, rfl⟩
          by_cases c2 : 0 ≤ xb ∧ xb ≤ 100000
          ·rw [decide_eq_true c2]
           have HC2 := Lib.hid c2
           clear c2
           go_wp2_with fail
           refine (c_rwithin xh 0 W').mono ?_
           rintro e W' ⟨rfl, rfl⟩
           by_cases c3 : 0 ≤ xh ∧ xh ≤ 100000
           ·rw [decide_eq_true c3]
            have HJ3 := Lib.hid (show c = badK (l.drop (i + 1)) (i + 1) by rw [HJ2.out, badK, if_pos ⟨HC1.out, HC2.out, c3⟩])
            clear c3
            go_wp2_with fail
            exact ⟨⟨i + 1, by simp, by omega, HJ3, HXW⟩, by simp only [intOf]; omega⟩
           ·rw [decide_eq_false c3]
            have HC3 := Lib.hid c3
            clear c3
            have HV3 := Lib.hid (show c = (160, i) by rw [HJ2.out, badK, if_neg (fun q => by unfold BxOk at q; exact (fun q => HC3.out q.2.2) q)])
            go_wp2_with fail
            exact ret_two rfl rfl rfl rfl ⟨by rw [HV3.out]; rfl, HXW.out⟩
          ·rw [decide_eq_false c2]
           have HC2 := Lib.hid c2
           clear c2
           have HV3 := Lib.hid (show c = (160, i) by rw [HJ2.out, badK, if_neg (fun q => by unfold BxOk at q; exact (fun q => HC2.out q.2.1) q)])
           go_wp2_with fail
           exact ret_two rfl rfl rfl rfl ⟨by rw [HV3.out]; rfl, HXW.out⟩
         ·rw [decide_eq_false c1]
          have HC1 := Lib.hid c1
          clear c1
          have HV3 := Lib.hid (show c = (160, i) by rw [HJ2.out, badK, if_neg (fun q => by unfold BxOk at q; exact (fun q => HC1.out q.1) q)])
          go_wp2_with fail
          exact ret_two rfl rfl rfl rfl ⟨by rw [HV3.out]; rfl, HXW.out⟩
        ·have hI : ¬ ((i : Nat) : Int) < (l.length : Nat) := by omega
         have hd : decide (i < l.length) = false := decide_eq_false hil
         have HV3 := Lib.hid (show c = (0, 0) by rw [HJ.out, List.drop_of_length_le (by omega)]; rfl)
         go_wp2_with fail
         exact ret_two rfl rfl rfl rfl ⟨by rw [HV3.out]; rfl, HXW.out⟩
     ·have b4 : (H != 0) = true := bne_iff_ne.2 h4
      have b5 : (H != 1) = true := bne_iff_ne.2 h5
      have HV := Lib.hid (show c = (161, 0) by rw [← HCK.out]; unfold chkK; rw [if_neg (fun q => by unfold WrOk InK at q; omega)])
      go_wp2_with fail
      exact ret_two rfl rfl rfl rfl ⟨by rw [HV.out]; rfl, HX.out⟩
   ·rw [decide_eq_false h3]
    have HV := Lib.hid (show c = (161, 0) by rw [← HCK.out]; unfold chkK; rw [if_neg (fun q => by unfold WrOk InK at q; omega)])
    go_wp2_with fail
    exact ret_two rfl rfl rfl rfl ⟨by rw [HV.out]; rfl, HX.out⟩
  ·rw [decide_eq_false h2]
   have HV := Lib.hid (show c = (161, 0) by rw [← HCK.out]; unfold chkK; rw [if_neg (fun q => by unfold WrOk InK at q; omega)])
   go_wp2_with fail
   exact ret_two rfl rfl rfl rfl ⟨by rw [HV.out]; rfl, HX.out⟩
 ·rw [decide_eq_false h1]
  have HV := Lib.hid (show c = (161, 0) by rw [← HCK.out]; unfold chkK; rw [if_neg (fun q => by unfold WrOk InK at q; omega)])
  go_wp2_with fail
  exact ret_two rfl rfl rfl rfl ⟨by rw [HV.out]; rfl, HX.out⟩
set_option maxRecDepth 100000 in
set_option maxHeartbeats 2000000 in
theorem c_Checks (v : Value) (l : List BxI) (W F R H : Int) (w : World) (hT : TabsW w) (h : BxRow w v l) :
  Calls Tryz.prog 3 #[v, .agg #[.int .i64 W, .int .i64 F, .int .i64 R, .int .i64 H]] w fun e w' => e = .returned (.bool true) ∧ Ext w w' := by
 have HL := Lib.hid (fun W' (h' : Ext w W') => c_live16 W' (hT.ext h'))
 have HC := Lib.hid (fun W' (h' : Ext w W') => c_wrCheck v l W F R H W' (h.ext h'))
 obtain ⟨p, cap, rfl, _, _⟩ := id h
 have HD := Lib.hid (fun W' (h' : Ext w W') => c_rCheck16 p cap l W F R H W' (h.ext h'))
 generalize chkK l W F R H = c at HC HD
 obtain ⟨c1, c2⟩ := c
 simp only at HC HD
 clear hT h
 by_cases hbig : 40 < l.length ∧ l.length ≤ 4096
 ·have h1 : (40 : Int) < (l.length : Nat) := by omega
  have h2 : ((l.length : Nat) : Int) ≤ 4096 := by omega
  clear hbig
  go_enter Tryz.func3, Tryz.ntmps3
  go_wp2_with fail
  refine (HL.out _ ((Ext.refl w).alloc _)).mono ?_
  rintro e w1 ⟨rfl, hx⟩
  have HX := Lib.hid (((Ext.refl w).alloc _).trans hx)
  clear hx
  go_wp2_with fail
  exact ret_one rfl rfl rfl ⟨rfl, HX.out⟩
 ·have HBG := Lib.hid hbig
  by_cases h1 : (40 : Int) < (l.length : Nat)
  ·have h2 : ¬ ((l.length : Nat) : Int) ≤ 4096 := by omega
   clear hbig
   go_enter Tryz.func3, Tryz.ntmps3
   go_wp2_with fail
   have hb := World.alloc_heap_new w (.cells #[.int .i64 W, .int .i64 F, .int .i64 R, .int .i64 H] 24)
   have hx := (Ext.refl w).alloc (.cells #[.int .i64 W, .int .i64 F, .int .i64 R, .int .i64 H] 24)
   generalize w.alloc (.cells #[.int .i64 W, .int .i64 F, .int .i64 R, .int .i64 H] 24) = w0 at hb hx ⊢
   generalize w.heap.size = tb at hb ⊢
   refine (HC.out w0 hx).mono ?_
   rintro e w1 ⟨rfl, hx1⟩
   have HX1 := Lib.hid (hx.trans hx1)
   have HB1 := Lib.hid (hx1.blk hb)
   have m0 : w1.cell? ⟨tb, 0, none⟩ = some (.int .i64 W) := (cell_blk HB1.out 0).trans rfl
   have m1 : w1.cell? ⟨tb, 1, none⟩ = some (.int .i64 F) := (cell_blk HB1.out 1).trans rfl
   have m2 : w1.cell? ⟨tb, 2, none⟩ = some (.int .i64 R) := (cell_blk HB1.out 2).trans rfl
   have m3 : w1.cell? ⟨tb, 3, none⟩ = some (.int .i64 H) := (cell_blk HB1.out 3).trans rfl
   clear hx hx1 hb
   go_wp2_with fail
   refine (HD.out w1 HX1.out).mono ?_
   rintro e w2 ⟨rfl, hx2⟩
   have HX2 := Lib.hid (HX1.out.trans hx2)
   clear hx2 m0 m1 m2 m3
   go_wp2_with fail
   refine (c_num16 c1 w2).mono ?_
   rintro e w3 ⟨rfl, rfl⟩
   go_wp2_with fail
   refine (HL.out w3 HX2.out).mono ?_
   rintro e w4 ⟨rfl, hx4⟩
   have HX4 := Lib.hid (HX2.out.trans hx4)
   clear hx4
   go_wp2_with fail
   exact ret_one rfl rfl rfl ⟨rfl, HX4.out⟩
  ·clear hbig
   go_enter Tryz.func3, Tryz.ntmps3
   go_wp2_with fail
   have hb := World.alloc_heap_new w (.cells #[.int .i64 W, .int .i64 F, .int .i64 R, .int .i64 H] 24)
   have hx := (Ext.refl w).alloc (.cells #[.int .i64 W, .int .i64 F, .int .i64 R, .int .i64 H] 24)
   generalize w.alloc (.cells #[.int .i64 W, .int .i64 F, .int .i64 R, .int .i64 H] 24) = w0 at hb hx ⊢
   generalize w.heap.size = tb at hb ⊢
   refine (HC.out w0 hx).mono ?_
   rintro e w1 ⟨rfl, hx1⟩
   have HX1 := Lib.hid (hx.trans hx1)
   have HB1 := Lib.hid (hx1.blk hb)
   have m0 : w1.cell? ⟨tb, 0, none⟩ = some (.int .i64 W) := (cell_blk HB1.out 0).trans rfl
   have m1 : w1.cell? ⟨tb, 1, none⟩ = some (.int .i64 F) := (cell_blk HB1.out 1).trans rfl
   have m2 : w1.cell? ⟨tb, 2, none⟩ = some (.int .i64 R) := (cell_blk HB1.out 2).trans rfl
   have m3 : w1.cell? ⟨tb, 3, none⟩ = some (.int .i64 H) := (cell_blk HB1.out 3).trans rfl
   clear hx hx1 hb
   go_wp2_with fail
   refine (HD.out w1 HX1.out).mono ?_
   rintro e w2 ⟨rfl, hx2⟩
   have HX2 := Lib.hid (HX1.out.trans hx2)
   clear hx2 m0 m1 m2 m3
   go_wp2_with fail
   refine (c_num16 c1 w2).mono ?_
   rintro e w3 ⟨rfl, rfl⟩
   go_wp2_with fail
   refine (HL.out w3 HX2.out).mono ?_
   rintro e w4 ⟨rfl, hx4⟩
   have HX4 := Lib.hid (HX2.out.trans hx4)
   clear hx4
   go_wp2_with fail
   exact ret_one rfl rfl rfl ⟨rfl, HX4.out⟩
end Go.Proofs.YtlmkbldiicbejaaGreatDoor
end

section
namespace Go.Proofs.YtlmkbldiicbejaaGreatDoor
open Go.RowKit Go.Rp Go.Maps Go.Cl Go.Shelf Go.Gr Go.Ln

/-- A row of boxes that may be so. -/
def NRowB (w : World) (g o n cap : Nat) (l : List Wp.Bx) : Prop := n = l.length ∧ BxRow w (.slice (some ⟨g, o, none⟩) n cap) (l.map bxI)
theorem NRowB.ext {w w' : World} {g o n cap : Nat} {l : List Wp.Bx} (h : NRowB w g o n cap l) (hx : Ext w w') : NRowB w' g o n cap l := ⟨h.1, h.2.ext hx⟩
theorem NRowB.eon {w w' : World} {g o n cap : Nat} {l : List Wp.Bx} (h : NRowB w g o n cap l) (hx : EOn (fun _ => True) w w') : NRowB w' g o n cap l := by
 obtain ⟨h1, p, c, e, hc, h2⟩ := h
 refine ⟨h1, p, c, e, hc, fun hne => ?_⟩
 obtain ⟨g', o', e2, hg, h3⟩ := h2 hne
 exact ⟨g', o', e2, Nat.lt_of_lt_of_le hg hx.sz, fun i hi => ⟨hx.cell trivial (h3 i hi).1, hx.cell trivial (h3 i hi).2.1, hx.cell trivial (h3 i hi).2.2.1, hx.cell trivial (h3 i hi).2.2.2⟩⟩
theorem NRowB.at {w : World} {g o n cap : Nat} {l : List Wp.Bx} (h : NRowB w g o n cap l) {i : Nat} (hi : i < l.length) : w.cell? ⟨g, o + i * 4, none⟩ = some (.int .i64 ((Wp.gB l i).w : Nat)) ∧ w.cell? ⟨g, o + i * 4 + 1, none⟩ = some (.int .i64 ((Wp.gB l i).b : Nat)) ∧ w.cell? ⟨g, o + i * 4 + 2, none⟩ = some (.int .i64 ((Wp.gB l i).h : Nat)) ∧ w.cell? ⟨g, o + i * 4 + 3, none⟩ = some (.bool (Wp.gB l i).m) := by
 obtain ⟨rfl, p', cap', e, _, h2⟩ := h
 obtain ⟨rfl, -, rfl⟩ := Value.slice.inj e
 obtain ⟨g', o', e2, _, h3⟩ := h2 (by intro q; rw [List.map_eq_nil_iff] at q; subst q; simp at hi)
 obtain ⟨rfl, rfl, -⟩ := Addr.mk.inj (Option.some.inj e2)
 have h4 := h3 i (by rw [List.length_map]; exact hi)
 have e5 : (l.map bxI)[i]'(by rw [List.length_map]; exact hi) = bxI (Wp.gB l i) := by
  rw [List.getElem_map]
  unfold Wp.gB
  rw [List.getD_eq_getElem?_getD, List.getElem?_eq_getElem hi, Option.getD_some]
 rw [e5] at h4
 exact h4
set_option maxRecDepth 100000 in
set_option maxHeartbeats 2000000 in
theorem c_rlast (g o n cap : Nat) (l : List Wp.Bx) (i : Nat) (w : World) (h : NRowB w g o n cap l) (hn : l.length ≤ 4096) (hi : i < l.length) :
  Calls Tryz.prog 35 #[.slice (some ⟨g, o, none⟩) n cap, .int .i64 (i : Nat)] w fun e w' => e = .returned (.int .i64 (Wp.lst l i : Nat)) ∧ w' = w := by
 have HR := Lib.hid h
 obtain rfl := h.1
 have hk1 := Wp.lst_ge l i
 have hk2 := Wp.lst_lt l hi
 have HMD := Lib.hid (fun j (h1 : i ≤ j) (h2 : j < Wp.lst l i) => Wp.lst_mid l h1 h2)
 have HEN := Lib.hid (Wp.lst_end l i)
 generalize Wp.lst l i = k at hk1 hk2 HMD HEN ⊢
 clear h
 go_enter Tryz.func35, Tryz.ntmps35
 go_wp2_with fail
 go_loopw [1] (fun iv W' => ∃ j : Nat, iv = .int .i64 (j : Nat) ∧ i ≤ j ∧ j ≤ k ∧ Hid (W' = w)) (fun iv _ => l.length + 1 - (intOf iv).toNat)
 case atStart => exact ⟨i, rfl, Nat.le_refl _, hk1, Lib.hid rfl⟩
 case round =>
  obtain ⟨j, rfl, hij, hjk, HW⟩ := hrel
  obtain ⟨W', rfl⟩ : ∃ W', W' = wr := ⟨_, rfl⟩
  obtain rfl := HW.out
  have hc := HR.out.at (i := j) (by omega)
  have d3 := hc.2.2.2
  clear hc
  have hbi : ((j : Nat) : Int) < 4096 := by omega
  have hib : ((j : Nat) : Int) < (l.length : Nat) := by omega
  by_cases hlt : j < k
  ·have h2 := HMD.out j hij hlt
   rw [h2.2] at d3
   have hI : ((j : Nat) : Int) + 1 < (l.length : Nat) := by omega
   have hd : decide (j + 1 < l.length) = true := decide_eq_true h2.1
   clear h2
   go_wp2_with fail
   exact ⟨⟨j + 1, by simp, by omega, by omega, Lib.hid trivial⟩, by simp only [intOf]; omega⟩
  ·obtain rfl : j = k := by omega
   by_cases h1 : j + 1 < l.length
   ·have hm : (Wp.gB l j).m = true := by
     cases hq : (Wp.gB l j).m
     ·exact absurd ⟨h1, hq⟩ HEN.out
     ·rfl
    rw [hm] at d3
    have hI : ((j : Nat) : Int) + 1 < (l.length : Nat) := by omega
    have hd : decide (j + 1 < l.length) = true := decide_eq_true h1
    clear hm
    go_wp2_with fail
    exact ret_one rfl rfl rfl ⟨rfl, rfl⟩
   ·have hI : ¬ ((j : Nat) : Int) + 1 < (l.length : Nat) := by omega
    have hd : decide (j + 1 < l.length) = false := decide_eq_false h1
    go_wp2_with fail
    exact ret_one rfl rfl rfl ⟨rfl, rfl⟩
set_option maxRecDepth 100000 in
set_option maxHeartbeats 2000000 in
theorem c_rroom (g o n cap : Nat) (l : List Wp.Bx) (W F R H : Int) (i : Nat) (w : World) (h : NRowB w g o n cap l) (hn : l.length ≤ 4096) (hi : i < l.length) (hW : InK W) (hF : InK F) (hR : InK R) :
  Calls Tryz.prog 45 #[.slice (some ⟨g, o, none⟩) n cap, .agg #[.int .i64 W, .int .i64 F, .int .i64 R, .int .i64 H], .int .i64 (i : Nat)] w fun e w' => e = .returned (.int .i64 (Wp.room ⟨W, F, R⟩ l i)) ∧ Ext w w' := by
 have HR := Lib.hid h
 obtain rfl := h.1
 unfold InK at hW hF hR
 obtain ⟨rm, hrm⟩ : ∃ rm, Wp.room ⟨W, F, R⟩ l i = rm := ⟨_, rfl⟩
 rw [hrm]
 have HRM := Lib.hid hrm
 clear hrm
 have hbi : ((i : Nat) : Int) < 4096 := by omega
 have hib : ((i : Nat) : Int) < (l.length : Nat) := by omega
 by_cases h0 : i = 0
 ·subst h0
  have HV := Lib.hid (show rm = W - F by rw [← HRM.out]; rfl)
  go_enter Tryz.func45, Tryz.ntmps45
  go_wp2_with fail
  exact ret_one rfl rfl rfl ⟨by rw [HV.out]; rfl, (Ext.refl w).alloc _⟩
 ·obtain ⟨j, rfl⟩ : ∃ j, i = j + 1 := ⟨i - 1, by omega⟩
  have hst : Wp.start l (j + 1) = (Wp.gB l j).m := by
   unfold Wp.start
   rw [show (j + 1 == 0) = false from rfl]
   rfl
  have hz : (((j : Nat) : Int) + 1 == 0) = false := by simp; omega
  have hj0 : ((j : Nat) : Int) < (l.length : Nat) := by omega
  cases hm : (Wp.gB l j).m
  ·rw [hm] at hst
   have d3 : ∀ ob, (w.alloc ob).cell? ⟨g, o + j * 4 + 3, none⟩ = some (.bool false) := fun ob => by rw [← hm]; exact ((HR.out.ext ((Ext.refl w).alloc ob)).at (i := j) (by omega)).2.2.2
   have HV := Lib.hid (show rm = W - R by rw [← HRM.out]; unfold Wp.room; rw [hst]; rfl)
   clear hst hm h0 hi
   go_enter Tryz.func45, Tryz.ntmps45
   go_wp2_with fail
   exact ret_one rfl rfl rfl ⟨by rw [HV.out]; rfl, (Ext.refl w).alloc _⟩
  ·rw [hm] at hst
   have d3 : ∀ ob, (w.alloc ob).cell? ⟨g, o + j * 4 + 3, none⟩ = some (.bool true) := fun ob => by rw [← hm]; exact ((HR.out.ext ((Ext.refl w).alloc ob)).at (i := j) (by omega)).2.2.2
   have HV := Lib.hid (show rm = W - F by rw [← HRM.out]; unfold Wp.room; rw [hst]; rfl)
   clear hst hm h0 hi
   go_enter Tryz.func45, Tryz.ntmps45
   go_wp2_with fail
   exact ret_one rfl rfl rfl ⟨by rw [HV.out]; rfl, (Ext.refl w).alloc _⟩
set_option maxRecDepth 100000 in
set_option maxHeartbeats 2000000 in
theorem c_rsize (g o n cap : Nat) (l : List Wp.Bx) (i j : Nat) (w : World) (h : NRowB w g o n cap l) (hsm : SmB l) (hij : i ≤ j) (hj : j < l.length) :
  Calls Tryz.prog 44 #[.slice (some ⟨g, o, none⟩) n cap, .int .i64 (i : Nat), .int .i64 (j : Nat)] w fun e w' => e = .returned (.int .i64 (Wp.sz l i j : Nat)) ∧ Ext w w' := by
 have HR := Lib.hid h
 have HSM := Lib.hid hsm
 have hn := hsm.1
 obtain rfl := h.1
 have hc := h.at hj
 have e0 := hc.1
 have e2 := hc.2.2.1
 have hgj := hsm.2 l[j] (List.getElem_mem hj)
 have hgb : Wp.gB l j = l[j] := by unfold Wp.gB; rw [List.getD_eq_getElem?_getD, List.getElem?_eq_getElem hj, Option.getD_some]
 rw [← hgb] at hgj
 have HL := Lib.hid (fun W' (hx : Ext w W') => c_rlast g o l.length cap l j W' (h.ext hx) hn hj)
 have had := hsm.ahd i j
 obtain ⟨sv, hsv⟩ : ∃ sv, Wp.sz l i j = sv := ⟨_, rfl⟩
 rw [hsv]
 have HSV := Lib.hid (show sv = Wp.ahd l i j + (Wp.gB l j).w + (if j = Wp.lst l j then 0 else (Wp.gB l j).h) from hsv.symm)
 clear hsv h hc hgb hsm
 generalize (Wp.gB l j).w = xw at e0 hgj HSV
 generalize (Wp.gB l j).h = xh at e2 hgj HSV
 have hnI : ((l.length : Nat) : Int) ≤ 4096 := by omega
 have hbj : ((j : Nat) : Int) < (l.length : Nat) := by omega
 go_enter Tryz.func44, Tryz.ntmps44
 go_wp2_with fail
 go_loopw [7, 8] (fun nv kv W' => ∃ k : Nat, kv = .int .i64 (k : Nat) ∧ nv = .int .i64 (Wp.ahd l i k : Nat) ∧ i ≤ k ∧ k ≤ j ∧ Hid (Ext w W')) (fun _ kv _ => l.length + 1 - (intOf kv).toNat)
 case atStart => exact ⟨i, rfl, by rw [Wp.ahd_self]; rfl, Nat.le_refl _, hij, Lib.hid (Ext.refl w)⟩
 case round =>
  obtain ⟨k, rfl, rfl, hik, hkj, HW⟩ := hrel
  obtain ⟨W', rfl⟩ : ∃ W', W' = wr := ⟨_, rfl⟩
  by_cases hlt : k < j
  ·have hI : ((k : Nat) : Int) < (j : Nat) := by omega
   have hd : decide (k < j) = true := decide_eq_true hlt
   have hkb : ((k : Nat) : Int) < (l.length : Nat) := by omega
   have hc := (HR.out.ext HW.out).at (i := k) (by omega)
   have d0 := hc.1
   have d1 := hc.2.1
   have hah := HSM.out.ahd i k
   have hgk := HSM.out.2 l[k] (List.getElem_mem (by omega))
   have hgb : Wp.gB l k = l[k]'(by omega) := by unfold Wp.gB; rw [List.getD_eq_getElem?_getD, List.getElem?_eq_getElem (by omega), Option.getD_some]
   rw [← hgb] at hgk
   have HAS := Lib.hid (Wp.ahd_succ l hik (show k < l.length by omega))
   generalize (Wp.gB l k).w = yw at d0 hgk HAS
   generalize (Wp.gB l k).b = yb at d1 hgk HAS
   generalize Wp.ahd l i k = ah at hah HAS ⊢
   have hab : ((ah : Nat) : Int) ≤ 819200000 := by omega
   have hywb : ((yw : Nat) : Int) ≤ 100000 := by omega
   have hybb : ((yb : Nat) : Int) ≤ 100000 := by omega
   have s0 : ∀ w', EOn (fun _ => True) W' w' → w'.cell? ⟨g, o + k * 4, none⟩ = _ := fun w' h => h.cell trivial d0
   have s1 : ∀ w', EOn (fun _ => True) W' w' → w'.cell? ⟨g, o + k * 4 + 1, none⟩ = _ := fun w' h => h.cell trivial d1
   clear hc hgb hah hgk e0 e2 d0 d1
   go_wp2_with fail
   refine wp_lex (fun _ => True) [true, true, true, true, true, true, true, true, true, true, true, true, true] (by kernel_rfl) (by kernel_rfl) ?_
   repeat first
    | refine wpG_move' ?_
    | refine wpG_assign' ?_
    | refine wpG_val' ?_
    | refine wpG_no' ?_
   refine wpG_end (fun w5 hx5 => ?_)
   have HX5 := Lib.hid (HW.out.trans hx5)
   clear hx5 s0 s1
   go_wp2_with fail
   refine gQ_normal ?_
   go_wp2_with fail
   refine ⟨⟨k + 1, by simp, ?_, by omega, by omega, HX5⟩, by simp only [intOf]; omega⟩
   rw [HAS.out]
   congr 1
   omega
  ·obtain rfl : k = j := by omega
   have hI : ¬ ((k : Nat) : Int) < (k : Nat) := by omega
   have hd : decide (k < k) = false := decide_eq_false (by omega)
   generalize Wp.ahd l i k = ah at had HSV ⊢
   have hab : ((ah : Nat) : Int) ≤ 819200000 := by omega
   have hxw : ((xw : Nat) : Int) ≤ 100000 := by omega
   have hxh : ((xh : Nat) : Int) ≤ 100000 := by omega
   have e0 := HW.out.cell e0
   have e2 := HW.out.cell e2
   clear had
   go_wp2_with fail
   refine (HL.out W' HW.out).mono ?_
   rintro e W' ⟨rfl, rfl⟩
   by_cases hq : k = Wp.lst l k
   ·have HV := Lib.hid (show sv = ah + xw by rw [HSV.out, if_pos hq]; omega)
    rw [← hq]
    clear hq
    go_wp2_with fail
    refine ret_one rfl rfl rfl ⟨?_, HW.out⟩
    rw [HV.out]
    rfl
   ·have HV := Lib.hid (show sv = ah + xw + xh by rw [HSV.out, if_neg hq])
    generalize Wp.lst l k = q at hq ⊢
    have hb : (((k : Nat) : Int) != (q : Nat)) = true := by simp; omega
    clear hq
    go_wp2_with fail
    refine ret_one rfl rfl rfl ⟨?_, HW.out⟩
    rw [HV.out]
    rfl
theorem room_bd {W F R : Int} (hW : InK W) (hF : InK F) (hR : InK R) (l : List Wp.Bx) (i : Nat) : -100000 ≤ Wp.room ⟨W, F, R⟩ l i ∧ Wp.room ⟨W, F, R⟩ l i ≤ 100000 := by
 unfold Wp.room
 simp only
 unfold InK at hW hF hR
 split <;> omega
theorem sz_bd {l : List Wp.Bx} (hsm : SmB l) (i j : Nat) (hj : j < l.length) : Wp.sz l i j ≤ 819500000 := by
 have h1 := hsm.ahd i j
 have h2 := hsm.1
 have h3 := hsm.2 l[j] (List.getElem_mem hj)
 have hgb : Wp.gB l j = l[j] := by unfold Wp.gB; rw [List.getD_eq_getElem?_getD, List.getElem?_eq_getElem hj, Option.getD_some]
 unfold Wp.sz
 rw [hgb]
 split <;> omega
set_option maxRecDepth 100000 in
set_option maxHeartbeats 2000000 in
theorem c_rfits (g o n cap : Nat) (l : List Wp.Bx) (W F R H : Int) (i j : Nat) (w : World) (h : NRowB w g o n cap l) (hsm : SmB l) (hij : i ≤ j) (hj : j < l.length) (hW : InK W) (hF : InK F) (hR : InK R) :
  Calls Tryz.prog 36 #[.slice (some ⟨g, o, none⟩) n cap, .agg #[.int .i64 W, .int .i64 F, .int .i64 R, .int .i64 H], .int .i64 (i : Nat), .int .i64 (j : Nat)] w fun e w' => e = .returned (.bool (Wp.fit ⟨W, F, R⟩ l i j)) ∧ Ext w w' := by
 have HRM := Lib.hid (fun W' (hx : EOn (fun _ => True) w W') => c_rroom g o n cap l W F R H i W' (h.eon hx) hsm.1 (by omega) hW hF hR)
 have HSZ := Lib.hid (fun W' (hx : EOn (fun _ => True) w W') => c_rsize g o n cap l i j W' (h.eon hx) hsm hij hj)
 obtain ⟨fv, hfv⟩ : ∃ fv, Wp.fit ⟨W, F, R⟩ l i j = fv := ⟨_, rfl⟩
 rw [hfv]
 have HFV := Lib.hid (show (i == j || decide ((Wp.sz l i j : Int) ≤ Wp.room ⟨W, F, R⟩ l i)) = fv from hfv)
 generalize Wp.room ⟨W, F, R⟩ l i = rm at HRM HFV
 generalize Wp.sz l i j = sz at HSZ HFV
 clear hfv h hsm
 by_cases he : i = j
 ·subst he
  have HV := Lib.hid (show fv = true by rw [← HFV.out]; simp)
  have hb : (((i : Nat) : Int) == (i : Nat)) = true := by simp
  go_enter Tryz.func36, Tryz.ntmps36
  go_wp2_with fail
  have hb0 := World.alloc_heap_new w (.cells #[.int .i64 W, .int .i64 F, .int .i64 R, .int .i64 H] 24)
  have HX0 := Lib.hid ((Ext.refl w).alloc (.cells #[.int .i64 W, .int .i64 F, .int .i64 R, .int .i64 H] 24))
  generalize w.alloc (.cells #[.int .i64 W, .int .i64 F, .int .i64 R, .int .i64 H] 24) = w1 at hb0 HX0 ⊢
  generalize w.heap.size = tb at hb0 ⊢
  have s0 : ∀ w', EOn (fun _ => True) w1 w' → w'.cell? ⟨tb, 0, none⟩ = some (.int .i64 W) := fun w' h => h.cell trivial ((cell_blk hb0 0).trans rfl)
  have s1 : ∀ w', EOn (fun _ => True) w1 w' → w'.cell? ⟨tb, 1, none⟩ = some (.int .i64 F) := fun w' h => h.cell trivial ((cell_blk hb0 1).trans rfl)
  have s2 : ∀ w', EOn (fun _ => True) w1 w' → w'.cell? ⟨tb, 2, none⟩ = some (.int .i64 R) := fun w' h => h.cell trivial ((cell_blk hb0 2).trans rfl)
  have s3 : ∀ w', EOn (fun _ => True) w1 w' → w'.cell? ⟨tb, 3, none⟩ = some (.int .i64 H) := fun w' h => h.cell trivial ((cell_blk hb0 3).trans rfl)
  have HSZ1 := Lib.hid (fun W' (hx : EOn (fun _ => True) w1 W') => HSZ.out W' ((EOn.of_ext HX0.out).trans hx))
  have HRM1 := Lib.hid (fun W' (hx : EOn (fun _ => True) w1 W') => HRM.out W' ((EOn.of_ext HX0.out).trans hx))
  clear hb0
  refine wp_lex (fun _ => True) [true, true, true, true, true, true, true, true, true, true, true, true, true, true] (by kernel_rfl) (by kernel_rfl) ?_
  repeat first
   | refine wpG_move' ?_
   | refine wpG_assign' ?_
   | refine wpG_val' ?_
   | refine wpG_no' ?_
  refine wpG_end (fun w5 hx5 => ?_)
  have HX5 := Lib.hid (HX0.out.trans hx5)
  clear hx5 s0 s1 s2 s3
  go_wp2_with fail
  refine gQ_normal ?_
  go_wp2_with fail
  exact ret_one rfl rfl rfl ⟨by rw [HV.out]; rfl, HX5.out⟩
 ·have hb : (((i : Nat) : Int) == (j : Nat)) = false := by simp; omega
  have hib : (i == j) = false := by simp; exact he
  rw [hib, Bool.false_or] at HFV
  clear hib he
  obtain ⟨lb, hlb⟩ : ∃ lb, decide (((sz : Nat) : Int) ≤ rm) = lb := ⟨_, rfl⟩
  rw [hlb] at HFV
  go_enter Tryz.func36, Tryz.ntmps36
  go_wp2_with fail
  have hb0 := World.alloc_heap_new w (.cells #[.int .i64 W, .int .i64 F, .int .i64 R, .int .i64 H] 24)
  have HX0 := Lib.hid ((Ext.refl w).alloc (.cells #[.int .i64 W, .int .i64 F, .int .i64 R, .int .i64 H] 24))
  generalize w.alloc (.cells #[.int .i64 W, .int .i64 F, .int .i64 R, .int .i64 H] 24) = w1 at hb0 HX0 ⊢
  generalize w.heap.size = tb at hb0 ⊢
  have s0 : ∀ w', EOn (fun _ => True) w1 w' → w'.cell? ⟨tb, 0, none⟩ = some (.int .i64 W) := fun w' h => h.cell trivial ((cell_blk hb0 0).trans rfl)
  have s1 : ∀ w', EOn (fun _ => True) w1 w' → w'.cell? ⟨tb, 1, none⟩ = some (.int .i64 F) := fun w' h => h.cell trivial ((cell_blk hb0 1).trans rfl)
  have s2 : ∀ w', EOn (fun _ => True) w1 w' → w'.cell? ⟨tb, 2, none⟩ = some (.int .i64 R) := fun w' h => h.cell trivial ((cell_blk hb0 2).trans rfl)
  have s3 : ∀ w', EOn (fun _ => True) w1 w' → w'.cell? ⟨tb, 3, none⟩ = some (.int .i64 H) := fun w' h => h.cell trivial ((cell_blk hb0 3).trans rfl)
  have HSZ1 := Lib.hid (fun W' (hx : EOn (fun _ => True) w1 W') => HSZ.out W' ((EOn.of_ext HX0.out).trans hx))
  have HRM1 := Lib.hid (fun W' (hx : EOn (fun _ => True) w1 W') => HRM.out W' ((EOn.of_ext HX0.out).trans hx))
  clear hb0
  refine wp_lex (fun _ => True) [true, true, true, true, true, true, true, true, true, true, true, true, true, true] (by kernel_rfl) (by kernel_rfl) ?_
  repeat first
   | refine wpG_move' ?_
   | refine wpG_assign' ?_
   | refine wpG_val' ?_
   | refine wpG_no' ?_
  refine wpG_call (by rfl) (fun w' hx => (by go_simp; first | exact rfl | exact ⟨rfl, rfl⟩)) (fun w' hx => (by exact HSZ1.out w' hx)) (by simp only [Act.put, List.setIfInBounds_toArray, List.set_cons_succ, List.set_cons_zero]; rfl) ?_
  repeat first
   | refine wpG_move' ?_
   | refine wpG_assign' ?_
   | refine wpG_val' ?_
   | refine wpG_no' ?_
  refine wpG_call (by rfl) (fun w' hx => (by go_simp; first | exact rfl | exact ⟨rfl, rfl⟩)) (fun w' hx => (by exact HRM1.out w' hx)) (by simp only [Act.put, List.setIfInBounds_toArray, List.set_cons_succ, List.set_cons_zero]; rfl) ?_
  repeat first
   | refine wpG_move' ?_
   | refine wpG_assign' ?_
   | refine wpG_val' ?_
   | refine wpG_no' ?_
  refine wpG_end (fun w5 hx5 => ?_)
  have HX5 := Lib.hid (HX0.out.trans hx5)
  clear hx5 s0 s1 s2 s3
  go_wp2_with fail
  refine gQ_normal ?_
  go_wp2_with fail
  refine ret_one rfl rfl rfl ⟨?_, HX5.out⟩
  rw [← HFV.out, ← hlb]
  rfl
/-- A row of boxes that may be so, or none. -/
def NRowP (w : World) (p : Option Addr) (n cap : Nat) (l : List Wp.Bx) : Prop := n = l.length ∧ BxRow w (.slice p n cap) (l.map bxI)
theorem NRowP.ext {w w' : World} {p : Option Addr} {n cap : Nat} {l : List Wp.Bx} (h : NRowP w p n cap l) (hx : Ext w w') : NRowP w' p n cap l := ⟨h.1, h.2.ext hx⟩
theorem NRowP.some {w : World} {p : Option Addr} {n cap : Nat} {l : List Wp.Bx} (h : NRowP w p n cap l) (hne : 0 < l.length) : ∃ g o, p = some ⟨g, o, none⟩ ∧ NRowB w g o n cap l := by
 obtain ⟨h1, h2⟩ := h
 obtain ⟨p', cap', e, _, h3⟩ := id h2
 obtain ⟨g, o, e2, _⟩ := h3 (by intro q; rw [List.map_eq_nil_iff] at q; subst q; simp at hne)
 obtain ⟨rfl, -, -⟩ := Value.slice.inj e
 subst e2
 exact ⟨g, o, rfl, h1, h2⟩
theorem c_rlastP (p : Option Addr) (n cap : Nat) (l : List Wp.Bx) (i : Nat) (w : World) (h : NRowP w p n cap l) (hn : l.length ≤ 4096) (hi : i < l.length) :
  Calls Tryz.prog 35 #[.slice p n cap, .int .i64 (i : Nat)] w fun e w' => e = .returned (.int .i64 (Wp.lst l i : Nat)) ∧ w' = w := by
 obtain ⟨g, o, rfl, h2⟩ := h.some (by omega)
 exact c_rlast g o n cap l i w h2 hn hi
theorem c_rfitsP (p : Option Addr) (n cap : Nat) (l : List Wp.Bx) (W F R H : Int) (i j : Nat) (w : World) (h : NRowP w p n cap l) (hsm : SmB l) (hij : i ≤ j) (hj : j < l.length) (hW : InK W) (hF : InK F) (hR : InK R) :
  Calls Tryz.prog 36 #[.slice p n cap, .agg #[.int .i64 W, .int .i64 F, .int .i64 R, .int .i64 H], .int .i64 (i : Nat), .int .i64 (j : Nat)] w fun e w' => e = .returned (.bool (Wp.fit ⟨W, F, R⟩ l i j)) ∧ Ext w w' := by
 obtain ⟨g, o, rfl, h2⟩ := h.some (by omega)
 exact c_rfits g o n cap l W F R H i j w h2 hsm hij hj hW hF hR
end Go.Proofs.YtlmkbldiicbejaaGreatDoor
end

section
namespace Go.Proofs.YtlmkbldiicbejaaGreatDoor
open Go.RowKit Go.Rp Go.Maps Go.Cl Go.Shelf Go.Gr Go.Ln

set_option maxRecDepth 100000 in
set_option maxHeartbeats 2000000 in
theorem c_rcost (g o n cap : Nat) (l : List Wp.Bx) (W F R H : Int) (i j : Nat) (w : World) (h : NRowB w g o n cap l) (hsm : SmB l) (hij : i ≤ j) (hj : j < l.length) (hW : InK W) (hF : InK F) (hR : InK R) :
  Calls Tryz.prog 37 #[.slice (some ⟨g, o, none⟩) n cap, .agg #[.int .i64 W, .int .i64 F, .int .i64 R, .int .i64 H], .int .i64 (i : Nat), .int .i64 (j : Nat)] w fun e w' => e = .returned (.int .i64 (Wp.cost ⟨W, F, R⟩ l i j)) ∧ Ext w w' := by
 have HRM := Lib.hid (fun W' (hx : EOn (fun _ => True) w W') => c_rroom g o n cap l W F R H i W' (h.eon hx) hsm.1 (by omega) hW hF hR)
 have HSZ := Lib.hid (fun W' (hx : EOn (fun _ => True) w W') => c_rsize g o n cap l i j W' (h.eon hx) hsm hij hj)
 have HLS := Lib.hid (fun W' (hx : Ext w W') => c_rlast g o n cap l j W' (h.ext hx) hsm.1 hj)
 have hrm := room_bd hW hF hR l i
 have hsz := sz_bd hsm i j hj
 obtain ⟨cv, hcv⟩ : ∃ cv, Wp.cost ⟨W, F, R⟩ l i j = cv := ⟨_, rfl⟩
 rw [hcv]
 have HCV := Lib.hid (show (if Wp.room ⟨W, F, R⟩ l i - (Wp.sz l i j : Nat) < 0 then 10 * (Wp.room ⟨W, F, R⟩ l i - (Wp.sz l i j : Nat)) * (Wp.room ⟨W, F, R⟩ l i - (Wp.sz l i j : Nat)) else if j = Wp.lst l j then 0 else (Wp.room ⟨W, F, R⟩ l i - (Wp.sz l i j : Nat)) * (Wp.room ⟨W, F, R⟩ l i - (Wp.sz l i j : Nat))) = cv from hcv)
 generalize Wp.room ⟨W, F, R⟩ l i = rm at HRM hrm HCV
 generalize Wp.sz l i j = sz at HSZ hsz HCV
 generalize Wp.lst l j = q at HLS HCV
 clear hcv h hsm
 have hszI : ((sz : Nat) : Int) ≤ 819500000 := by omega
 have hsq : 0 ≤ (rm - (sz : Nat)) * (rm - (sz : Nat)) ∧ (rm - (sz : Nat)) * (rm - (sz : Nat)) ≤ 810180010000000000 := by
  have h1 : (rm - (sz : Nat)).natAbs ≤ 900100000 := by omega
  have h2 := Int.natAbs_mul_self (a := rm - (sz : Nat))
  have h3 := Nat.mul_le_mul h1 h1
  omega
 have hw1 : wrap64 (10 * (rm - (sz : Nat))) = 10 * (rm - (sz : Nat)) := IntWalk.wrap64_in _ (by omega)
 have HW2 := Lib.hid (show wrap64 (10 * (rm - (sz : Nat)) * (rm - (sz : Nat))) = 10 * (rm - (sz : Nat)) * (rm - (sz : Nat)) from IntWalk.wrap64_in _ (by rw [Int.mul_assoc]; omega))
 have HW3 := Lib.hid (show wrap64 ((rm - (sz : Nat)) * (rm - (sz : Nat))) = (rm - (sz : Nat)) * (rm - (sz : Nat)) from IntWalk.wrap64_in _ (by omega))
 clear hsq
 go_enter Tryz.func37, Tryz.ntmps37
 go_wp2_with fail
 have hb0 := World.alloc_heap_new w (.cells #[.int .i64 W, .int .i64 F, .int .i64 R, .int .i64 H] 24)
 have HX0 := Lib.hid ((Ext.refl w).alloc (.cells #[.int .i64 W, .int .i64 F, .int .i64 R, .int .i64 H] 24))
 generalize w.alloc (.cells #[.int .i64 W, .int .i64 F, .int .i64 R, .int .i64 H] 24) = w1 at hb0 HX0 ⊢
 generalize w.heap.size = tb at hb0 ⊢
 have s0 : ∀ w', EOn (fun _ => True) w1 w' → w'.cell? ⟨tb, 0, none⟩ = some (.int .i64 W) := fun w' h => h.cell trivial ((cell_blk hb0 0).trans rfl)
 have s1 : ∀ w', EOn (fun _ => True) w1 w' → w'.cell? ⟨tb, 1, none⟩ = some (.int .i64 F) := fun w' h => h.cell trivial ((cell_blk hb0 1).trans rfl)
 have s2 : ∀ w', EOn (fun _ => True) w1 w' → w'.cell? ⟨tb, 2, none⟩ = some (.int .i64 R) := fun w' h => h.cell trivial ((cell_blk hb0 2).trans rfl)
 have s3 : ∀ w', EOn (fun _ => True) w1 w' → w'.cell? ⟨tb, 3, none⟩ = some (.int .i64 H) := fun w' h => h.cell trivial ((cell_blk hb0 3).trans rfl)
 have HSZ1 := Lib.hid (fun W' (hx : EOn (fun _ => True) w1 W') => HSZ.out W' ((EOn.of_ext HX0.out).trans hx))
 have HRM1 := Lib.hid (fun W' (hx : EOn (fun _ => True) w1 W') => HRM.out W' ((EOn.of_ext HX0.out).trans hx))
 clear hb0
 refine wp_lex (fun _ => True) [true, true, true, true, true, true, true, true, true] (by kernel_rfl) (by kernel_rfl) ?_
 repeat first
  | refine wpG_move' ?_
  | refine wpG_assign' ?_
  | refine wpG_val' ?_
  | refine wpG_no' ?_
 refine wpG_call (by rfl) (fun w' hx => (by go_simp; first | exact rfl | exact ⟨rfl, rfl⟩)) (fun w' hx => (by exact HSZ1.out w' hx)) (by simp only [Act.put, List.setIfInBounds_toArray, List.set_cons_succ, List.set_cons_zero]; rfl) ?_
 repeat first
  | refine wpG_move' ?_
  | refine wpG_assign' ?_
  | refine wpG_val' ?_
  | refine wpG_no' ?_
 refine wpG_call (by rfl) (fun w' hx => (by go_simp; first | exact rfl | exact ⟨rfl, rfl⟩)) (fun w' hx => (by exact HRM1.out w' hx)) (by simp only [Act.put, List.setIfInBounds_toArray, List.set_cons_succ, List.set_cons_zero]; rfl) ?_
 repeat first
  | refine wpG_move' ?_
  | refine wpG_assign' ?_
  | refine wpG_val' ?_
  | refine wpG_no' ?_
 refine wpG_end (fun w2 hx5 => ?_)
 have HX2 := Lib.hid (HX0.out.trans hx5)
 clear hx5 s0 s1 s2 s3
 go_wp2_with fail
 refine gQ_normal ?_
 by_cases hneg : rm - (sz : Nat) < 0
 ·have HV := Lib.hid (show cv = _ from HCV.out.symm.trans (if_pos hneg))
  go_wp2_with fail
  exact ret_one rfl rfl rfl ⟨by rw [HV.out]; exact congrArg (fun x => Ending.returned (.int .i64 x)) HW2.out, HX2.out⟩
 ·have HV0 := Lib.hid (show cv = _ from HCV.out.symm.trans (if_neg hneg))
  go_wp2_with fail
  refine (HLS.out _ HX2.out).mono ?_
  rintro e w3 ⟨rfl, rfl⟩
  by_cases hq : j = q
  ·have HV := Lib.hid (show cv = _ from HV0.out.trans (if_pos hq))
   subst hq
   go_wp2_with fail
   exact ret_one rfl rfl rfl ⟨by rw [HV.out]; rfl, HX2.out⟩
  ·have HV := Lib.hid (show cv = _ from HV0.out.trans (if_neg hq))
   have hb : (((j : Nat) : Int) == (q : Nat)) = false := by simp; omega
   clear hq
   go_wp2_with fail
   exact ret_one rfl rfl rfl ⟨by rw [HV.out]; exact congrArg (fun x => Ending.returned (.int .i64 x)) HW3.out, HX2.out⟩
theorem c_rcostP (p : Option Addr) (n cap : Nat) (l : List Wp.Bx) (W F R H : Int) (i j : Nat) (w : World) (h : NRowP w p n cap l) (hsm : SmB l) (hij : i ≤ j) (hj : j < l.length) (hW : InK W) (hF : InK F) (hR : InK R) :
  Calls Tryz.prog 37 #[.slice p n cap, .agg #[.int .i64 W, .int .i64 F, .int .i64 R, .int .i64 H], .int .i64 (i : Nat), .int .i64 (j : Nat)] w fun e w' => e = .returned (.int .i64 (Wp.cost ⟨W, F, R⟩ l i j)) ∧ Ext w w' := by
 obtain ⟨g, o, rfl, h2⟩ := h.some (by omega)
 exact c_rcost g o n cap l W F R H i j w h2 hsm hij hj hW hF hR
set_option maxRecDepth 100000 in
set_option maxHeartbeats 4000000 in
theorem c_rgreedy (p : Option Addr) (n cap : Nat) (l : List Wp.Bx) (W F R H : Int) (w : World) (h : NRowP w p n cap l) (hsm : SmB l) (hn : l.length ≤ 64) (hW : InK W) (hF : InK F) (hR : InK R) :
  Calls Tryz.prog 29 #[.slice p n cap, .agg #[.int .i64 W, .int .i64 F, .int .i64 R, .int .i64 H]] w fun e w' => ∃ v, e = .returned v ∧ w'.ownsRow w.heap.size 3 1 v (Wp.greedy ⟨W, F, R⟩ l l.length 0).length (nW (Wp.greedy ⟨W, F, R⟩ l l.length 0)) ∧ Ext w w' := by
 have HLS := Lib.hid (fun i (hi : i < l.length) W' (hx : Ext w W') => c_rlastP p n cap l i W' (h.ext hx) hsm.1 hi)
 have HFT := Lib.hid (fun i j (hij : i ≤ j) (hj : j < l.length) W' (hx : Ext w W') => c_rfitsP p n cap l W F R H i j W' (h.ext hx) hsm hij hj hW hF hR)
 obtain ⟨rfl, _⟩ := h
 obtain ⟨GL, hGL⟩ : ∃ GL, Wp.greedy ⟨W, F, R⟩ l l.length 0 = GL := ⟨_, rfl⟩
 rw [hGL]
 have HGL := Lib.hid hGL
 have hnI : ((l.length : Nat) : Int) ≤ 64 := by omega
 clear hGL hsm hW hF hR
 go_enter Tryz.func29, Tryz.ntmps29
 go_wp2_with fail
 have hx0 := (Ext.refl w).alloc (.cells #[.int .i64 W, .int .i64 F, .int .i64 R, .int .i64 H] 24)
 have hbo := World.alloc_heap_new w (.cells #[.int .i64 W, .int .i64 F, .int .i64 R, .int .i64 H] 24)
 have HSZ := Lib.hid (World.size_alloc w (.cells #[.int .i64 W, .int .i64 F, .int .i64 R, .int .i64 H] 24))
 generalize w.alloc (.cells #[.int .i64 W, .int .i64 F, .int .i64 R, .int .i64 H] 24) = w0 at hx0 hbo HSZ ⊢
 obtain ⟨tb, htb⟩ : ∃ tb, w.heap.size = tb := ⟨_, rfl⟩
 rw [htb] at hbo HSZ ⊢
 have HTB := Lib.hid htb
 have HX0 := Lib.hid hx0
 have HBO := Lib.hid hbo
 have m0 : ∀ W', Ext w0 W' → W'.cell? ⟨tb, 0, none⟩ = some (.int .i64 W) := fun W' h => h.cell ((cell_blk HBO.out 0).trans rfl)
 have m1 : ∀ W', Ext w0 W' → W'.cell? ⟨tb, 1, none⟩ = some (.int .i64 F) := fun W' h => h.cell ((cell_blk HBO.out 1).trans rfl)
 have m2 : ∀ W', Ext w0 W' → W'.cell? ⟨tb, 2, none⟩ = some (.int .i64 R) := fun W' h => h.cell ((cell_blk HBO.out 2).trans rfl)
 have m3 : ∀ W', Ext w0 W' → W'.cell? ⟨tb, 3, none⟩ = some (.int .i64 H) := fun W' h => h.cell ((cell_blk HBO.out 3).trans rfl)
 have HM := Lib.hid (And.intro m0 (And.intro m1 (And.intro m2 m3)))
 clear hx0 hbo htb m0 m1 m2 m3
 go_loopw [5, 6, 7, 8, 9] (fun ov iv _ _ _ V => ∃ (i : Nat) (G : List Nat), iv = .int .i64 (i : Nat) ∧ i ≤ l.length ∧ G.length ≤ i ∧ Hid (V.ownsRow (tb + 1) 3 1 ov G.length (nW G)) ∧ Hid (GL = G ++ Wp.greedy ⟨W, F, R⟩ l l.length i) ∧ Hid (Ext w0 V)) (fun _ iv _ _ _ _ => l.length + 1 - (intOf iv).toNat)
 case atStart => exact ⟨0, [], rfl, Nat.zero_le _, Nat.zero_le _, Lib.hid (World.ownsRow_nil _ _ _ _), Lib.hid HGL.out.symm, Lib.hid (Ext.refl _)⟩
 case round =>
  obtain ⟨i, G, rfl, hi, hG, HO, HE, HX⟩ := hrel
  obtain ⟨V, rfl⟩ : ∃ V, V = wr := ⟨_, rfl⟩
  obtain ⟨po, co, rfl⟩ := own_slice HO.out
  by_cases hil : i < l.length
  ·have hI : ((i : Nat) : Int) < (l.length : Nat) := by omega
   have hd : decide (i < l.length) = true := decide_eq_true hil
   have hge := Wp.lst_ge l i
   have hlt := Wp.lst_lt l hil
   have HEE := Lib.hid (show Wp.greedy ⟨W, F, R⟩ l l.length i = Wp.bestG ⟨W, F, R⟩ l i :: Wp.greedy ⟨W, F, R⟩ l l.length (Wp.bestG ⟨W, F, R⟩ l i + 1) by
    rw [Wp.greedy_fuel _ _ l.length (l.length + 1) i (by omega) (by omega), Wp.greedy, if_pos hil])
   go_wp2_with fail
   refine (HLS.out i hil V (HX0.out.trans HX.out)).mono ?_
   rintro e V ⟨rfl, rfl⟩
   obtain ⟨q, hq⟩ : ∃ q, Wp.lst l i = q := ⟨_, rfl⟩
   rw [hq] at hge hlt ⊢
   have HQ := Lib.hid hq
   clear hq
   go_wp2_with fail
   go_loopw [7, 9] (fun bv jv U => ∃ (b j : Nat), bv = .int .i64 (b : Nat) ∧ jv = .int .i64 (j : Nat) ∧ i ≤ j ∧ j ≤ q + 1 ∧ i ≤ b ∧ b ≤ q ∧ Hid (Wp.bestG ⟨W, F, R⟩ l i = Wp.lastFit ⟨W, F, R⟩ l i (List.range' j (q + 1 - j)) b) ∧ Hid (Ext V U)) (fun _ jv _ => l.length + 1 - (intOf jv).toNat)
   case atStart => exact ⟨i, i, rfl, rfl, Nat.le_refl _, by omega, Nat.le_refl _, hge, Lib.hid (by unfold Wp.bestG; rw [HQ.out]), Lib.hid (Ext.refl _)⟩
   case round =>
    obtain ⟨b, j, rfl, rfl, hij, hjq, hib, hbq, HB, HU⟩ := hrel
    obtain ⟨U, rfl⟩ : ∃ U, U = wr := ⟨_, rfl⟩
    by_cases hjl : j ≤ q
    ·have hJ : ((j : Nat) : Int) ≤ (q : Nat) := by omega
     have hdj : decide (j ≤ q) = true := decide_eq_true hjl
     have HSTEP := Lib.hid (show Wp.lastFit ⟨W, F, R⟩ l i (List.range' j (q + 1 - j)) b = Wp.lastFit ⟨W, F, R⟩ l i (List.range' (j + 1) (q + 1 - (j + 1))) (if Wp.fit ⟨W, F, R⟩ l i j then j else b) by
      rw [show q + 1 - j = (q + 1 - (j + 1)) + 1 by omega, List.range'_succ, Wp.lastFit])
     have o0 := HM.out.1 U (HX.out.trans HU.out)
     have o1 := HM.out.2.1 U (HX.out.trans HU.out)
     have o2 := HM.out.2.2.1 U (HX.out.trans HU.out)
     have o3 := HM.out.2.2.2 U (HX.out.trans HU.out)
     go_wp2_with fail
     refine (HFT.out i j hij (by omega) U (HX0.out.trans (HX.out.trans HU.out))).mono ?_
     rintro e U1 ⟨rfl, hx1⟩
     have HU1 := Lib.hid (HU.out.trans hx1)
     clear hx1 o0 o1 o2 o3
     generalize Wp.fit ⟨W, F, R⟩ l i j = ft at HSTEP ⊢
     cases ft
     ·go_wp2_with fail
      exact ⟨⟨b, j + 1, rfl, by simp, by omega, by omega, hib, hbq, Lib.hid (HB.out.trans HSTEP.out), HU1⟩, by simp only [intOf]; omega⟩
     ·go_wp2_with fail
      exact ⟨⟨j, j + 1, rfl, by simp, by omega, by omega, hij, hjl, Lib.hid (HB.out.trans HSTEP.out), HU1⟩, by simp only [intOf]; omega⟩
    ·have hJ : ¬ ((j : Nat) : Int) ≤ (q : Nat) := by omega
     have hdj : decide (j ≤ q) = false := decide_eq_false hjl
     have HB2 := Lib.hid (show Wp.bestG ⟨W, F, R⟩ l i = b by rw [HB.out, show q + 1 - j = 0 by omega]; rfl)
     have HO2 := Lib.hid (ownsRow_ext HO.out HU.out)
     go_wp2_with (at_builtin; refine Hid.out ?_)
     refine wpList_appI (B := tb + 1) (n := G.length) rfl (.tmp 30) (.tmp 32) rfl rfl HO2.out (by rw [← HSZ.out]; exact (HX.out.trans HU.out).sz) (b : Nat) U.heap.size rfl rfl (by omega) ?_
     intro v' w9 g1 g2
     have HX9 := Lib.hid (Below.grown (HX.out.trans HU.out) g2 (HX.out.trans HU.out).sz (fun k e => by have := (HO2.out.lt k e).1; rw [HSZ.out]; exact this))
     have HO9 := Lib.hid g1
     clear g1 g2
     go_wp2_with fail
     refine ⟨⟨b + 1, G ++ [b], by simp, by omega, by simp; omega, Lib.hid ?_, Lib.hid ?_, HX9⟩, by simp only [intOf]; omega⟩
     ·rw [nW_app, List.length_append]
      exact HO9.out
     ·rw [HE.out, HEE.out, HB2.out, List.append_assoc]
      rfl
  ·have hI : ¬ ((i : Nat) : Int) < (l.length : Nat) := by omega
   have hd : decide (i < l.length) = false := decide_eq_false hil
   have HE2 := Lib.hid (show GL = G by rw [HE.out, Wp.greedy_fuel _ _ l.length (l.length + 1) i (by omega) (by omega), Wp.greedy, if_neg hil, List.append_nil])
   go_wp2_with fail
   refine ret_one rfl rfl rfl ⟨_, rfl, ?_, HX0.out.trans HX.out⟩
   rw [HE2.out]
   exact own_lower HO.out (by have := HTB.out; omega)
end Go.Proofs.YtlmkbldiicbejaaGreatDoor
end

section
namespace Go.Proofs.YtlmkbldiicbejaaGreatDoor
open Go.RowKit Go.Rp Go.Maps Go.Cl Go.Shelf Go.Gr Go.Ln

theorem cost_bdA {l : List Wp.Bx} (hsm : SmB l) (hn : l.length ≤ 64) (r : Wp.Wr) (hW : InK r.w) (hF : InK r.f) (hR : InK r.r) (i : Nat) {j : Nat} (hj : j < l.length) : Wp.cost r l i j ≤ 2000000000000000 := by
 have h1 := hsm.ahd i j
 have h3 := hsm.2 l[j] (List.getElem_mem hj)
 have hs : Wp.sz l i j ≤ 13000000 := by
  unfold Wp.sz Wp.gB
  rw [List.getD_eq_getElem?_getD, List.getElem?_eq_getElem hj, Option.getD_some]
  split <;> omega
 have hrb : -100000 ≤ Wp.room r l i ∧ Wp.room r l i ≤ 100000 := by
  unfold InK at hW hF hR
  unfold Wp.room
  split <;> omega
 unfold Wp.cost
 simp only
 generalize Wp.room r l i = rm at hrb ⊢
 generalize Wp.sz l i j = sz at hs ⊢
 have h4 : (rm - (sz : Nat)).natAbs ≤ 13100000 := by omega
 have h5 := Int.natAbs_mul_self (a := rm - (sz : Nat))
 have h6 := Nat.mul_le_mul h4 h4
 have h7 : 10 * (rm - (sz : Nat)) * (rm - (sz : Nat)) = 10 * ((rm - (sz : Nat)) * (rm - (sz : Nat))) := Int.mul_assoc _ _ _
 split
 ·rw [h7]; omega
 ·split <;> omega
theorem bestW_bdA {l : List Wp.Bx} (hsm : SmB l) (hn : l.length ≤ 64) (r : Wp.Wr) (hW : InK r.w) (hF : InK r.f) (hR : InK r.r) : ∀ (f i : Nat), l.length ≤ f + i → i ≤ l.length → 0 ≤ (Wp.bestW r l f i).c ∧ (Wp.bestW r l f i).c ≤ 2000000000000000 * ((l.length - i : Nat) : Int) ∧ (Wp.bestW r l f i).k ≤ l.length - i
 | 0, i, h, h1 => by
  rw [Wp.bestW]
  simp
  omega
 | f + 1, i, h, h1 => by
  by_cases hi : i < l.length
  ·obtain ⟨a1, a2, a3, a4, _⟩ := Wp.bestW_spec r l f i h hi
   have hl := Wp.lst_lt l hi
   have hcn := Wp.cost_nn r l i (Wp.bestW r l (f + 1) i).e
   have hcb := cost_bdA hsm hn r hW hF hR i (j := (Wp.bestW r l (f + 1) i).e) (by omega)
   obtain ⟨b1, b2, b3⟩ := bestW_bdA hsm hn r hW hF hR f ((Wp.bestW r l (f + 1) i).e + 1) (by omega) (by omega)
   have hc : (Wp.bestW r l (f + 1) i).c = Wp.cost r l i (Wp.bestW r l (f + 1) i).e + (Wp.bestW r l f ((Wp.bestW r l (f + 1) i).e + 1)).c := by
    conv => lhs; rw [a4]
    rfl
   have hk : (Wp.bestW r l (f + 1) i).k = (Wp.bestW r l f ((Wp.bestW r l (f + 1) i).e + 1)).k + 1 := by
    conv => lhs; rw [a4]
    rfl
   rw [hc, hk]
   omega
  ·rw [Wp.bestW, if_neg hi]
   refine ⟨Int.le_refl _, ?_, Nat.zero_le _⟩
   show (0 : Int) ≤ _
   omega
theorem accW_endA (r : Wp.Wr) (l : List Wp.Bx) {i : Nat} (hi : i < l.length) : (accW r l i (Wp.lst l i + 1)).getD ⟨0, 0, 0⟩ = Wp.bestW r l l.length i := by
 rw [Wp.bestW_fuel r l l.length (l.length + 1) i (by omega) (by omega), Wp.bestW, if_pos hi]
 rfl
theorem wayT_endA (r : Wp.Wr) (l : List Wp.Bx) {i : Nat} (hi : i < l.length) : wayT r l i (Wp.lst l i + 1) = allT r l i := by
 unfold wayT
 rw [accW_endA r l hi]
 refine List.ext_getElem? fun k => ?_
 by_cases hk : k ≤ l.length
 ·by_cases e : i = k
  ·subst e
   rw [List.getElem?_set_self (by rw [allT_len]; omega), allT_get r l _ _ hk, if_neg (by omega)]
  ·rw [List.getElem?_set_ne e, allT_get r l _ _ hk, allT_get r l _ _ hk]
   by_cases h2 : k < i
   ·rw [if_pos (by omega), if_pos h2]
   ·rw [if_neg (by omega), if_neg h2]
 ·rw [List.getElem?_eq_none (by rw [List.length_set, allT_len]; omega), List.getElem?_eq_none (by rw [allT_len]; omega)]
/-- The ways stand in a block of the document's. -/
def BsIs (V : World) (gb : Nat) (ws : List Wp.Way) : Prop := V.heap[gb]? = some (.cells (wyW ws).toArray 83 (0, 0))
theorem BsIs.ext {A B : World} {gb : Nat} {ws : List Wp.Way} (h : BsIs A gb ws) (hx : Ext A B) : BsIs B gb ws := hx.blk h
theorem BsIs.at {V : World} {gb : Nat} {ws : List Wp.Way} (h : BsIs V gb ws) {i : Nat} (hi : i < ws.length) : V.cell? ⟨gb, i * 3, none⟩ = some (.int .i64 ws[i].c) ∧ V.cell? ⟨gb, i * 3 + 1, none⟩ = some (.int .i64 (ws[i].k : Nat)) ∧ V.cell? ⟨gb, i * 3 + 2, none⟩ = some (.int .i64 (ws[i].e : Nat)) := by
 obtain ⟨h1, h2, h3⟩ := wyW_get ws i hi
 refine ⟨?_, ?_, ?_⟩
 ·rw [cell_blk h, List.getElem?_toArray]; exact h1
 ·rw [cell_blk h, List.getElem?_toArray]; exact h2
 ·rw [cell_blk h, List.getElem?_toArray]; exact h3
theorem Tryz.infoBs : (Tryz.prog.info? 83).map (fun i => (i.zero, i.size, i.bytes)) = some (some (.agg #[.int .i64 0, .int .i64 0, .int .i64 0]), 3, 24) := by kernel_rfl
theorem run_mkB (n : Nat) (w : World) (hn : n ≤ 1000) : (Instr.makeSlice 81 (.int .i64 ((n : Nat) + 1)) (.int .i64 ((n : Nat) + 1))).run Tryz.prog w = .ok (.slice (some ⟨w.heap.size, 0, none⟩) (n + 1) (n + 1)) (w.alloc (.cells (wyW (List.replicate (n + 1) ⟨0, 0, 0⟩)).toArray 83)) := by
 obtain ⟨i0, hi0, hz0, hz1, hz3⟩ := info_parts Tryz.infoBs
 rw [run_make w 81 83 i0 (.agg #[.int .i64 0, .int .i64 0, .int .i64 0]) Tryz.underlying81 hi0 hz0 .i64 .i64 ((n : Nat) + 1) ((n : Nat) + 1) (by omega) (by omega) (by rw [hz3]; omega) (by omega), hz1, show ((n : Int) + 1).toNat = n + 1 by omega, made_zero, wyW_zero]
end Go.Proofs.YtlmkbldiicbejaaGreatDoor
end

section
namespace Go.Proofs.YtlmkbldiicbejaaGreatDoor
open Go.RowKit Go.Rp Go.Maps Go.Cl Go.Shelf Go.Gr Go.Ln

set_option maxRecDepth 100000 in
set_option maxHeartbeats 4000000 in
theorem c_rCost (p : Option Addr) (n cap : Nat) (l : List Wp.Bx) (W F R H : Int) (ve : Value) (es : List Int) (w : World) (h : NRowP w p n cap l) (hes : IRow w ve es) (hee : ∀ x ∈ es, -9223372036854775808 ≤ x ∧ x ≤ 9223372036854775807) (hel : es.length ≤ 1000000) (hsm : SmB l) (hn : l.length ≤ 64) (hok : WrOk W F R H) :
  Calls Tryz.prog 17 #[.slice p n cap, .agg #[.int .i64 W, .int .i64 F, .int .i64 R, .int .i64 H], ve] w fun e w' => e = .returned (.tuple #[.int .i64 ((Wp.costF ⟨W, F, R⟩ l 0 es).getD 0), .bool (Wp.costF ⟨W, F, R⟩ l 0 es).isSome]) ∧ Ext w w' := by
 obtain ⟨cc, hcc⟩ : ∃ cc, (Wp.costF ⟨W, F, R⟩ l 0 es).getD 0 = cc := ⟨_, rfl⟩
 obtain ⟨cb, hcb⟩ : ∃ cb, (Wp.costF ⟨W, F, R⟩ l 0 es).isSome = cb := ⟨_, rfl⟩
 rw [hcc, hcb]
 have HCC := Lib.hid (And.intro hcc hcb)
 clear hcc hcb
 have hW := hok.2.1
 have hF := hok.2.2.1
 have hR := hok.2.2.2.1
 have HLS := Lib.hid (fun i (hi : i < l.length) W' (hx : Ext w W') => c_rlastP p n cap l i W' (h.ext hx) hsm.1 hi)
 have HFT := Lib.hid (fun i j (hij : i ≤ j) (hj : j < l.length) W' (hx : Ext w W') => c_rfitsP p n cap l W F R H i j W' (h.ext hx) hsm hij hj hW hF hR)
 have HCO := Lib.hid (fun i j (hij : i ≤ j) (hj : j < l.length) W' (hx : Ext w W') => c_rcostP p n cap l W F R H i j W' (h.ext hx) hsm hij hj hW hF hR)
 have HBD := Lib.hid (fun i j (hj : j < l.length) => And.intro (Wp.cost_nn ⟨W, F, R⟩ l i j) (cost_bdA hsm hn ⟨W, F, R⟩ hW hF hR i hj))
 have HCK0 := Lib.hid (chkK_ok W F R H l hsm hn hok)
 have HCK := Lib.hid (fun W' (hx : Ext w W') => c_rCheck16 p cap (l.map bxI) W F R H W' (by have := (h.ext hx).2; rw [List.length_map, ← h.1]; exact this))
 have HEE := Lib.hid hee
 obtain rfl := h.1
 have hnI : ((l.length : Nat) : Int) ≤ 64 := by omega
 obtain ⟨ep, ec, rfl, hec, hrow⟩ := hes
 have HROW := Lib.hid hrow
 have heI : ((es.length : Nat) : Int) ≤ 1000000 := by omega
 clear hsm hW hF hR hok hee hrow h
 rw [List.length_map] at HCK
 go_enter Tryz.func17, Tryz.ntmps17
 go_wp2_with fail
 have hx0 := (Ext.refl w).alloc (.cells #[.int .i64 W, .int .i64 F, .int .i64 R, .int .i64 H] 24)
 have hbo := World.alloc_heap_new w (.cells #[.int .i64 W, .int .i64 F, .int .i64 R, .int .i64 H] 24)
 generalize w.alloc (.cells #[.int .i64 W, .int .i64 F, .int .i64 R, .int .i64 H] 24) = w0 at hx0 hbo ⊢
 generalize w.heap.size = tb at hbo ⊢
 refine (HCK.out w0 hx0).mono ?_
 rintro e w1 ⟨rfl, hx1⟩
 rw [HCK0.out]
 have HX1 := Lib.hid (hx0.trans hx1)
 have HBO := Lib.hid (hx1.blk hbo)
 clear hx0 hx1 hbo HCK HCK0
 go_wp2_with fail
 go_loopw [10, 11, 12, 13] (fun sv iv kv _ V => ∃ (k i : Nat) (S : Int), sv = .int .i64 S ∧ iv = .int .i64 (i : Nat) ∧ kv = .int .i64 (k : Nat) ∧ k ≤ es.length ∧ i ≤ l.length ∧ 0 ≤ S ∧ S ≤ 2000000000000000 * (i : Nat) ∧ Hid (Wp.costF ⟨W, F, R⟩ l 0 es = (Wp.costF ⟨W, F, R⟩ l i (es.drop k)).map (S + ·)) ∧ Hid (Ext w1 V)) (fun _ _ kv _ _ => es.length + 1 - (intOf kv).toNat)
 case atStart =>
  refine ⟨0, 0, 0, rfl, rfl, rfl, Nat.zero_le _, Nat.zero_le _, Int.le_refl _, by omega, Lib.hid ?_, Lib.hid (Ext.refl _)⟩
  rw [List.drop_zero]
  cases Wp.costF ⟨W, F, R⟩ l 0 es <;> simp
 case round =>
  obtain ⟨k, i, S, rfl, rfl, rfl, hk, hi, hS0, hS1, HCF, HX⟩ := hrel
  obtain ⟨V, rfl⟩ : ∃ V, V = wr := ⟨_, rfl⟩
  by_cases hkl : k < es.length
  ·have hI : ((k : Nat) : Int) < (es.length : Nat) := by omega
   have hd : decide (k < es.length) = true := decide_eq_true hkl
   obtain ⟨eb, eo, rfl, _, hc⟩ := HROW.out (by intro q; subst q; simp at hkl)
   have e0 := (HX1.out.trans HX.out).cell (hc k hkl)
   have HDR := Lib.hid (List.drop_eq_getElem_cons hkl)
   have heb := HEE.out es[k] (List.getElem_mem hkl)
   generalize es[k] = j at e0 HDR heb
   have m0 : V.cell? ⟨tb, 0, none⟩ = some (.int .i64 W) := HX.out.cell ((cell_blk HBO.out 0).trans rfl)
   have m1 : V.cell? ⟨tb, 1, none⟩ = some (.int .i64 F) := HX.out.cell ((cell_blk HBO.out 1).trans rfl)
   have m2 : V.cell? ⟨tb, 2, none⟩ = some (.int .i64 R) := HX.out.cell ((cell_blk HBO.out 2).trans rfl)
   have m3 : V.cell? ⟨tb, 3, none⟩ = some (.int .i64 H) := HX.out.cell ((cell_blk HBO.out 3).trans rfl)
   clear hc
   by_cases hj1 : j < (i : Nat)
   ·have HST := Lib.hid (show Wp.costF ⟨W, F, R⟩ l 0 es = none by rw [HCF.out, HDR.out, Wp.costF, if_pos (.inl hj1)]; rfl)
    go_wp2_with fail
    have hq := HCC.out
    rw [HST.out] at hq
    exact ret_two rfl rfl rfl rfl ⟨cost_ret hq.1 hq.2, (HX1.out.trans HX.out)⟩
   ·obtain ⟨jn, rfl⟩ : ∃ jn : Nat, j = (jn : Int) := ⟨j.toNat, by omega⟩
    have hd1 : decide (jn < i) = false := decide_eq_false (by omega)
    by_cases hj2 : ((l.length : Nat) : Int) ≤ (jn : Nat)
    ·have HST := Lib.hid (show Wp.costF ⟨W, F, R⟩ l 0 es = none by rw [HCF.out, HDR.out, Wp.costF, if_pos (.inr (.inl hj2))]; rfl)
     have hd2 : decide (l.length ≤ jn) = true := decide_eq_true (by omega)
     go_wp2_with fail
     have hq := HCC.out
     rw [HST.out] at hq
     exact ret_two rfl rfl rfl rfl ⟨cost_ret hq.1 hq.2, (HX1.out.trans HX.out)⟩
    ·have hd2 : decide (l.length ≤ jn) = false := decide_eq_false (by omega)
     have hjl : jn < l.length := by omega
     have hij : i ≤ jn := by omega
     go_wp2_with fail
     refine (HLS.out i (by omega) V (HX1.out.trans HX.out)).mono ?_
     rintro e V ⟨rfl, rfl⟩
     obtain ⟨q, hq⟩ : ∃ q, Wp.lst l i = q := ⟨_, rfl⟩
     rw [hq]
     have HQ := Lib.hid hq
     clear hq
     by_cases hj3 : ((q : Nat) : Int) < (jn : Nat)
     ·have HST := Lib.hid (show Wp.costF ⟨W, F, R⟩ l 0 es = none by rw [HCF.out, HDR.out, Wp.costF, if_pos (.inr (.inr (.inl (by rw [HQ.out]; exact hj3))))]; rfl)
      have hd3 : decide (q < jn) = true := decide_eq_true (by omega)
      go_wp2_with fail
      have hq := HCC.out
      rw [HST.out] at hq
      exact ret_two rfl rfl rfl rfl ⟨cost_ret hq.1 hq.2, (HX1.out.trans HX.out)⟩
     ·have hd3 : decide (q < jn) = false := decide_eq_false (by omega)
      go_wp2_with fail
      refine (HFT.out i jn hij hjl V (HX1.out.trans HX.out)).mono ?_
      rintro e V2 ⟨rfl, hx2⟩
      have HX2 := Lib.hid (HX.out.trans hx2)
      have HSP := Lib.hid (show Wp.costF ⟨W, F, R⟩ l i (((jn : Nat) : Int) :: es.drop (k + 1)) = if Wp.fit ⟨W, F, R⟩ l i jn = false then none else (Wp.costF ⟨W, F, R⟩ l (jn + 1) (es.drop (k + 1))).map fun c => Wp.cost ⟨W, F, R⟩ l i jn + c by
       rw [Wp.costF, Int.toNat_natCast]
       by_cases hf : Wp.fit ⟨W, F, R⟩ l i jn = false
       ·rw [if_pos (.inr (.inr (.inr hf))), if_pos hf]
       ·rw [if_neg (by rintro (q1 | q1 | q1 | q1); exact absurd q1 (by omega); exact absurd q1 (by omega); exact absurd q1 (by rw [HQ.out]; omega); exact hf q1), if_neg hf])
      generalize Wp.fit ⟨W, F, R⟩ l i jn = ft at HSP ⊢
      have m0 := hx2.cell m0
      have m1 := hx2.cell m1
      have m2 := hx2.cell m2
      have m3 := hx2.cell m3
      clear hx2
      cases ft
      ·have HST := Lib.hid (show Wp.costF ⟨W, F, R⟩ l 0 es = none by rw [HCF.out, HDR.out, HSP.out, if_pos rfl]; rfl)
       go_wp2_with fail
       have hq := HCC.out
       rw [HST.out] at hq
       exact ret_two rfl rfl rfl rfl ⟨cost_ret hq.1 hq.2, (HX1.out.trans HX2.out)⟩
      ·go_wp2_with fail
       refine (HCO.out i jn hij hjl V2 (HX1.out.trans HX2.out)).mono ?_
       rintro e V3 ⟨rfl, hx3⟩
       have HX3 := Lib.hid (HX2.out.trans hx3)
       have hbd := HBD.out i jn hjl
       have HCF2 := Lib.hid (show Wp.costF ⟨W, F, R⟩ l 0 es = ((Wp.costF ⟨W, F, R⟩ l (jn + 1) (es.drop (k + 1))).map fun c => Wp.cost ⟨W, F, R⟩ l i jn + c).map (S + ·) by rw [HCF.out, HDR.out, HSP.out, if_neg (by simp)])
       generalize Wp.cost ⟨W, F, R⟩ l i jn = cv at hbd HCF2 ⊢
       clear hx3 m0 m1 m2 m3
       have hjI : ((jn : Nat) : Int) < 64 := by omega
       have HWS := Lib.hid (show wrap64 (S + cv) = S + cv from IntWalk.wrap64_in _ (by omega))
       go_wp2_with fail
       refine ⟨⟨k + 1, jn + 1, S + cv, rfl, by simp, by simp, by omega, by omega, by omega, by omega, Lib.hid ?_, HX3⟩, by simp only [intOf]; omega⟩
       rw [HCF2.out, Option.map_map]
       congr 1
       funext c
       exact (Int.add_assoc S cv c).symm
  ·have hI : ¬ ((k : Nat) : Int) < (es.length : Nat) := by omega
   have hd : decide (k < es.length) = false := decide_eq_false hkl
   have HD0 := Lib.hid (show es.drop k = [] from List.drop_of_length_le (by omega))
   by_cases he : i = l.length
   ·have HST := Lib.hid (show Wp.costF ⟨W, F, R⟩ l 0 es = some (S + 0) by rw [HCF.out, HD0.out, Wp.costF, if_pos he]; rfl)
    have hb : (((i : Nat) : Int) != (l.length : Nat)) = false := by simp; omega
    go_wp2_with fail
    have hq := HCC.out
    rw [HST.out] at hq
    exact ret_two rfl rfl rfl rfl ⟨cost_ret ((Int.add_zero S).symm.trans hq.1) hq.2, HX1.out.trans HX.out⟩
   ·have HST := Lib.hid (show Wp.costF ⟨W, F, R⟩ l 0 es = none by rw [HCF.out, HD0.out, Wp.costF, if_neg he]; rfl)
    have hb : (((i : Nat) : Int) != (l.length : Nat)) = true := by simp; omega
    go_wp2_with fail
    have hq := HCC.out
    rw [HST.out] at hq
    exact ret_two rfl rfl rfl rfl ⟨cost_ret hq.1 hq.2, (HX1.out.trans HX.out)⟩
end Go.Proofs.YtlmkbldiicbejaaGreatDoor
end

section
namespace Go.Proofs.YtlmkbldiicbejaaGreatDoor
open Go.RowKit Go.Rp Go.Maps Go.Cl Go.Shelf Go.Gr Go.Ln

theorem NRowP.eon {w w' : World} {p : Option Addr} {n cap : Nat} {l : List Wp.Bx} (h : NRowP w p n cap l) (hx : EOn (fun _ => True) w w') : NRowP w' p n cap l := by
 obtain ⟨h1, p, c, e, hc, h2⟩ := h
 refine ⟨h1, p, c, e, hc, fun hne => ?_⟩
 obtain ⟨g', o', e2, hg, h3⟩ := h2 hne
 exact ⟨g', o', e2, Nat.lt_of_lt_of_le hg hx.sz, fun i hi => ⟨hx.cell trivial (h3 i hi).1, hx.cell trivial (h3 i hi).2.1, hx.cell trivial (h3 i hi).2.2.1, hx.cell trivial (h3 i hi).2.2.2⟩⟩
theorem set_other {W : World} {b b' i : Nat} {v : Value} {o : Obj} (hne : b' ≠ b) (h : W.heap[b']? = some o) : (W.setCell ⟨b, i, none⟩ v).heap[b']? = some o :=
 ((grown_cell W b i v).block b' (blk_lt h) (fun e => hne (Option.some.inj e))).trans h
theorem cell_of_same {A B : World} {b : Nat} {o : Obj} (h : A.heap[b]? = some o) (h' : B.heap[b]? = some o) (i : Nat) : A.cell? ⟨b, i, none⟩ = B.cell? ⟨b, i, none⟩ :=
 World.cell?_of_block (h.trans h'.symm)
theorem set3 {W0 W : World} {b : Nat} {x y z : Value} {T : TypeId} (c k e : Value) (h : W.heap[b]? = some (.cells #[x, y, z] T (0, 0))) (hx : Ext W0 W) (hb : W0.heap.size ≤ b) :
  (((W.setCell ⟨b, 0, none⟩ c).setCell ⟨b, 1, none⟩ k).setCell ⟨b, 2, none⟩ e).heap[b]? = some (.cells #[c, k, e] T (0, 0)) ∧ Ext W0 (((W.setCell ⟨b, 0, none⟩ c).setCell ⟨b, 1, none⟩ k).setCell ⟨b, 2, none⟩ e) ∧ ∀ b' o, b' ≠ b → W.heap[b']? = some o → (((W.setCell ⟨b, 0, none⟩ c).setCell ⟨b, 1, none⟩ k).setCell ⟨b, 2, none⟩ e).heap[b']? = some o := by
 refine ⟨?_, ((hx.setCell hb _).setCell hb _).setCell hb _, fun b' o hne h' => set_other hne (set_other hne (set_other hne h'))⟩
 have h1 := set_blk (set_blk (set_blk h 0 c) 1 k) 2 e
 exact h1
theorem setB {W0 W : World} {gb i : Nat} {ws : List Wp.Way} (x : Wp.Way) (h : BsIs W gb ws) (hi : i < ws.length) (hx : Ext W0 W) (hb : W0.heap.size ≤ gb) :
  BsIs (((W.setCell ⟨gb, i * 3, none⟩ (.int .i64 x.c)).setCell ⟨gb, i * 3 + 1, none⟩ (.int .i64 (x.k : Nat))).setCell ⟨gb, i * 3 + 2, none⟩ (.int .i64 (x.e : Nat))) gb (ws.set i x) ∧ Ext W0 (((W.setCell ⟨gb, i * 3, none⟩ (.int .i64 x.c)).setCell ⟨gb, i * 3 + 1, none⟩ (.int .i64 (x.k : Nat))).setCell ⟨gb, i * 3 + 2, none⟩ (.int .i64 (x.e : Nat))) ∧ ∀ b' o, b' ≠ gb → W.heap[b']? = some o → (((W.setCell ⟨gb, i * 3, none⟩ (.int .i64 x.c)).setCell ⟨gb, i * 3 + 1, none⟩ (.int .i64 (x.k : Nat))).setCell ⟨gb, i * 3 + 2, none⟩ (.int .i64 (x.e : Nat))).heap[b']? = some o := by
 refine ⟨?_, ((hx.setCell hb _).setCell hb _).setCell hb _, fun b' o hne h' => set_other hne (set_other hne (set_other hne h'))⟩
 have h1 := set_blk (set_blk (set_blk h (i * 3) (.int .i64 x.c)) (i * 3 + 1) (.int .i64 (x.k : Nat))) (i * 3 + 2) (.int .i64 (x.e : Nat))
 unfold BsIs
 rw [h1, List.setIfInBounds_toArray, List.setIfInBounds_toArray, List.setIfInBounds_toArray, wyW_set ws i x hi]
set_option maxRecDepth 100000 in
set_option maxHeartbeats 4000000 in
theorem c_reven (p : Option Addr) (n cap : Nat) (l : List Wp.Bx) (W F R H : Int) (w : World) (h : NRowP w p n cap l) (hsm : SmB l) (hn : l.length ≤ 64) (hW : InK W) (hF : InK F) (hR : InK R) :
  Calls Tryz.prog 30 #[.slice p n cap, .agg #[.int .i64 W, .int .i64 F, .int .i64 R, .int .i64 H]] w fun e w' => ∃ v, e = .returned v ∧ w'.ownsRow w.heap.size 3 1 v (Wp.even ⟨W, F, R⟩ l l.length 0).length (nW (Wp.even ⟨W, F, R⟩ l l.length 0)) ∧ Ext w w' := by
 have HLS := Lib.hid (fun i (hi : i < l.length) W' (hx : Ext w W') => c_rlastP p n cap l i W' (h.ext hx) hsm.1 hi)
 have HFT := Lib.hid (fun i j (hij : i ≤ j) (hj : j < l.length) W' (hx : Ext w W') => c_rfitsP p n cap l W F R H i j W' (h.ext hx) hsm hij hj hW hF hR)
 have HCO := Lib.hid (fun i j (hij : i ≤ j) (hj : j < l.length) W1 (hx : Ext w W1) W' (hy : EOn (fun _ => True) W1 W') => c_rcostP p n cap l W F R H i j W' ((h.ext hx).eon hy) hsm hij hj hW hF hR)
 have HBD := Lib.hid (fun i j (hj : j < l.length) => And.intro (Wp.cost_nn ⟨W, F, R⟩ l i j) (cost_bdA hsm hn ⟨W, F, R⟩ hW hF hR i hj))
 have HBB := Lib.hid (fun i (hi : i ≤ l.length) => bestW_bdA hsm hn ⟨W, F, R⟩ hW hF hR l.length i (by omega) hi)
 obtain ⟨rfl, _⟩ := h
 obtain ⟨GL, hGL⟩ : ∃ GL, Wp.even ⟨W, F, R⟩ l l.length 0 = GL := ⟨_, rfl⟩
 rw [hGL]
 have HGL := Lib.hid hGL
 have hnI : ((l.length : Nat) : Int) ≤ 64 := by omega
 clear hGL hsm hW hF hR
 have hmk := fun w => run_mkB l.length w (by omega)
 go_enter Tryz.func30, Tryz.ntmps30
 go_wp2_with fail
 clear hmk
 have hx1 := (Ext.refl w).alloc (.cells #[.int .i64 W, .int .i64 F, .int .i64 R, .int .i64 H] 24)
 have hbo := World.alloc_heap_new w (.cells #[.int .i64 W, .int .i64 F, .int .i64 R, .int .i64 H] 24)
 have hs1 := World.size_alloc w (.cells #[.int .i64 W, .int .i64 F, .int .i64 R, .int .i64 H] 24)
 generalize w.alloc (.cells #[.int .i64 W, .int .i64 F, .int .i64 R, .int .i64 H] 24) = w1 at hx1 hbo hs1 ⊢
 have hgb := World.alloc_heap_new w1 (.cells (wyW (List.replicate (l.length + 1) ⟨0, 0, 0⟩)).toArray 83)
 have hx2 := (Ext.refl w1).alloc (.cells (wyW (List.replicate (l.length + 1) ⟨0, 0, 0⟩)).toArray 83)
 generalize w1.alloc (.cells (wyW (List.replicate (l.length + 1) ⟨0, 0, 0⟩)).toArray 83) = w2 at hgb hx2 ⊢
 obtain ⟨tb, htb⟩ : ∃ tb, w.heap.size = tb := ⟨_, rfl⟩
 rw [htb] at hbo hs1 ⊢
 rw [hs1] at hgb
 have HTB := Lib.hid htb
 have HX0 := Lib.hid (hx1.trans hx2)
 have HBO := Lib.hid (hx2.blk hbo)
 have HG0 := Lib.hid (show BsIs w2 (tb + 1) (allT ⟨W, F, R⟩ l l.length) by rw [allT_zero]; exact hgb)
 clear hx1 hbo hs1 hgb hx2 htb
 go_loopw [6, 7, 8, 9, 10] (fun iv _ _ _ _ V => ∃ k : Nat, iv = .int .i64 ((k : Nat) - 1) ∧ k ≤ l.length ∧ Hid (V.heap[tb]? = some (.cells #[.int .i64 W, .int .i64 F, .int .i64 R, .int .i64 H] 24 (0, 0))) ∧ Hid (BsIs V (tb + 1) (allT ⟨W, F, R⟩ l k)) ∧ Hid (Ext w V)) (fun iv _ _ _ _ _ => (intOf iv + 1).toNat)
 case atStart => exact ⟨l.length, rfl, Nat.le_refl _, HBO, HG0, HX0⟩
 case round =>
  obtain ⟨k, rfl, hk, HB, HG, HX⟩ := hrel
  obtain ⟨V, rfl⟩ : ∃ V, V = wr := ⟨_, rfl⟩
  by_cases hk0 : k = 0
  ·subst hk0
   rw [show (((0 : Nat) : Int) - 1) = -1 from rfl]
   go_wp2_with fail
   obtain ⟨Y, hY⟩ : ∃ Y, V.heap.size = Y := ⟨_, rfl⟩
   have HY := Lib.hid hY
   have HYB := Lib.hid (show tb + 1 < Y by rw [← hY]; exact blk_lt HG.out)
   clear hY
   go_loopw [11, 12] (fun ov iv V2 => ∃ (i : Nat) (O : List Nat), iv = .int .i64 (i : Nat) ∧ i ≤ l.length ∧ O.length ≤ i ∧ Hid (V2.ownsRow Y 3 1 ov O.length (nW O)) ∧ Hid (O ++ Wp.even ⟨W, F, R⟩ l l.length i = GL) ∧ Hid (Ext V V2)) (fun _ iv _ => l.length + 1 - (intOf iv).toNat)
   case atStart => exact ⟨0, [], rfl, Nat.zero_le _, Nat.zero_le _, Lib.hid (World.ownsRow_nil _ _ _ _), HGL, Lib.hid (Ext.refl _)⟩
   case round =>
    obtain ⟨i, O, rfl, hi, hO, HOW, HGO, HXV⟩ := hrel
    obtain ⟨V2, rfl⟩ : ∃ V2, V2 = wr := ⟨_, rfl⟩
    obtain ⟨po, co, rfl⟩ := own_slice HOW.out
    by_cases hil : i < l.length
    ·have hI : ((i : Nat) : Int) < (l.length : Nat) := by omega
     have hd : decide (i < l.length) = true := decide_eq_true hil
     obtain ⟨d0, d1, d2⟩ := HG.out.at (i := i) (by rw [allT_len]; omega)
     have hgt := allT_get ⟨W, F, R⟩ l 0 i hi
     rw [if_neg (Nat.not_lt_zero _), List.getElem?_eq_getElem (by rw [allT_len]; omega)] at hgt
     rw [Option.some.inj hgt] at d2
     obtain ⟨n, hn2⟩ : ∃ n, l.length = n + 1 := ⟨l.length - 1, by omega⟩
     have hsp := Wp.bestW_spec ⟨W, F, R⟩ l n i (by omega) hil
     rw [← hn2] at hsp
     have hlst := Wp.lst_lt l hil
     have HEV := Lib.hid (show Wp.even ⟨W, F, R⟩ l l.length i = (Wp.bestW ⟨W, F, R⟩ l l.length i).e :: Wp.even ⟨W, F, R⟩ l l.length ((Wp.bestW ⟨W, F, R⟩ l l.length i).e + 1) by
      have := hsp.1
      rw [Wp.even_fuel ⟨W, F, R⟩ l l.length (l.length + 1) i (by omega) (by omega), Wp.even, if_pos hil])
     have hbe : i ≤ (Wp.bestW ⟨W, F, R⟩ l l.length i).e ∧ (Wp.bestW ⟨W, F, R⟩ l l.length i).e < l.length := by have h1 := hsp.1; have h2 := hsp.2.1; omega
     clear hsp hn2 hlst hgt d0 d1
     generalize Wp.bestW ⟨W, F, R⟩ l l.length i = bw at d2 HEV hbe
     obtain ⟨bc, bk, be⟩ := bw
     simp only at d2 HEV hbe
     have hbeI : ((be : Nat) : Int) ≤ 64 := by omega
     have hi2 : ((i : Nat) : Int) < (l.length : Nat) + 1 := by omega
     have d3 := HXV.out.cell d2
     go_wp2_with (at_builtin; refine Hid.out ?_)
     refine wpList_appI (B := Y) (n := O.length) rfl (.tmp 105) (.tmp 111) rfl rfl HOW.out (by rw [← HY.out]; exact HXV.out.sz) (be : Nat) V2.heap.size rfl rfl (by omega) ?_
     intro v' w9 g1 g2
     have HFW := Lib.hid (And.intro g1 (show Ext V w9 from Below.grown HXV.out g2 HXV.out.sz (fun k e => by rw [HY.out]; exact (HOW.out.lt k e).1)))
     have d4 := HFW.out.2.cell d2
     clear g1 g2 d2 d3
     go_wp2_with fail
     refine ⟨⟨be + 1, O ++ [be], by simp, by omega, by rw [List.length_append]; simp; omega, Lib.hid ?_, Lib.hid ?_, Lib.hid HFW.out.2⟩, by simp only [intOf]; omega⟩
     ·rw [nW_app, List.length_append]
      exact HFW.out.1
     ·rw [List.append_assoc, ← HGO.out, HEV.out]
      rfl
    ·have hI : ¬ ((i : Nat) : Int) < (l.length : Nat) := by omega
     have hd : decide (i < l.length) = false := decide_eq_false hil
     have HGE := Lib.hid (show O = GL by
      rw [← HGO.out, Wp.even_fuel ⟨W, F, R⟩ l l.length 0 i (by omega) (by omega)]
      exact (List.append_nil O).symm)
     go_wp2_with fail
     refine ret_one rfl rfl rfl ⟨_, rfl, ?_, HX.out.trans HXV.out⟩
     rw [← HGE.out]
     exact own_lower HOW.out (by have := HYB.out; have := HTB.out; omega)
  ·obtain ⟨i, rfl⟩ : ∃ i, k = i + 1 := ⟨k - 1, by omega⟩
   have hie : (((i + 1 : Nat) : Int) - 1) = ((i : Nat) : Int) := by omega
   rw [hie]
   have hil : i < l.length := by omega
   have hge := Wp.lst_ge l i
   have hlt := Wp.lst_lt l hil
   have hI0 : (0 : Int) ≤ (i : Nat) := by omega
   go_wp2_with fail
   refine (HLS.out i hil V HX.out).mono ?_
   rintro e V ⟨rfl, rfl⟩
   obtain ⟨q, hq⟩ : ∃ q, Wp.lst l i = q := ⟨_, rfl⟩
   rw [hq] at hge hlt ⊢
   have HQ := Lib.hid hq
   clear hq
   go_wp2_with fail
   go_loopw [8, 9, 10] (fun fv jv _ U => ∃ j : Nat, fv = .bool (accW ⟨W, F, R⟩ l i j).isNone ∧ jv = .int .i64 (j : Nat) ∧ i ≤ j ∧ j ≤ q + 1 ∧ Hid (U.heap[tb]? = some (.cells #[.int .i64 W, .int .i64 F, .int .i64 R, .int .i64 H] 24 (0, 0))) ∧ Hid (BsIs U (tb + 1) (wayT ⟨W, F, R⟩ l i j)) ∧ Hid (Ext w U)) (fun _ jv _ _ => l.length + 1 - (intOf jv).toNat)
   case atStart => exact ⟨i, by rw [accW_self]; rfl, rfl, Nat.le_refl _, by omega, HB, Lib.hid (by rw [wayT_start]; exact HG.out), HX⟩
   case round =>
    obtain ⟨j, rfl, rfl, hij, hjq, HB2, HG2, HX2⟩ := hrel
    obtain ⟨U, rfl⟩ : ∃ U, U = wr := ⟨_, rfl⟩
    obtain ⟨ac, hac⟩ : ∃ ac, accW ⟨W, F, R⟩ l i j = ac := ⟨_, rfl⟩
    rw [hac]
    have HAC := Lib.hid hac
    clear hac
    by_cases hjl : j ≤ q
    ·have hJ : ((j : Nat) : Int) ≤ (q : Nat) := by omega
     have hdj : decide (j ≤ q) = true := decide_eq_true hjl
     have m0 := (cell_blk HB2.out 0).trans rfl
     have m1 := (cell_blk HB2.out 1).trans rfl
     have m2 := (cell_blk HB2.out 2).trans rfl
     have m3 := (cell_blk HB2.out 3).trans rfl
     have HAS := Lib.hid (accW_succ ⟨W, F, R⟩ l hij)
     go_wp2_with fail
     refine (HFT.out i j hij (by omega) U HX2.out).mono ?_
     rintro e U1 ⟨rfl, hx1⟩
     have HU1 := Lib.hid (HX2.out.trans hx1)
     have HB3 := Lib.hid (hx1.blk HB2.out)
     have HG3 := Lib.hid (HG2.out.ext hx1)
     clear hx1 m0 m1 m2 m3
     generalize Wp.fit ⟨W, F, R⟩ l i j = ft at HAS ⊢
     cases ft
     ·have HSM := Lib.hid (show accW ⟨W, F, R⟩ l i (j + 1) = accW ⟨W, F, R⟩ l i j by rw [HAS.out]; rfl)
      go_wp2_with fail
      exact ⟨⟨j + 1, by rw [HSM.out, HAC.out], by simp, by omega, by omega, HB3, Lib.hid (by have := HG3.out; unfold wayT at this ⊢; rw [HSM.out]; exact this), HU1⟩, by simp only [intOf]; omega⟩
     ·have hbw := HBB.out (j + 1) (by omega)
      have hcb := HBD.out i j (by omega)
      have hbt := wayT_rest ⟨W, F, R⟩ l i j j (by omega) hij
      have hlen := wayT_len ⟨W, F, R⟩ l i j
      obtain ⟨e0, e1, _⟩ := HG3.out.at (i := j + 1) (by omega)
      rw [List.getElem?_eq_getElem (by omega)] at hbt
      rw [Option.some.inj hbt] at e0 e1
      have hai := wayT_at ⟨W, F, R⟩ l i j (by omega)
      obtain ⟨f0, f1, f2⟩ := HG3.out.at (i := i) (by omega)
      rw [List.getElem?_eq_getElem (by omega)] at hai
      rw [Option.some.inj hai, HAC.out] at f0 f1 f2
      rw [if_pos rfl] at HAS
      have HCO1 := Lib.hid (fun W' (hx : EOn (fun _ => True) U1 W') => HCO.out i j hij (by omega) U1 HU1.out W' hx)
      have s0 : ∀ w', EOn (fun _ => True) U1 w' → w'.cell? ⟨tb, 0, none⟩ = some (.int .i64 W) := fun w' h => h.cell trivial ((cell_blk HB3.out 0).trans rfl)
      have s1 : ∀ w', EOn (fun _ => True) U1 w' → w'.cell? ⟨tb, 1, none⟩ = some (.int .i64 F) := fun w' h => h.cell trivial ((cell_blk HB3.out 1).trans rfl)
      have s2 : ∀ w', EOn (fun _ => True) U1 w' → w'.cell? ⟨tb, 2, none⟩ = some (.int .i64 R) := fun w' h => h.cell trivial ((cell_blk HB3.out 2).trans rfl)
      have s3 : ∀ w', EOn (fun _ => True) U1 w' → w'.cell? ⟨tb, 3, none⟩ = some (.int .i64 H) := fun w' h => h.cell trivial ((cell_blk HB3.out 3).trans rfl)
      have s4 : ∀ w', EOn (fun _ => True) U1 w' → w'.cell? ⟨tb + 1, (j + 1) * 3, none⟩ = _ := fun w' h => h.cell trivial e0
      have s5 : ∀ w', EOn (fun _ => True) U1 w' → w'.cell? ⟨tb + 1, (j + 1) * 3 + 1, none⟩ = _ := fun w' h => h.cell trivial e1
      have HXW := Lib.hid (show Wp.wayX ⟨W, F, R⟩ l i (Wp.bestW ⟨W, F, R⟩ l l.length) j = ⟨Wp.cost ⟨W, F, R⟩ l i j + (Wp.bestW ⟨W, F, R⟩ l l.length (j + 1)).c, (Wp.bestW ⟨W, F, R⟩ l l.length (j + 1)).k + 1, j⟩ from rfl)
      rw [HXW.out] at HAS
      generalize Wp.bestW ⟨W, F, R⟩ l l.length (j + 1) = bw at s4 s5 hbw HAS
      generalize Wp.cost ⟨W, F, R⟩ l i j = cv at hcb HAS HCO1
      have HF := Lib.hid (And.intro f0 (And.intro f1 f2))
      have hwc : wrap64 (cv + bw.c) = cv + bw.c := IntWalk.wrap64_in _ (by omega)
      have hjI : ((j : Nat) : Int) ≤ 64 := by omega
      have hjn : ((j : Nat) : Int) + 1 < (l.length : Nat) + 1 := by omega
      have hbk : ((bw.k : Nat) : Int) ≤ 64 := by omega
      clear e0 e1 f0 f1 f2 hbt hai HXW
      go_wp2_with fail
      refine wp_lex (fun _ => True) [true, true, true, true, true, true, true, true, true, true, true, true, true, true, true, true, true, true, true, true, true, false] (by kernel_rfl) (by kernel_rfl) ?_
      repeat first
       | refine wpG_move' ?_
       | refine wpG_assign' ?_
       | refine wpG_val' ?_
       | refine wpG_no' ?_
      refine wpG_call (by rfl) (fun w' hx => (by go_simp; first | exact rfl | exact ⟨rfl, rfl⟩)) (fun w' hx => (by exact HCO1.out w' hx)) (by simp only [Act.put, List.setIfInBounds_toArray, List.set_cons_succ, List.set_cons_zero]; rfl) ?_
      repeat first
       | refine wpG_move' ?_
       | refine wpG_assign' ?_
       | refine wpG_val' ?_
       | refine wpG_no' ?_
      refine wpG_do (by rfl) (fun w7 hx7 K hK => ?_)
      go_wp2_with fail
      have hnb := World.alloc_heap_new w7 (.cells #[.int .i64 0, .int .i64 0, .int .i64 0] 83)
      have hxa := (Ext.refl w7).alloc (.cells #[.int .i64 0, .int .i64 0, .int .i64 0] 83)
      refine ⟨EOn.of_ext hxa, ?_⟩
      generalize w7.alloc (.cells #[.int .i64 0, .int .i64 0, .int .i64 0] 83) = w8 at hnb hxa ⊢
      obtain ⟨nb, hnn⟩ : ∃ nb, w7.heap.size = nb := ⟨_, rfl⟩
      rw [hnn] at hnb ⊢
      refine wpG_end (fun w9 hx9 => ?_)
      rw [show (1 : Int) + ((bw.k : Nat) : Int) = ((bw.k : Nat) : Int) + 1 from Int.add_comm _ _]
      have hx19 : Ext U1 w9 := hx7.trans (hxa.trans hx9)
      have hbk := hx9.blk hnb
      have htn : tb + 1 < nb := by rw [← hnn]; exact Nat.lt_of_lt_of_le (blk_lt HG3.out) hx7.sz
      have q0 := (cell_blk hbk 0).trans rfl
      have q1 := (cell_blk hbk 1).trans rfl
      have q2 := (cell_blk hbk 2).trans rfl
      have z0 := frz_blk hbk 0
      have z1 := frz_blk hbk 1
      have z2 := frz_blk hbk 2
      have h3 := set3 (W0 := w) (.int .i64 (cv + bw.c)) (.int .i64 ((bw.k : Nat) + 1)) (.int .i64 (j : Nat)) hbk (HU1.out.trans hx19) (by rw [HTB.out]; omega)
      have HB4 := Lib.hid (h3.2.2 tb _ (by omega) (hx19.blk HB3.out))
      have HG4 := Lib.hid (show BsIs _ (tb + 1) (wayT ⟨W, F, R⟩ l i j) from h3.2.2 (tb + 1) _ (by omega) (hx19.blk HG3.out))
      have HN4 := Lib.hid h3.1
      have HX4 := Lib.hid h3.2.1
      have hx1p : Ext U1 w9 := hx19
      have HF4 := Lib.hid (And.intro ((h3.2.2 (tb + 1) _ (by omega) (hx19.blk HG3.out)) |> fun h => (cell_of_same h (hx19.blk HG3.out) _).trans (hx19.cell HF.out.1)) (And.intro ((h3.2.2 (tb + 1) _ (by omega) (hx19.blk HG3.out)) |> fun h => (cell_of_same h (hx19.blk HG3.out) _).trans (hx19.cell HF.out.2.1)) ((h3.2.2 (tb + 1) _ (by omega) (hx19.blk HG3.out)) |> fun h => (cell_of_same h (hx19.blk HG3.out) _).trans (hx19.cell HF.out.2.2))))
      clear hx7 hxa hx9 hx19 hx1p hbk hnb hnn h3 s0 s1 s2 s3 s4 s5
      go_wp2_with fail
      refine gQ_normal ?_
      generalize ((w9.setCell ⟨nb, 0, none⟩ (.int .i64 (cv + bw.c))).setCell ⟨nb, 1, none⟩ (.int .i64 ((bw.k : Nat) + 1))).setCell ⟨nb, 2, none⟩ (.int .i64 (j : Nat)) = w10 at HB4 HG4 HN4 HX4 HF4 ⊢
      clear q0 q1 q2 z0 z1 z2
      cases ac with
      | none =>
       have HNX := Lib.hid (show accW ⟨W, F, R⟩ l i (j + 1) = some ⟨cv + bw.c, bw.k + 1, j⟩ by rw [HAS.out, HAC.out]; rfl)
       have s0 : ∀ w', EOn (fun _ => True) w10 w' → w'.cell? ⟨nb, 0, none⟩ = some (.int .i64 (cv + bw.c)) := fun w' h => h.cell trivial ((cell_blk HN4.out 0).trans rfl)
       have s1 : ∀ w', EOn (fun _ => True) w10 w' → w'.cell? ⟨nb, 1, none⟩ = some (.int .i64 ((bw.k : Nat) + 1)) := fun w' h => h.cell trivial ((cell_blk HN4.out 1).trans rfl)
       have s2 : ∀ w', EOn (fun _ => True) w10 w' → w'.cell? ⟨tb + 1, i * 3, none⟩ = some (.int .i64 0) := fun w' h => h.cell trivial HF4.out.1
       have s3 : ∀ w', EOn (fun _ => True) w10 w' → w'.cell? ⟨tb + 1, i * 3 + 1, none⟩ = some (.int .i64 (0 : Nat)) := fun w' h => h.cell trivial HF4.out.2.1
       have hin : ((i : Nat) : Int) < (l.length : Nat) + 1 := by omega
       have hiI : ((i : Nat) : Int) ≤ 64 := by omega
       go_wp2_with fail
       refine wp_lex (fun _ => True) [true, true, true, true, true, true, true, true, true, true, true, true, true, true, true, true, true, true, true, true, true, true, true, true, true, true, true, true, true, true, true] (by kernel_rfl) (by kernel_rfl) ?_
       repeat first
        | refine wpG_move' ?_
        | refine wpG_assign' ?_
        | refine wpG_val' ?_
        | refine wpG_no' ?_
       refine wpG_end (fun w11 hx11 => ?_)
       have HB5 := Lib.hid (hx11.blk HB4.out)
       have HG5 := Lib.hid (HG4.out.ext hx11)
       have HN5 := Lib.hid (hx11.blk HN4.out)
       have HX5 := Lib.hid (HX4.out.trans hx11)
       have HF5 := Lib.hid (And.intro (hx11.cell HF4.out.1) (And.intro (hx11.cell HF4.out.2.1) (hx11.cell HF4.out.2.2)))
       clear hx11 s0 s1 s2 s3
       go_wp2_with fail
       refine gQ_normal ?_
       have q0 := (cell_blk HN5.out 0).trans rfl
       have q1 := (cell_blk HN5.out 1).trans rfl
       have q2 := (cell_blk HN5.out 2).trans rfl
       have g0 := HF5.out.1
       have g1 := HF5.out.2.1
       have g2 := HF5.out.2.2
       have z0 := frz_blk HG5.out (i * 3)
       have z1 := frz_blk HG5.out (i * 3 + 1)
       have z2 := frz_blk HG5.out (i * 3 + 2)
       have h3 := setB (W0 := w) (i := i) ⟨cv + bw.c, bw.k + 1, j⟩ HG5.out (by rw [wayT_len]; omega) HX5.out (by rw [HTB.out]; omega)
       rw [wayT_set ⟨W, F, R⟩ l i j (j + 1) ⟨cv + bw.c, bw.k + 1, j⟩ (by rw [HNX.out]; rfl)] at h3
       have HG6 := Lib.hid h3.1
       have HX6 := Lib.hid h3.2.1
       have HB6 := Lib.hid (h3.2.2 tb _ (by omega) HB5.out)
       clear h3
       go_wp2_with fail
       exact ⟨⟨j + 1, by rw [HNX.out]; rfl, by simp, by omega, by omega, HB6, HG6, HX6⟩, by simp only [intOf]; omega⟩
      | some b =>
       obtain ⟨bc, bk, be⟩ := b
       by_cases c1 : cv + bw.c < bc
       ·have HNX := Lib.hid (show accW ⟨W, F, R⟩ l i (j + 1) = some ⟨cv + bw.c, bw.k + 1, j⟩ by rw [HAS.out, HAC.out, Wp.stepE]; exact if_pos (.inl c1))
        have d1 : decide (cv + bw.c < bc) = true := decide_eq_true c1
        have s0 : ∀ w', EOn (fun _ => True) w10 w' → w'.cell? ⟨nb, 0, none⟩ = some (.int .i64 (cv + bw.c)) := fun w' h => h.cell trivial ((cell_blk HN4.out 0).trans rfl)
        have s1 : ∀ w', EOn (fun _ => True) w10 w' → w'.cell? ⟨nb, 1, none⟩ = some (.int .i64 ((bw.k : Nat) + 1)) := fun w' h => h.cell trivial ((cell_blk HN4.out 1).trans rfl)
        have s2 : ∀ w', EOn (fun _ => True) w10 w' → w'.cell? ⟨tb + 1, i * 3, none⟩ = some (.int .i64 bc) := fun w' h => h.cell trivial HF4.out.1
        have s3 : ∀ w', EOn (fun _ => True) w10 w' → w'.cell? ⟨tb + 1, i * 3 + 1, none⟩ = some (.int .i64 (bk : Nat)) := fun w' h => h.cell trivial HF4.out.2.1
        have hin : ((i : Nat) : Int) < (l.length : Nat) + 1 := by omega
        have hiI : ((i : Nat) : Int) ≤ 64 := by omega
        go_wp2_with fail
        refine wp_lex (fun _ => True) [true, true, true, true, true, true, true, true, true, true, true, true, true, true, true, true, true, true, true, true, true, true, true, true, true, true, true, true, true, true, true] (by kernel_rfl) (by kernel_rfl) ?_
        repeat first
         | refine wpG_move' ?_
         | refine wpG_assign' ?_
         | refine wpG_val' ?_
         | refine wpG_no' ?_
        refine wpG_end (fun w11 hx11 => ?_)
        have HB5 := Lib.hid (hx11.blk HB4.out)
        have HG5 := Lib.hid (HG4.out.ext hx11)
        have HN5 := Lib.hid (hx11.blk HN4.out)
        have HX5 := Lib.hid (HX4.out.trans hx11)
        have HF5 := Lib.hid (And.intro (hx11.cell HF4.out.1) (And.intro (hx11.cell HF4.out.2.1) (hx11.cell HF4.out.2.2)))
        clear hx11 s0 s1 s2 s3
        go_wp2_with fail
        refine gQ_normal ?_
        have q0 := (cell_blk HN5.out 0).trans rfl
        have q1 := (cell_blk HN5.out 1).trans rfl
        have q2 := (cell_blk HN5.out 2).trans rfl
        have g0 := HF5.out.1
        have g1 := HF5.out.2.1
        have g2 := HF5.out.2.2
        have z0 := frz_blk HG5.out (i * 3)
        have z1 := frz_blk HG5.out (i * 3 + 1)
        have z2 := frz_blk HG5.out (i * 3 + 2)
        have h3 := setB (W0 := w) (i := i) ⟨cv + bw.c, bw.k + 1, j⟩ HG5.out (by rw [wayT_len]; omega) HX5.out (by rw [HTB.out]; omega)
        rw [wayT_set ⟨W, F, R⟩ l i j (j + 1) ⟨cv + bw.c, bw.k + 1, j⟩ (by rw [HNX.out]; rfl)] at h3
        have HG6 := Lib.hid h3.1
        have HX6 := Lib.hid h3.2.1
        have HB6 := Lib.hid (h3.2.2 tb _ (by omega) HB5.out)
        clear h3
        go_wp2_with fail
        exact ⟨⟨j + 1, by rw [HNX.out]; rfl, by simp, by omega, by omega, HB6, HG6, HX6⟩, by simp only [intOf]; omega⟩
       ·by_cases c2 : cv + bw.c = bc
        ·by_cases c3 : bw.k + 1 ≤ bk
         ·have HNX := Lib.hid (show accW ⟨W, F, R⟩ l i (j + 1) = some ⟨cv + bw.c, bw.k + 1, j⟩ by rw [HAS.out, HAC.out, Wp.stepE]; exact if_pos (.inr ⟨c2, c3⟩))
          have d1 : decide (cv + bw.c < bc) = false := decide_eq_false c1
          have d2 : (cv + bw.c == bc) = true := by simp [c2]
          have d3 : ((bw.k : Nat) : Int) + 1 ≤ (bk : Nat) := by omega
          clear c2
          have s0 : ∀ w', EOn (fun _ => True) w10 w' → w'.cell? ⟨nb, 0, none⟩ = some (.int .i64 (cv + bw.c)) := fun w' h => h.cell trivial ((cell_blk HN4.out 0).trans rfl)
          have s1 : ∀ w', EOn (fun _ => True) w10 w' → w'.cell? ⟨nb, 1, none⟩ = some (.int .i64 ((bw.k : Nat) + 1)) := fun w' h => h.cell trivial ((cell_blk HN4.out 1).trans rfl)
          have s2 : ∀ w', EOn (fun _ => True) w10 w' → w'.cell? ⟨tb + 1, i * 3, none⟩ = some (.int .i64 bc) := fun w' h => h.cell trivial HF4.out.1
          have s3 : ∀ w', EOn (fun _ => True) w10 w' → w'.cell? ⟨tb + 1, i * 3 + 1, none⟩ = some (.int .i64 (bk : Nat)) := fun w' h => h.cell trivial HF4.out.2.1
          have hin : ((i : Nat) : Int) < (l.length : Nat) + 1 := by omega
          have hiI : ((i : Nat) : Int) ≤ 64 := by omega
          go_wp2_with fail
          refine wp_lex (fun _ => True) [true, true, true, true, true, true, true, true, true, true, true, true, true, true, true, true, true, true, true, true, true, true, true, true, true, true, true, true, true, true, true] (by kernel_rfl) (by kernel_rfl) ?_
          repeat first
           | refine wpG_move' ?_
           | refine wpG_assign' ?_
           | refine wpG_val' ?_
           | refine wpG_no' ?_
          refine wpG_end (fun w11 hx11 => ?_)
          have HB5 := Lib.hid (hx11.blk HB4.out)
          have HG5 := Lib.hid (HG4.out.ext hx11)
          have HN5 := Lib.hid (hx11.blk HN4.out)
          have HX5 := Lib.hid (HX4.out.trans hx11)
          have HF5 := Lib.hid (And.intro (hx11.cell HF4.out.1) (And.intro (hx11.cell HF4.out.2.1) (hx11.cell HF4.out.2.2)))
          clear hx11 s0 s1 s2 s3
          go_wp2_with fail
          refine gQ_normal ?_
          have q0 := (cell_blk HN5.out 0).trans rfl
          have q1 := (cell_blk HN5.out 1).trans rfl
          have q2 := (cell_blk HN5.out 2).trans rfl
          have g0 := HF5.out.1
          have g1 := HF5.out.2.1
          have g2 := HF5.out.2.2
          have z0 := frz_blk HG5.out (i * 3)
          have z1 := frz_blk HG5.out (i * 3 + 1)
          have z2 := frz_blk HG5.out (i * 3 + 2)
          have h3 := setB (W0 := w) (i := i) ⟨cv + bw.c, bw.k + 1, j⟩ HG5.out (by rw [wayT_len]; omega) HX5.out (by rw [HTB.out]; omega)
          rw [wayT_set ⟨W, F, R⟩ l i j (j + 1) ⟨cv + bw.c, bw.k + 1, j⟩ (by rw [HNX.out]; rfl)] at h3
          have HG6 := Lib.hid h3.1
          have HX6 := Lib.hid h3.2.1
          have HB6 := Lib.hid (h3.2.2 tb _ (by omega) HB5.out)
          clear h3
          go_wp2_with fail
          exact ⟨⟨j + 1, by rw [HNX.out]; rfl, by simp, by omega, by omega, HB6, HG6, HX6⟩, by simp only [intOf]; omega⟩
         ·have HNX := Lib.hid (show accW ⟨W, F, R⟩ l i (j + 1) = some ⟨bc, bk, be⟩ by rw [HAS.out, HAC.out, Wp.stepE]; exact if_neg (by rintro (q | ⟨_, q⟩); exact c1 q; exact c3 q))
          have d1 : decide (cv + bw.c < bc) = false := decide_eq_false c1
          have d2 : (cv + bw.c == bc) = true := by simp [c2]
          have d3 : ¬ ((bw.k : Nat) : Int) + 1 ≤ (bk : Nat) := by omega
          clear c2
          have s0 : ∀ w', EOn (fun _ => True) w10 w' → w'.cell? ⟨nb, 0, none⟩ = some (.int .i64 (cv + bw.c)) := fun w' h => h.cell trivial ((cell_blk HN4.out 0).trans rfl)
          have s1 : ∀ w', EOn (fun _ => True) w10 w' → w'.cell? ⟨nb, 1, none⟩ = some (.int .i64 ((bw.k : Nat) + 1)) := fun w' h => h.cell trivial ((cell_blk HN4.out 1).trans rfl)
          have s2 : ∀ w', EOn (fun _ => True) w10 w' → w'.cell? ⟨tb + 1, i * 3, none⟩ = some (.int .i64 bc) := fun w' h => h.cell trivial HF4.out.1
          have s3 : ∀ w', EOn (fun _ => True) w10 w' → w'.cell? ⟨tb + 1, i * 3 + 1, none⟩ = some (.int .i64 (bk : Nat)) := fun w' h => h.cell trivial HF4.out.2.1
          have hin : ((i : Nat) : Int) < (l.length : Nat) + 1 := by omega
          have hiI : ((i : Nat) : Int) ≤ 64 := by omega
          go_wp2_with fail
          refine wp_lex (fun _ => True) [true, true, true, true, true, true, true, true, true, true, true, true, true, true, true, true, true, true, true, true, true, true, true, true, true, true, true, true, true, true, true] (by kernel_rfl) (by kernel_rfl) ?_
          repeat first
           | refine wpG_move' ?_
           | refine wpG_assign' ?_
           | refine wpG_val' ?_
           | refine wpG_no' ?_
          refine wpG_end (fun w11 hx11 => ?_)
          have HB5 := Lib.hid (hx11.blk HB4.out)
          have HG5 := Lib.hid (HG4.out.ext hx11)
          have HN5 := Lib.hid (hx11.blk HN4.out)
          have HX5 := Lib.hid (HX4.out.trans hx11)
          have HF5 := Lib.hid (And.intro (hx11.cell HF4.out.1) (And.intro (hx11.cell HF4.out.2.1) (hx11.cell HF4.out.2.2)))
          clear hx11 s0 s1 s2 s3
          go_wp2_with fail
          refine gQ_normal ?_
          go_wp2_with fail
          exact ⟨⟨j + 1, by rw [HNX.out]; rfl, by simp, by omega, by omega, HB5, Lib.hid (by have := HG5.out; unfold wayT at this ⊢; rw [HNX.out]; rw [HAC.out] at this; exact this), HX5⟩, by simp only [intOf]; omega⟩
        ·have HNX := Lib.hid (show accW ⟨W, F, R⟩ l i (j + 1) = some ⟨bc, bk, be⟩ by rw [HAS.out, HAC.out, Wp.stepE]; exact if_neg (by rintro (q | ⟨q, _⟩); exact c1 q; exact c2 q))
         have d1 : decide (cv + bw.c < bc) = false := decide_eq_false c1
         have d2 : (cv + bw.c == bc) = false := by simp [c2]
         clear c2
         have s0 : ∀ w', EOn (fun _ => True) w10 w' → w'.cell? ⟨nb, 0, none⟩ = some (.int .i64 (cv + bw.c)) := fun w' h => h.cell trivial ((cell_blk HN4.out 0).trans rfl)
         have s1 : ∀ w', EOn (fun _ => True) w10 w' → w'.cell? ⟨nb, 1, none⟩ = some (.int .i64 ((bw.k : Nat) + 1)) := fun w' h => h.cell trivial ((cell_blk HN4.out 1).trans rfl)
         have s2 : ∀ w', EOn (fun _ => True) w10 w' → w'.cell? ⟨tb + 1, i * 3, none⟩ = some (.int .i64 bc) := fun w' h => h.cell trivial HF4.out.1
         have s3 : ∀ w', EOn (fun _ => True) w10 w' → w'.cell? ⟨tb + 1, i * 3 + 1, none⟩ = some (.int .i64 (bk : Nat)) := fun w' h => h.cell trivial HF4.out.2.1
         have hin : ((i : Nat) : Int) < (l.length : Nat) + 1 := by omega
         have hiI : ((i : Nat) : Int) ≤ 64 := by omega
         go_wp2_with fail
         refine wp_lex (fun _ => True) [true, true, true, true, true, true, true, true, true, true, true, true, true, true, true, true, true, true, true, true, true, true, true, true, true, true, true, true, true, true, true] (by kernel_rfl) (by kernel_rfl) ?_
         repeat first
          | refine wpG_move' ?_
          | refine wpG_assign' ?_
          | refine wpG_val' ?_
          | refine wpG_no' ?_
         refine wpG_end (fun w11 hx11 => ?_)
         have HB5 := Lib.hid (hx11.blk HB4.out)
         have HG5 := Lib.hid (HG4.out.ext hx11)
         have HN5 := Lib.hid (hx11.blk HN4.out)
         have HX5 := Lib.hid (HX4.out.trans hx11)
         have HF5 := Lib.hid (And.intro (hx11.cell HF4.out.1) (And.intro (hx11.cell HF4.out.2.1) (hx11.cell HF4.out.2.2)))
         clear hx11 s0 s1 s2 s3
         go_wp2_with fail
         refine gQ_normal ?_
         go_wp2_with fail
         exact ⟨⟨j + 1, by rw [HNX.out]; rfl, by simp, by omega, by omega, HB5, Lib.hid (by have := HG5.out; unfold wayT at this ⊢; rw [HNX.out]; rw [HAC.out] at this; exact this), HX5⟩, by simp only [intOf]; omega⟩
    ·have hJ : ¬ ((j : Nat) : Int) ≤ (q : Nat) := by omega
     have hdj : decide (j ≤ q) = false := decide_eq_false hjl
     have HG9 := Lib.hid (show BsIs U (tb + 1) (allT ⟨W, F, R⟩ l i) by
      have h := HG2.out
      rw [show j = q + 1 by omega, ← HQ.out, wayT_endA _ _ hil] at h
      exact h)
     go_wp2_with fail
     exact ⟨⟨i, rfl, by omega, HB2, HG9, HX2⟩, by simp only [intOf]; omega⟩
end Go.Proofs.YtlmkbldiicbejaaGreatDoor
end
