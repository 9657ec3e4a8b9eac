/-
  Boxes: the check; rooms, last boxes, costs. The lines that begin with a box, by their last boxes.
-/
import Derived.Test.YtlmkbldiicbejaaGreatDoorBxM
section
namespace Go.Proofs.YtlmkbldiicbejaaGreatDoor
open Go.RowKit Go.Rp Go.Maps Go.Cl Go.Shelf Go.Gr

/-- May a number be one of cells? -/
def InK (n : Int) : Prop := 0 ≤ n ∧ n ≤ 100000
instance (n : Int) : Decidable (InK n) := by unfold InK; infer_instance
theorem c_within (n : Int) (w : World) : Calls Tryz.prog 24 #[.int .i64 n] w fun e w' => e = .returned (.bool (decide (InK n))) ∧ w' = w := by
  by_cases h : InK n
  · have h1 : 0 ≤ n := h.1
    have h2 : n ≤ 100000 := h.2
    rw [decide_eq_true h]
    clear h
    go_enter Tryz.func24, Tryz.ntmps24
    go_wp2_with fail
    exact ret_one rfl rfl rfl ⟨rfl, rfl⟩
  · rw [decide_eq_false h]
    by_cases h1 : 0 ≤ n
    · have h2 : ¬ n ≤ 100000 := fun h2 => h ⟨h1, h2⟩
      clear h
      go_enter Tryz.func24, Tryz.ntmps24
      go_wp2_with fail
      exact ret_one rfl rfl rfl ⟨rfl, rfl⟩
    · clear h
      go_enter Tryz.func24, Tryz.ntmps24
      go_wp2_with fail
      exact ret_one rfl rfl rfl ⟨rfl, rfl⟩
/-- May lines be made so? -/
def WrOk (W F R H : Int) : Prop := 1 ≤ W ∧ InK W ∧ InK F ∧ InK R ∧ (H = 0 ∨ H = 1)
instance (W F R H : Int) : Decidable (WrOk W F R H) := by unfold WrOk; infer_instance
def BxOk (x : BxI) : Prop := InK x.w ∧ InK x.b ∧ InK x.h
instance (x : BxI) : Decidable (BxOk x) := by unfold BxOk; infer_instance
/-- The first box that may not be so, from a number on. -/
def badK : List BxI → Nat → Int × Nat
  | [], _ => (0, 0)
  | x :: l, i => if BxOk x then badK l (i + 1) else (160, i)
/-- The error, and the box. -/
def chkK (l : List BxI) (W F R H : Int) : Int × Nat := if WrOk W F R H then if 4096 < l.length then (6, 0) else badK l 0 else (161, 0)
set_option maxRecDepth 100000 in
set_option maxHeartbeats 4000000 in
theorem c_wrCheck (v : Value) (l : List BxI) (W F R H : Int) (w : World) (h : BxRow w v l) :
    Calls Tryz.prog 11 #[v, .agg #[.int .i64 W, .int .i64 F, .int .i64 R, .int .i64 H]] w fun e w' => e = .returned (.tuple #[.int .i64 (chkK l W F R H).1, .int .i64 ((chkK l W F R H).2 : Nat)]) ∧ Ext w w' := by
  have HR := Lib.hid h
  obtain ⟨p, cap, rfl, hc, _⟩ := h
  obtain ⟨c, hck⟩ : ∃ c, chkK l W F R H = c := ⟨_, rfl⟩
  rw [hck]
  have HCK := Lib.hid hck
  clear hck
  have hbo := World.alloc_heap_new w (.cells #[.int .i64 W, .int .i64 F, .int .i64 R, .int .i64 H] 24)
  have hx := (Ext.refl w).alloc (.cells #[.int .i64 W, .int .i64 F, .int .i64 R, .int .i64 H] 24)
  have o0 : (w.alloc (.cells #[.int .i64 W, .int .i64 F, .int .i64 R, .int .i64 H] 24)).cell? ⟨w.heap.size, 0, none⟩ = some (.int .i64 W) := (cell_blk hbo 0).trans rfl
  have o1 : (w.alloc (.cells #[.int .i64 W, .int .i64 F, .int .i64 R, .int .i64 H] 24)).cell? ⟨w.heap.size, 1, none⟩ = some (.int .i64 F) := (cell_blk hbo 1).trans rfl
  have o2 : (w.alloc (.cells #[.int .i64 W, .int .i64 F, .int .i64 R, .int .i64 H] 24)).cell? ⟨w.heap.size, 2, none⟩ = some (.int .i64 R) := (cell_blk hbo 2).trans rfl
  have o3 : (w.alloc (.cells #[.int .i64 W, .int .i64 F, .int .i64 R, .int .i64 H] 24)).cell? ⟨w.heap.size, 3, none⟩ = some (.int .i64 H) := (cell_blk hbo 3).trans rfl
  have HX := Lib.hid hx
  clear hbo hx
  by_cases a1 : W < 1
  · go_enter Tryz.func11, Tryz.ntmps11
    have HV := Lib.hid (show c = (161, 0) by rw [← HCK.out]; unfold chkK; rw [if_neg (fun q => by unfold WrOk at q; exact absurd q (by omega))])
    go_wp2_with fail
    exact ret_two rfl rfl rfl rfl ⟨by rw [HV.out]; rfl, HX.out⟩
  · go_enter Tryz.func11, Tryz.ntmps11
    go_wp2_with fail
    generalize w.alloc (.cells #[.int .i64 W, .int .i64 F, .int .i64 R, .int .i64 H] 24) = w1 at o0 o1 o2 o3 HX ⊢
    generalize w.heap.size = ob at o0 o1 o2 o3 ⊢
    refine (c_within W w1).mono ?_
    rintro e w1 ⟨rfl, rfl⟩
    by_cases a2 : InK W
    · rw [decide_eq_true a2]
      have HA2 := Lib.hid a2
      clear a2
      go_wp2_with fail
      refine (c_within F w1).mono ?_
      rintro e w1 ⟨rfl, rfl⟩
      by_cases a3 : InK F
      · rw [decide_eq_true a3]
        have HA3 := Lib.hid a3
        clear a3
        go_wp2_with fail
        refine (c_within R w1).mono ?_
        rintro e w1 ⟨rfl, rfl⟩
        by_cases a4 : InK R
        · rw [decide_eq_true a4]
          have HA4 := Lib.hid a4
          clear a4
          by_cases a5 : H = 0 ∨ H = 1
          · have HV := Lib.hid (show c = if 4096 < l.length then (6, 0) else badK l 0 by
              rw [← HCK.out]
              unfold chkK
              rw [if_pos ⟨by omega, HA2.out, HA3.out, HA4.out, a5⟩])
            have a6 : (H == 0) = true ∨ ((H == 0) = false ∧ (H == 1) = true) := by
              rcases a5 with rfl | rfl
              · exact .inl rfl
              · exact .inr ⟨rfl, rfl⟩
            clear HCK
            rcases a5 with rfl | rfl
            all_goals
              clear a6
              by_cases b1 : (4096 : Int) < (l.length : Nat)
              · have b1n : 4096 < l.length := by omega
                have HV2 := Lib.hid (show c = (6, 0) by rw [HV.out, if_pos b1n])
                clear b1n
                go_wp2_with fail
                exact ret_two rfl rfl rfl rfl ⟨by rw [HV2.out]; rfl, HX.out⟩
              · have b1n : ¬ 4096 < l.length := by omega
                have HV2 := Lib.hid (show c = badK l 0 by rw [HV.out, if_neg b1n])
                clear HV
                go_wp2_with fail
                go_loopw [6, 7, 44] (fun _ _ iv W' => ∃ i : Nat, iv = .int .i64 (i : Nat) ∧ i ≤ l.length ∧ Hid (c = badK (l.drop i) i) ∧ Hid (Ext w1 W')) (fun _ _ iv _ => l.length + 1 - (intOf iv).toNat)
                case atStart => exact ⟨0, rfl, Nat.zero_le _, HV2, Lib.hid (Ext.refl _)⟩
                case round =>
                  obtain ⟨i, rfl, hi, HJ, HXW⟩ := hrel
                  obtain ⟨W', rfl⟩ : ∃ W', W' = wr := ⟨_, rfl⟩
                  by_cases hil : i < l.length
                  · have hI : ((i : Nat) : Int) < (l.length : Nat) := by omega
                    have hd : decide (i < l.length) = true := decide_eq_true hil
                    obtain ⟨p', cap', e', _, hcc⟩ := HR.out.ext (HX.out.trans HXW.out)
                    obtain ⟨rfl, -, rfl⟩ := Value.slice.inj e'
                    obtain ⟨g, o, rfl, _, h6⟩ := hcc (by intro e; subst e; simp at hil)
                    obtain ⟨d0, d1, d2, d3⟩ := h6 i hil
                    have HJ2 := Lib.hid (show c = badK (l[i] :: l.drop (i + 1)) i by rw [← List.drop_eq_getElem_cons hil]; exact HJ.out)
                    generalize l[i] = x at d0 d1 d2 d3 HJ2
                    obtain ⟨xw, xb, xh, xm⟩ := x
                    simp only at d0 d1 d2 d3
                    clear h6 hcc e' HJ
                    go_wp2_with fail
                    have hb := World.alloc_heap_new W' (.cells #[.int .i64 xw, .int .i64 xb, .int .i64 xh, .bool xm] 45)
                    have hx2 := HXW.out.alloc (.cells #[.int .i64 xw, .int .i64 xb, .int .i64 xh, .bool xm] 45)
                    generalize W'.alloc (.cells #[.int .i64 xw, .int .i64 xb, .int .i64 xh, .bool xm] 45) = W2 at hb hx2 ⊢
                    generalize W'.heap.size = bb at hb ⊢
                    have HXB := Lib.hid hx2
                    have k0 : W2.cell? ⟨bb, 0, none⟩ = some (.int .i64 xw) := (cell_blk hb 0).trans rfl
                    have k1 : W2.cell? ⟨bb, 1, none⟩ = some (.int .i64 xb) := (cell_blk hb 1).trans rfl
                    have k2 : W2.cell? ⟨bb, 2, none⟩ = some (.int .i64 xh) := (cell_blk hb 2).trans rfl
                    clear hb hx2 d0 d1 d2 d3
                    refine (c_within xw W2).mono ?_
                    rintro e W2 ⟨rfl, rfl⟩
                    by_cases c1 : InK xw
                    · rw [decide_eq_true c1]
                      have HC1 := Lib.hid c1
                      clear c1
                      go_wp2_with fail
                      refine (c_within xb W2).mono ?_
                      rintro e W2 ⟨rfl, rfl⟩
                      by_cases c2 : InK xb
                      · rw [decide_eq_true c2]
                        have HC2 := Lib.hid c2
                        clear c2
                        go_wp2_with fail
                        refine (c_within xh W2).mono ?_
                        rintro e W2 ⟨rfl, rfl⟩
                        by_cases c3 : InK xh
                        · rw [decide_eq_true c3]
                          have HJ3 := Lib.hid (show c = badK (l.drop (i + 1)) (i + 1) by rw [HJ2.out, badK, if_pos ⟨HC1.out, HC2.out, c3⟩])
                          clear c3
                          go_wp2_with fail
                          exact ⟨⟨i + 1, by simp, by omega, HJ3, HXB⟩, by simp only [intOf]; omega⟩
                        · rw [decide_eq_false c3]
                          have HC3 := Lib.hid c3
                          clear c3
                          have HV3 := Lib.hid (show c = (160, i) by rw [HJ2.out, badK, if_neg (fun q => by unfold BxOk at q; exact (fun q => HC3.out q.2.2) q)])
                          go_wp2_with fail
                          exact ret_two rfl rfl rfl rfl ⟨by rw [HV3.out]; rfl, HX.out.trans HXB.out⟩
                      · rw [decide_eq_false c2]
                        have HC2 := Lib.hid c2
                        clear c2
                        have HV3 := Lib.hid (show c = (160, i) by rw [HJ2.out, badK, if_neg (fun q => by unfold BxOk at q; exact (fun q => HC2.out q.2.1) q)])
                        go_wp2_with fail
                        exact ret_two rfl rfl rfl rfl ⟨by rw [HV3.out]; rfl, HX.out.trans HXB.out⟩
                    · rw [decide_eq_false c1]
                      have HC1 := Lib.hid c1
                      clear c1
                      have HV3 := Lib.hid (show c = (160, i) by rw [HJ2.out, badK, if_neg (fun q => by unfold BxOk at q; exact (fun q => HC1.out q.1) q)])
                      go_wp2_with fail
                      exact ret_two rfl rfl rfl rfl ⟨by rw [HV3.out]; rfl, HX.out.trans HXB.out⟩
                  · have hI : ¬ ((i : Nat) : Int) < (l.length : Nat) := by omega
                    have hd : decide (i < l.length) = false := decide_eq_false hil
                    have HV3 := Lib.hid (show c = (0, 0) by rw [HJ.out, List.drop_of_length_le (by omega)]; rfl)
                    go_wp2_with fail
                    exact ret_two rfl rfl rfl rfl ⟨by rw [HV3.out]; rfl, HX.out.trans HXW.out⟩
          · have a6 : ¬ H = 0 := fun e => a5 (.inl e)
            have a7 : ¬ H = 1 := fun e => a5 (.inr e)
            have a8 : (H == 0) = false := by simpa using a6
            have a9 : (H == 1) = false := by simpa using a7
            have a10 : (H != 0) = true := by simpa using a6
            have a11 : (H != 1) = true := by simpa using a7
            clear a5
            have HV := Lib.hid (show c = (161, 0) by rw [← HCK.out]; unfold chkK; rw [if_neg (fun q => by unfold WrOk at q; exact absurd q (by (have := HA4.out; omega)))])
            go_wp2_with fail
            exact ret_two rfl rfl rfl rfl ⟨by rw [HV.out]; rfl, HX.out⟩
        · rw [decide_eq_false a4]
          have HA4 := Lib.hid a4
          clear a4
          have HV := Lib.hid (show c = (161, 0) by rw [← HCK.out]; unfold chkK; rw [if_neg (fun q => by unfold WrOk at q; exact absurd q (by exact fun q => HA4.out q.2.2.2.1))])
          go_wp2_with fail
          exact ret_two rfl rfl rfl rfl ⟨by rw [HV.out]; rfl, HX.out⟩
      · rw [decide_eq_false a3]
        have HA3 := Lib.hid a3
        clear a3
        have HV := Lib.hid (show c = (161, 0) by rw [← HCK.out]; unfold chkK; rw [if_neg (fun q => by unfold WrOk at q; exact absurd q (by exact fun q => HA3.out q.2.2.1))])
        go_wp2_with fail
        exact ret_two rfl rfl rfl rfl ⟨by rw [HV.out]; rfl, HX.out⟩
    · rw [decide_eq_false a2]
      have HA2 := Lib.hid a2
      clear a2
      have HV := Lib.hid (show c = (161, 0) by rw [← HCK.out]; unfold chkK; rw [if_neg (fun q => by unfold WrOk at q; exact absurd q (by exact fun q => HA2.out q.2.1))])
      go_wp2_with fail
      exact ret_two rfl rfl rfl rfl ⟨by rw [HV.out]; rfl, HX.out⟩
/-- A paragraph: its boxes, the number of the first, how lines are made. -/
abbrev pgV (p : Option Addr) (n c : Nat) (f W F R H : Int) : Value := .agg #[.slice p n c, .int .i64 f, .int .i64 W, .int .i64 F, .int .i64 R, .int .i64 H]
def pgC (p : Option Addr) (n c : Nat) (f W F R H : Int) : Obj := .cells #[.slice p n c, .int .i64 f, .int .i64 W, .int .i64 F, .int .i64 R, .int .i64 H] 61
set_option maxRecDepth 100000 in
set_option maxHeartbeats 4000000 in
theorem c_room (p : Option Addr) (n c : Nat) (f W F R H : Int) (i : Nat) (w : World) (hW : InK W) (hF : InK F) (hR : InK R) :
    Calls Tryz.prog 33 #[pgV p n c f W F R H, .int .i64 (i : Nat)] w fun e w' => e = .returned (.int .i64 (if i = 0 then W - F else W - R)) ∧ Ext w w' := by
  unfold InK at hW hF hR
  have hbo := World.alloc_heap_new w (pgC p n c f W F R H)
  have hx := (Ext.refl w).alloc (pgC p n c f W F R H)
  unfold pgC at hbo hx
  have o0 : (w.alloc (.cells #[.slice p n c, .int .i64 f, .int .i64 W, .int .i64 F, .int .i64 R, .int .i64 H] 61)).cell? ⟨w.heap.size, 0, none⟩ = some (.slice p n c) := (cell_blk hbo 0).trans rfl
  have o2 : (w.alloc (.cells #[.slice p n c, .int .i64 f, .int .i64 W, .int .i64 F, .int .i64 R, .int .i64 H] 61)).cell? ⟨w.heap.size, 2, none⟩ = some (.int .i64 W) := (cell_blk hbo 2).trans rfl
  have o3 : (w.alloc (.cells #[.slice p n c, .int .i64 f, .int .i64 W, .int .i64 F, .int .i64 R, .int .i64 H] 61)).cell? ⟨w.heap.size, 3, none⟩ = some (.int .i64 F) := (cell_blk hbo 3).trans rfl
  have o4 : (w.alloc (.cells #[.slice p n c, .int .i64 f, .int .i64 W, .int .i64 F, .int .i64 R, .int .i64 H] 61)).cell? ⟨w.heap.size, 4, none⟩ = some (.int .i64 R) := (cell_blk hbo 4).trans rfl
  unfold pgV
  by_cases h0 : i = 0
  · subst h0
    rw [if_pos rfl]
    go_enter Tryz.func33, Tryz.ntmps33
    go_wp2_with fail
    exact ret_one rfl rfl rfl ⟨rfl, hx⟩
  · rw [if_neg h0]
    have h0I : ¬ ((i : Nat) : Int) = 0 := by omega
    have h0J : (((i : Nat) : Int) == 0) = false := by simp; omega
    go_enter Tryz.func33, Tryz.ntmps33
    go_wp2_with fail
    exact ret_one rfl rfl rfl ⟨rfl, hx⟩
set_option maxRecDepth 100000 in
set_option maxHeartbeats 4000000 in
theorem c_plast (p : Option Addr) (n c : Nat) (f W F R H : Int) (j : Nat) (w : World) (hn : n ≤ 100000) :
    Calls Tryz.prog 43 #[pgV p n c f W F R H, .int .i64 (j : Nat)] w fun e w' => e = .returned (.bool (decide (j + 1 = n))) ∧ Ext w w' := by
  have hbo := World.alloc_heap_new w (pgC p n c f W F R H)
  have hx := (Ext.refl w).alloc (pgC p n c f W F R H)
  unfold pgC at hbo hx
  have o0 : (w.alloc (.cells #[.slice p n c, .int .i64 f, .int .i64 W, .int .i64 F, .int .i64 R, .int .i64 H] 61)).cell? ⟨w.heap.size, 0, none⟩ = some (.slice p n c) := (cell_blk hbo 0).trans rfl
  have o2 : (w.alloc (.cells #[.slice p n c, .int .i64 f, .int .i64 W, .int .i64 F, .int .i64 R, .int .i64 H] 61)).cell? ⟨w.heap.size, 2, none⟩ = some (.int .i64 W) := (cell_blk hbo 2).trans rfl
  have o3 : (w.alloc (.cells #[.slice p n c, .int .i64 f, .int .i64 W, .int .i64 F, .int .i64 R, .int .i64 H] 61)).cell? ⟨w.heap.size, 3, none⟩ = some (.int .i64 F) := (cell_blk hbo 3).trans rfl
  have o4 : (w.alloc (.cells #[.slice p n c, .int .i64 f, .int .i64 W, .int .i64 F, .int .i64 R, .int .i64 H] 61)).cell? ⟨w.heap.size, 4, none⟩ = some (.int .i64 R) := (cell_blk hbo 4).trans rfl
  unfold pgV
  have hnI : ((n : Nat) : Int) ≤ 100000 := by omega
  have hd : (((j : Nat) : Int) == (n : Nat) - 1) = decide (j + 1 = n) := by rw [Bool.eq_iff_iff]; simp; omega
  go_enter Tryz.func43, Tryz.ntmps43
  go_wp2_with fail
  exact ret_one rfl rfl rfl ⟨rfl, hx⟩
set_option maxRecDepth 100000 in
set_option maxHeartbeats 4000000 in
theorem c_pcost (p : Option Addr) (n c : Nat) (f W F R H : Int) (i j : Nat) (sz : Nat) (w : World) (hn : n ≤ 100000) (hW : InK W) (hF : InK F) (hR : InK R) (hs : sz ≤ 900000000) :
    Calls Tryz.prog 34 #[pgV p n c f W F R H, .int .i64 (i : Nat), .int .i64 (j : Nat), .int .i64 (sz : Nat)] w fun e w' =>
      e = .returned (.int .i64 (if (if i = 0 then W - F else W - R) - (sz : Nat) < 0 then 10 * ((if i = 0 then W - F else W - R) - (sz : Nat)) * ((if i = 0 then W - F else W - R) - (sz : Nat)) else if j + 1 = n then 0 else ((if i = 0 then W - F else W - R) - (sz : Nat)) * ((if i = 0 then W - F else W - R) - (sz : Nat)))) ∧ Ext w w' := by
  have HRM := Lib.hid (fun w' => c_room p n c f W F R H i w' hW hF hR)
  have hrb : -100000 ≤ (if i = 0 then W - F else W - R) ∧ (if i = 0 then W - F else W - R) ≤ 100000 := by
    unfold InK at hW hF hR
    split <;> omega
  generalize (if i = 0 then W - F else W - R) = rm at HRM hrb ⊢
  have hbo := World.alloc_heap_new w (pgC p n c f W F R H)
  have hx := (Ext.refl w).alloc (pgC p n c f W F R H)
  unfold pgC at hbo hx
  have o0 : (w.alloc (.cells #[.slice p n c, .int .i64 f, .int .i64 W, .int .i64 F, .int .i64 R, .int .i64 H] 61)).cell? ⟨w.heap.size, 0, none⟩ = some (.slice p n c) := (cell_blk hbo 0).trans rfl
  have o2 : (w.alloc (.cells #[.slice p n c, .int .i64 f, .int .i64 W, .int .i64 F, .int .i64 R, .int .i64 H] 61)).cell? ⟨w.heap.size, 2, none⟩ = some (.int .i64 W) := (cell_blk hbo 2).trans rfl
  have o3 : (w.alloc (.cells #[.slice p n c, .int .i64 f, .int .i64 W, .int .i64 F, .int .i64 R, .int .i64 H] 61)).cell? ⟨w.heap.size, 3, none⟩ = some (.int .i64 F) := (cell_blk hbo 3).trans rfl
  have o4 : (w.alloc (.cells #[.slice p n c, .int .i64 f, .int .i64 W, .int .i64 F, .int .i64 R, .int .i64 H] 61)).cell? ⟨w.heap.size, 4, none⟩ = some (.int .i64 R) := (cell_blk hbo 4).trans rfl
  have o1 : (w.alloc (.cells #[.slice p n c, .int .i64 f, .int .i64 W, .int .i64 F, .int .i64 R, .int .i64 H] 61)).cell? ⟨w.heap.size, 1, none⟩ = some (.int .i64 f) := (cell_blk hbo 1).trans rfl
  have o5 : (w.alloc (.cells #[.slice p n c, .int .i64 f, .int .i64 W, .int .i64 F, .int .i64 R, .int .i64 H] 61)).cell? ⟨w.heap.size, 5, none⟩ = some (.int .i64 H) := (cell_blk hbo 5).trans rfl
  unfold pgV
  have hszI : ((sz : Nat) : Int) ≤ 900000000 := by omega
  have hsq : 0 ≤ (rm - (sz : Nat)) * (rm - (sz : Nat)) ∧ (rm - (sz : Nat)) * (rm - (sz : Nat)) ≤ 810180010000000000 := by
    have h1 : (rm - (sz : Nat)).natAbs ≤ 900100000 := by omega
    have h2 := Int.natAbs_mul_self (a := rm - (sz : Nat))
    have h3 := Nat.mul_le_mul h1 h1
    omega
  have hw1 : wrap64 (10 * (rm - (sz : Nat))) = 10 * (rm - (sz : Nat)) := IntWalk.wrap64_in _ (by omega)
  have HW2 := Lib.hid (show wrap64 (10 * (rm - (sz : Nat)) * (rm - (sz : Nat))) = 10 * (rm - (sz : Nat)) * (rm - (sz : Nat)) from IntWalk.wrap64_in _ (by rw [Int.mul_assoc]; omega))
  have HW3 := Lib.hid (show wrap64 ((rm - (sz : Nat)) * (rm - (sz : Nat))) = (rm - (sz : Nat)) * (rm - (sz : Nat)) from IntWalk.wrap64_in _ (by omega))
  clear hsq
  obtain ⟨cv, hcv⟩ : ∃ cv, (if rm - (sz : Nat) < 0 then 10 * (rm - (sz : Nat)) * (rm - (sz : Nat)) else if j + 1 = n then 0 else (rm - (sz : Nat)) * (rm - (sz : Nat))) = cv := ⟨_, rfl⟩
  rw [hcv]
  have HCV := Lib.hid hcv
  clear hcv
  go_enter Tryz.func34, Tryz.ntmps34
  go_wp2_with fail
  refine (HRM.out _).mono ?_
  rintro e w1 ⟨rfl, hx1⟩
  have k0 := hx1.cell o0
  have k1 := hx1.cell o1
  have k2 := hx1.cell o2
  have k3 := hx1.cell o3
  have k4 := hx1.cell o4
  have k5 := hx1.cell o5
  have HX1 := Lib.hid (hx.trans hx1)
  have HPL := Lib.hid (c_plast p n c f W F R H j w1 hn)
  clear hx hx1 o0 o1 o2 o3 o4 o5 hbo HRM
  generalize w.heap.size = pb at *
  by_cases hneg : rm - (sz : Nat) < 0
  · have HV := Lib.hid (show cv = _ from HCV.out.symm.trans (if_pos hneg))
    go_wp2_with fail
    exact ret_one rfl rfl rfl ⟨by rw [HV.out]; exact congrArg (fun x => Ending.returned (.int .i64 x)) HW2.out, HX1.out⟩
  · have HV0 := Lib.hid (show cv = _ from HCV.out.symm.trans (if_neg hneg))
    go_wp2_with fail
    refine HPL.out.mono ?_
    rintro e w2 ⟨rfl, hx2⟩
    have HX2 := Lib.hid (HX1.out.trans hx2)
    clear hx2 HPL
    by_cases hj : j + 1 = n
    · have HV := Lib.hid (show cv = _ from HV0.out.trans (if_pos hj))
      rw [decide_eq_true hj]
      clear hj
      go_wp2_with fail
      exact ret_one rfl rfl rfl ⟨by rw [HV.out]; rfl, HX2.out⟩
    · have HV := Lib.hid (show cv = _ from HV0.out.trans (if_neg hj))
      rw [decide_eq_false hj]
      clear hj
      go_wp2_with fail
      exact ret_one rfl rfl rfl ⟨by rw [HV.out]; exact congrArg (fun x => Ending.returned (.int .i64 x)) HW3.out, HX2.out⟩
end Go.Proofs.YtlmkbldiicbejaaGreatDoor
end

section
namespace Go.Proofs.YtlmkbldiicbejaaGreatDoor
open Go.RowKit Go.Rp Go.Maps Go.Cl Go.Shelf Go.Gr

/-- Blocks from some number on stay. -/
def Up (B : Nat) (A C : World) : Prop := A.heap.size ≤ C.heap.size ∧ ∀ b, B ≤ b → b < A.heap.size → C.heap[b]? = A.heap[b]?
theorem Up.refl (B : Nat) (A : World) : Up B A A := ⟨Nat.le_refl _, fun _ _ _ => rfl⟩
theorem Up.trans {B : Nat} {A C D : World} (h : Up B A C) (k : Up B C D) : Up B A D := ⟨Nat.le_trans h.1 k.1, fun b hb hl => (k.2 b hb (Nat.lt_of_lt_of_le hl h.1)).trans (h.2 b hb hl)⟩
theorem Up.of_ext {B : Nat} {A C : World} (h : Ext A C) : Up B A C := ⟨h.sz, fun b _ hl => h.block b hl⟩
theorem Up.blk {B : Nat} {A C : World} (h : Up B A C) {b : Nat} (hb : B ≤ b) {o : Obj} (ho : A.heap[b]? = some o) : C.heap[b]? = some o := (h.2 b hb (Array.getElem?_eq_some_iff.1 ho).1).trans ho
/-- The boxes are small enough. -/
def SmB (L : List Wp.Bx) : Prop := L.length ≤ 4096 ∧ ∀ x ∈ L, x.w ≤ 100000 ∧ x.b ≤ 100000 ∧ x.h ≤ 100000
theorem SmB.ahd {L : List Wp.Bx} (h : SmB L) (i j : Nat) : Wp.ahd L i j ≤ 200000 * L.length := by
  have key : ∀ l : List Wp.Bx, (∀ x ∈ l, x.w ≤ 100000 ∧ x.b ≤ 100000 ∧ x.h ≤ 100000) → (l.map fun x => x.w + x.b).sum ≤ 200000 * l.length := by
    intro l
    induction l with
    | nil => intro _; simp
    | cons x l ih =>
      intro hl
      have h1 := hl x (by simp)
      have h2 := ih (fun y hy => hl y (by simp [hy]))
      simp only [List.map_cons, List.sum_cons, List.length_cons]
      omega
  have h1 := key ((L.take j).drop i) (fun x hx => h.2 x (List.mem_of_mem_take (List.mem_of_mem_drop hx)))
  have h2 : ((L.take j).drop i).length ≤ L.length := by rw [List.length_drop, List.length_take]; omega
  unfold Wp.ahd
  omega
def szP (L : List Wp.Bx) (i j : Nat) : Nat := Wp.ahd L i j + (Wp.gB L j).w + (if j + 1 = L.length then 0 else (Wp.gB L j).h)
theorem SmB.sz {L : List Wp.Bx} (h : SmB L) {i j : Nat} (hj : j < L.length) : szP L i j ≤ 900000000 := by
  have h1 := h.ahd i j
  have h2 := h.1
  have h3 := h.2 L[j] (List.getElem_mem hj)
  unfold szP Wp.gB
  rw [List.getD_eq_getElem?_getD, List.getElem?_eq_getElem hj, Option.getD_some]
  split <;> omega
set_option maxRecDepth 100000 in
set_option maxHeartbeats 4000000 in
theorem c_sizes (fid : FuncId) (caps : Array Value) (L : List Wp.Bx) (p : Option Addr) (c : Nat) (f W F R H : Int) (i : Nat) (w : World) (I : Nat → World → Prop) (X : World → Prop) (hent : ∀ args w, (callFunc fid args).run Tryz.prog w = .ok (.enter fid args) w)
    (hrow : ∀ j W', I j W' → BxRow W' (.slice p L.length c) (L.map bxI)) (hst : ∀ j A B, I j A → Ext A B → I j B) (hsm : SmB L) (hi : i ≤ L.length)
    (hask : ∀ j W', i ≤ j → j < L.length → I j W' → w.heap.size ≤ W'.heap.size → Calls Tryz.prog fid (#[.int .i64 (j : Nat), .int .i64 (szP L i j : Nat)] ++ caps) W' fun e W'' => ∃ b, e = .returned (.bool b) ∧ Up w.heap.size W' W'' ∧ (b = true → I (j + 1) W'') ∧ (b = false → X W''))
    (hI : I i w) :
    Calls Tryz.prog 31 #[pgV p L.length c f W F R H, .int .i64 (i : Nat), .func (.func fid) #[] caps] w fun e W' => (∃ v, e = .returned v) ∧ (I L.length W' ∨ X W') := by
  have HROW := Lib.hid hrow
  have HST := Lib.hid hst
  have HASK := Lib.hid hask
  have HI := Lib.hid hI
  have HSM := Lib.hid hsm
  have hnb := hsm.1
  have hnI : ((L.length : Nat) : Int) ≤ 4096 := by omega
  clear hrow hst hask hI hsm
  unfold pgV
  go_enter Tryz.func31, Tryz.ntmps31
  go_wp2_with fail
  have hpb := World.alloc_heap_new w (pgC p L.length c f W F R H)
  have hx0 := (Ext.refl w).alloc (pgC p L.length c f W F R H)
  have HI0 := Lib.hid (HST.out _ _ _ HI.out hx0)
  unfold pgC at hpb hx0 HI0
  have HPB := Lib.hid hpb
  have HSZ := Lib.hid hx0.sz
  have HA0 := Lib.hid (Wp.ahd_self L i)
  clear hpb hx0
  obtain ⟨B, hB⟩ : ∃ B, w.heap.size = B := ⟨_, rfl⟩
  rw [hB] at HPB HSZ
  have HBW := Lib.hid hB
  generalize w.alloc (.cells #[.slice p L.length c, .int .i64 f, .int .i64 W, .int .i64 F, .int .i64 R, .int .i64 H] 61) = w1 at HPB HSZ HI0 ⊢
  rw [hB]
  clear hB
  go_loopw [6, 7, 8, 9] (fun av jv _ _ W' => ∃ j a : Nat, av = .int .i64 (a : Nat) ∧ jv = .int .i64 (j : Nat) ∧ i ≤ j ∧ j ≤ L.length ∧ Hid (a = Wp.ahd L i j) ∧ a ≤ 819200000 ∧ Hid (I j W') ∧ Hid (W'.heap[B]? = some (.cells #[.slice p L.length c, .int .i64 f, .int .i64 W, .int .i64 F, .int .i64 R, .int .i64 H] 61 (0, 0)))) (fun _ jv _ _ _ => L.length + 1 - (intOf jv).toNat)
  case atStart => exact ⟨i, 0, rfl, rfl, Nat.le_refl _, hi, Lib.hid HA0.out.symm, Nat.zero_le _, HI0, HPB⟩
  case round =>
    obtain ⟨j, a, rfl, rfl, hij, hjn, HA, ha, HJ, HP⟩ := hrel
    obtain ⟨W', rfl⟩ : ∃ W', W' = wr := ⟨_, rfl⟩
    have k0 := (cell_blk HP.out 0).trans rfl
    have k1 := (cell_blk HP.out 1).trans rfl
    have k2 := (cell_blk HP.out 2).trans rfl
    have k3 := (cell_blk HP.out 3).trans rfl
    have k4 := (cell_blk HP.out 4).trans rfl
    have k5 := (cell_blk HP.out 5).trans rfl
    by_cases hjl : j < L.length
    · have hI : ((j : Nat) : Int) < (L.length : Nat) := by omega
      have hd : decide (j < L.length) = true := decide_eq_true hjl
      obtain ⟨p', cap', e', _, hcc⟩ := HROW.out j W' HJ.out
      rw [List.length_map] at e'
      obtain ⟨rfl, -, rfl⟩ := Value.slice.inj e'
      obtain ⟨g, o, rfl, _, h6⟩ := hcc (by intro e; have := congrArg List.length e; rw [List.length_map, List.length_nil] at this; omega)
      have h7 := h6 j (by rw [List.length_map]; exact hjl)
      have hgb : (L.map bxI)[j]'(by rw [List.length_map]; exact hjl) = bxI (Wp.gB L j) := by
        unfold Wp.gB
        rw [List.getD_eq_getElem?_getD, List.getElem?_eq_getElem hjl]
        simp
      rw [hgb] at h7
      have hbd := HSM.out.2 (Wp.gB L j) (by unfold Wp.gB; rw [List.getD_eq_getElem?_getD, List.getElem?_eq_getElem hjl]; exact List.getElem_mem hjl)
      have HAS := Lib.hid (Wp.ahd_succ L hij hjl)
      have HSZP := Lib.hid (show szP L i j = Wp.ahd L i j + (Wp.gB L j).w + (if j + 1 = L.length then 0 else (Wp.gB L j).h) from rfl)
      have HSL := Lib.hid (HSM.out.sz (i := i) hjl)
      have HAL := Lib.hid (HSM.out.ahd i (j + 1))
      generalize Wp.gB L j = x at h7 hbd HAS HSZP
      obtain ⟨xw, xb, xh, xm⟩ := x
      simp only [bxI] at h7 hbd HAS HSZP
      obtain ⟨d0, d1, d2, d3⟩ := h7
      have hwI : ((xw : Nat) : Int) ≤ 100000 := by omega
      have hbI : ((xb : Nat) : Int) ≤ 100000 := by omega
      have hhI : ((xh : Nat) : Int) ≤ 100000 := by omega
      have haI : ((a : Nat) : Int) ≤ 819200000 := by omega
      have v0 : ∀ o, (W'.alloc o).cell? ⟨B, 0, none⟩ = _ := fun o => ((Ext.refl W').alloc o).cell k0
      have v1 : ∀ o, (W'.alloc o).cell? ⟨B, 1, none⟩ = _ := fun o => ((Ext.refl W').alloc o).cell k1
      have v2 : ∀ o, (W'.alloc o).cell? ⟨B, 2, none⟩ = _ := fun o => ((Ext.refl W').alloc o).cell k2
      have v3 : ∀ o, (W'.alloc o).cell? ⟨B, 3, none⟩ = _ := fun o => ((Ext.refl W').alloc o).cell k3
      have v4 : ∀ o, (W'.alloc o).cell? ⟨B, 4, none⟩ = _ := fun o => ((Ext.refl W').alloc o).cell k4
      have v5 : ∀ o, (W'.alloc o).cell? ⟨B, 5, none⟩ = _ := fun o => ((Ext.refl W').alloc o).cell k5
      clear h6 hcc e' hgb hbd
      go_wp2_with fail
      clear v0 v1 v2 v3 v4 v5 k0 k1 k2 k3 k4 k5 d0 d1 d2 d3
      have hb := World.alloc_heap_new W' (.cells #[.int .i64 (xw : Nat), .int .i64 (xb : Nat), .int .i64 (xh : Nat), .bool xm] 45)
      have hx2 := (Ext.refl W').alloc (.cells #[.int .i64 (xw : Nat), .int .i64 (xb : Nat), .int .i64 (xh : Nat), .bool xm] 45)
      have HWB := Lib.hid (show B ≤ W'.heap.size by have := blk_lt HP.out; omega)
      generalize W'.alloc (.cells #[.int .i64 (xw : Nat), .int .i64 (xb : Nat), .int .i64 (xh : Nat), .bool xm] 45) = W2 at hb hx2 ⊢
      generalize W'.heap.size = bb at hb HWB ⊢
      refine (c_plast (some ⟨g, o, none⟩) L.length c f W F R H j W2 (by omega)).mono ?_
      rintro e W3 ⟨rfl, hx3⟩
      have hb3 := hx3.blk hb
      have HB3 := Lib.hid hb3
      have HP3 := Lib.hid (Ext.blk (hx2.trans hx3) HP.out)
      have HJ3 := Lib.hid (HST.out _ _ _ HJ.out (hx2.trans hx3))
      have m0 : W3.cell? ⟨bb, 0, none⟩ = some (.int .i64 (xw : Nat)) := (cell_blk hb3 0).trans rfl
      have m1 : W3.cell? ⟨bb, 1, none⟩ = some (.int .i64 (xb : Nat)) := (cell_blk hb3 1).trans rfl
      have m2 : W3.cell? ⟨bb, 2, none⟩ = some (.int .i64 (xh : Nat)) := (cell_blk hb3 2).trans rfl
      have HW3 := Lib.hid (show w.heap.size ≤ W3.heap.size by rw [HBW.out]; have := blk_lt HP3.out; omega)
      clear hb hx2 hx3 hb3
      by_cases hlast : j + 1 = L.length
      · rw [decide_eq_true hlast]
        have HS := Lib.hid (show szP L i j = a + xw by rw [HSZP.out, if_pos hlast, HA.out]; omega)
        clear hlast HSZP
        go_wp2_with fail
        have hak := HASK.out j W3 hij hjl HJ3.out HW3.out
        rw [HS.out, show ((a + xw : Nat) : Int) = (a : Int) + xw by omega] at hak
        refine hak.mono ?_
        rintro e W4 ⟨b, rfl, hup, h1, h2⟩
        have hwb : w.heap.size ≤ bb := by rw [HBW.out]; exact HWB.out
        have hb4 := hup.blk hwb HB3.out
        have HP4 := Lib.hid (hup.blk (Nat.le_of_eq HBW.out) HP3.out)
        have n0 : W4.cell? ⟨bb, 0, none⟩ = some (.int .i64 (xw : Nat)) := (cell_blk hb4 0).trans rfl
        have n1 : W4.cell? ⟨bb, 1, none⟩ = some (.int .i64 (xb : Nat)) := (cell_blk hb4 1).trans rfl
        clear hak hup hb4 m0 m1 m2 hwb
        cases b
        · have HX4 := Lib.hid (h2 rfl)
          clear h1 h2
          go_wp2_with fail
          exact bodyPost_ret (results_none rfl _ _ _) rfl ⟨⟨_, rfl⟩, .inr HX4.out⟩
        · have HJ4 := Lib.hid (h1 rfl)
          clear h1 h2
          have HAN := Lib.hid (show a + (xw + xb) = Wp.ahd L i (j + 1) by rw [HAS.out, HA.out])
          go_wp2_with fail
          exact ⟨⟨j + 1, a + (xw + xb), by congr 1, by simp, by omega, by omega, HAN, by have h8 := HAL.out; rw [← HAN.out] at h8; have h9 := hnb; omega, HJ4, HP4⟩, by simp only [intOf]; omega⟩
      · rw [decide_eq_false hlast]
        have HS := Lib.hid (show szP L i j = a + xw + xh by rw [HSZP.out, if_neg hlast, HA.out])
        clear hlast HSZP
        go_wp2_with fail
        have hak := HASK.out j W3 hij hjl HJ3.out HW3.out
        rw [HS.out, show ((a + xw + xh : Nat) : Int) = (a : Int) + xw + xh by omega] at hak
        refine hak.mono ?_
        rintro e W4 ⟨b, rfl, hup, h1, h2⟩
        have hwb : w.heap.size ≤ bb := by rw [HBW.out]; exact HWB.out
        have hb4 := hup.blk hwb HB3.out
        have HP4 := Lib.hid (hup.blk (Nat.le_of_eq HBW.out) HP3.out)
        have n0 : W4.cell? ⟨bb, 0, none⟩ = some (.int .i64 (xw : Nat)) := (cell_blk hb4 0).trans rfl
        have n1 : W4.cell? ⟨bb, 1, none⟩ = some (.int .i64 (xb : Nat)) := (cell_blk hb4 1).trans rfl
        clear hak hup hb4 m0 m1 m2 hwb
        cases b
        · have HX4 := Lib.hid (h2 rfl)
          clear h1 h2
          go_wp2_with fail
          exact bodyPost_ret (results_none rfl _ _ _) rfl ⟨⟨_, rfl⟩, .inr HX4.out⟩
        · have HJ4 := Lib.hid (h1 rfl)
          clear h1 h2
          have HAN := Lib.hid (show a + (xw + xb) = Wp.ahd L i (j + 1) by rw [HAS.out, HA.out])
          go_wp2_with fail
          exact ⟨⟨j + 1, a + (xw + xb), by congr 1, by simp, by omega, by omega, HAN, by have h8 := HAL.out; rw [← HAN.out] at h8; have h9 := hnb; omega, HJ4, HP4⟩, by simp only [intOf]; omega⟩
    · have hI : ¬ ((j : Nat) : Int) < (L.length : Nat) := by omega
      have hd : decide (j < L.length) = false := decide_eq_false hjl
      obtain rfl : j = L.length := by omega
      go_wp2_with fail
      exact bodyPost_end (results_none rfl _ _ _) rfl ⟨⟨_, rfl⟩, .inl HJ.out⟩
end Go.Proofs.YtlmkbldiicbejaaGreatDoor
end
