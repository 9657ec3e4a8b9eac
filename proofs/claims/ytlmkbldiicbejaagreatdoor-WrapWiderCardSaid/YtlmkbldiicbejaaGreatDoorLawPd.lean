/-
  The law WrapWider.
-/
import Derived.Test.YtlmkbldiicbejaaGreatDoorLwB
namespace Go.Proofs.YtlmkbldiicbejaaGreatDoor
open Go.RowKit Go.Rp Go.Maps Go.Cl Go.Shelf Go.Gr Go.Ln

set_option maxRecDepth 100000 in
set_option maxHeartbeats 2000000 in
theorem c_gfits (p : Option Addr) (cap : Nat) (l : List BxI) (pa : Option Addr) (ca B : Nat) (la : List Nat) (W F R H : Int) (w : World) (h : BxRow w (.slice p l.length cap) l) (ha : w.ownsRow B 3 1 (.slice pa la.length ca) la.length (nW la)) (hb : ∀ x ∈ la, x < l.length) (hl : la.length ≤ l.length) (hn : l.length ≤ 64) :
    Calls Tryz.prog 21 #[.slice p l.length cap, .agg #[.int .i64 W, .int .i64 F, .int .i64 R, .int .i64 H], .slice pa la.length ca] w fun e w' => e = .returned (.bool ((cstA l W F R H (la.map Int.ofNat)).isSome && ((cstA l W F R H (la.map Int.ofNat)).getD 0 == 0))) ∧ Ext w w' := by
  have HC := Lib.hid (fun W' (h' : Ext w W') => c_CostL p cap l pa ca B la W F R H W' (h.ext h') (ownsRow_ext ha h') hb hl hn)
  generalize cstA l W F R H (la.map Int.ofNat) = cs at HC ⊢
  clear h ha
  go_enter Tryz.func21, Tryz.ntmps21
  go_wp2_with fail
  refine (HC.out _ ((Ext.refl w).alloc _)).mono ?_
  rintro e w1 ⟨rfl, hx1⟩
  have HX1 := Lib.hid (((Ext.refl w).alloc _).trans hx1)
  clear hx1 HC
  cases cs with
  | none =>
    simp only [Option.getD_none, Option.isSome_none]
    go_wp2_with fail
    exact ret_one rfl rfl rfl ⟨rfl, HX1.out⟩
  | some c =>
    simp only [Option.getD_some, Option.isSome_some]
    go_wp2_with fail
    exact ret_one rfl rfl rfl ⟨rfl, HX1.out⟩
set_option maxRecDepth 100000 in
set_option maxHeartbeats 4000000 in
theorem c_Wider (v : Value) (l : List BxI) (W F R H m : Int) (w : World) (hT : TabsW w) (h : BxRow w v l) (hWb : -9223372036854775808 ≤ W ∧ W ≤ 9223372036854775807) :
    Calls Tryz.prog 8 #[v, .agg #[.int .i64 W, .int .i64 F, .int .i64 R, .int .i64 H], .int .i64 m] w fun e w' => e = .returned (.bool true) ∧ Ext w w' := by
  have HL := Lib.hid (fun W' (h' : Ext w W') => c_live16 W' (hT.ext h'))
  have HB := Lib.hid h
  obtain ⟨p, cap, rfl, _, hrow⟩ := id h
  have HROW := Lib.hid hrow
  clear hT h hrow
  by_cases hb1 : (40 : Int) < (l.length : Nat)
  · go_enter Tryz.func8, Tryz.ntmps8
    go_wp2_with fail
    refine (HL.out _ ((Ext.refl w).alloc _)).mono ?_
    rintro e wl ⟨rfl, hxl⟩
    have HXL := Lib.hid (((Ext.refl w).alloc _).trans hxl)
    clear hxl
    go_wp2_with fail
    exact ret_one rfl rfl rfl ⟨rfl, HXL.out⟩
  · by_cases hm0 : m < 0
    · go_enter Tryz.func8, Tryz.ntmps8
      go_wp2_with fail
      refine (HL.out _ ((Ext.refl w).alloc _)).mono ?_
      rintro e wl ⟨rfl, hxl⟩
      have HXL := Lib.hid (((Ext.refl w).alloc _).trans hxl)
      clear hxl
      go_wp2_with fail
      exact ret_one rfl rfl rfl ⟨rfl, HXL.out⟩
    · by_cases hm1 : 100000 < m
      · go_enter Tryz.func8, Tryz.ntmps8
        go_wp2_with fail
        refine (HL.out _ ((Ext.refl w).alloc _)).mono ?_
        rintro e wl ⟨rfl, hxl⟩
        have HXL := Lib.hid (((Ext.refl w).alloc _).trans hxl)
        clear hxl
        go_wp2_with fail
        exact ret_one rfl rfl rfl ⟨rfl, HXL.out⟩
      · by_cases hm2 : 100000 - m < W
        · go_enter Tryz.func8, Tryz.ntmps8
          go_wp2_with fail
          refine (HL.out _ ((Ext.refl w).alloc _)).mono ?_
          rintro e wl ⟨rfl, hxl⟩
          have HXL := Lib.hid (((Ext.refl w).alloc _).trans hxl)
          clear hxl
          go_wp2_with fail
          exact ret_one rfl rfl rfl ⟨rfl, HXL.out⟩
        · have HLG := Lib.hid (fun W' (h' : Ext w W') => c_LinesA _ l W F R 0 W' (HB.out.ext h') (by omega))
          have HLB := Lib.hid (fun W' (h' : Ext w W') => c_LinesA _ l (W + m) F R 0 W' (HB.out.ext h') (by omega))
          have HLE := Lib.hid (fun W' (h' : Ext w W') => c_LinesA _ l (W + m) F R 1 W' (HB.out.ext h') (by omega))
          have HGF := Lib.hid (fun pa ca B W' (h' : Ext w W') ha => c_gfits p cap l pa ca B (linA l (W + m) F R 0) (W + m) F R 1 W' (HB.out.ext h') ha linA_lt (linA_len l (W + m) F R 0) (by omega))
          have HF := Lib.hid (fun q q2 => widerA (l := l) (W := W) (F := F) (R := R) (m := m) (by omega) q q2)
          have HO := Lib.hid (fun q => oneA (l := l) (W := W + m) (F := F) (R := R) q)
          have hlg := linA_len l W F R 0
          have hlb := linA_len l (W + m) F R 0
          have hle := linA_len l (W + m) F R 1
          generalize linA l W F R 0 = lg at HLG HF hlg
          generalize linA l (W + m) F R 0 = lb at HLB HGF HF HO hlb
          generalize linA l (W + m) F R 1 = le at HLE HO hle
          generalize (chkK l W F R 0).1 = c0 at HLG HF
          generalize (chkK l (W + m) F R 0).1 = c1 at HLB HF HO
          generalize (chkK l (W + m) F R 1).1 = c2 at HLE HO
          have hwm : wrap64 (W + m) = W + m := IntWalk.wrap64_in _ (by omega)
          have hnI : ((l.length : Nat) : Int) ≤ 40 := by omega
          go_enter Tryz.func8, Tryz.ntmps8
          go_wp2_with fail
          have hb := World.alloc_heap_new w (.cells #[.int .i64 W, .int .i64 F, .int .i64 R, .int .i64 0] 24)
          have hx := (Ext.refl w).alloc (.cells #[.int .i64 W, .int .i64 F, .int .i64 R, .int .i64 0] 24)
          generalize w.alloc (.cells #[.int .i64 W, .int .i64 F, .int .i64 R, .int .i64 0] 24) = w1 at hb hx ⊢
          obtain ⟨tb, htb⟩ : ∃ tb, w.heap.size = tb := ⟨_, rfl⟩
          rw [htb] at hb ⊢
          have HTN := Lib.hid htb
          clear htb
          have HX1 := Lib.hid hx
          have HTB := Lib.hid hb
          clear hb hx
          refine (HLG.out w1 HX1.out).mono ?_
          rintro e w2 ⟨u, rfl, hown, hx2⟩
          obtain ⟨pu, cu, rfl⟩ := own_slice hown
          have HX2 := Lib.hid hx2
          clear hown hx2
          have k0 : w2.cell? ⟨tb, 0, none⟩ = some (.int .i64 W) := (cell_blk (HX2.out.blk HTB.out) 0).trans rfl
          have hbk := HX2.out.blk HTB.out
          have z0 := frz_blk hbk 0
          have z1 : w2.cell? ⟨tb, 0, none⟩ = some (.int .i64 W) := (cell_blk hbk 0).trans rfl
          have hs := set_blk hbk 0 (.int .i64 (W + m))
          have n0 : (w2.setCell ⟨tb, 0, none⟩ (.int .i64 (W + m))).cell? ⟨tb, 0, none⟩ = some (.int .i64 (W + m)) := (cell_blk hs 0).trans rfl
          have n1 : (w2.setCell ⟨tb, 0, none⟩ (.int .i64 (W + m))).cell? ⟨tb, 1, none⟩ = some (.int .i64 F) := (cell_blk hs 1).trans rfl
          have n2 : (w2.setCell ⟨tb, 0, none⟩ (.int .i64 (W + m))).cell? ⟨tb, 2, none⟩ = some (.int .i64 R) := (cell_blk hs 2).trans rfl
          have n3 : (w2.setCell ⟨tb, 0, none⟩ (.int .i64 (W + m))).cell? ⟨tb, 3, none⟩ = some (.int .i64 0) := (cell_blk hs 3).trans rfl
          have HSB := Lib.hid hs
          have HXS := Lib.hid (show Ext w (w2.setCell ⟨tb, 0, none⟩ (.int .i64 (W + m))) from Ext.setCell (HX1.out.trans HX2.out) (show w.heap.size ≤ tb by rw [HTN.out]; exact Nat.le_refl _) _)
          clear hs
          go_wp2_with fail
          refine (HLB.out _ HXS.out).mono ?_
          rintro e w3 ⟨u, rfl, hown, hx3⟩
          obtain ⟨pb, cb, rfl⟩ := own_slice hown
          have HX3 := Lib.hid hx3
          have HOB := Lib.hid hown
          clear hown hx3 n0 n1 n2 n3 z0 z1 k0
          go_wp2_with fail
          refine (c_num16 c0 w3).mono ?_
          rintro e w3 ⟨rfl, rfl⟩
          by_cases h0 : c0 = 0
          · subst h0
            go_wp2_with fail
            refine (c_num16 c1 w3).mono ?_
            rintro e w3 ⟨rfl, rfl⟩
            by_cases h1 : c1 = 0
            · subst h1
              have hw := HF.out (by simp) (by simp)
              have ho := HO.out (by simp)
              obtain ⟨o1, o2, o3⟩ := ho
              subst o2
              have HO3 := Lib.hid o3
              have hI9 : ¬ ((lg.length : Nat) : Int) < (lb.length : Nat) := by omega
              clear HF HO o3
              obtain ⟨N, hN⟩ : ∃ N, nPar l l.length 0 = N := ⟨_, rfl⟩
              rw [hN] at o1 HO3
              have HN := Lib.hid hN
              have hNb : ((N : Nat) : Int) ≤ 40 := by have := nPar_le l l.length 0; omega
              clear hN
              go_wp2_with fail
              go_loopw [11, 12] (fun nv iv V => ∃ i n : Nat, nv = .int .i64 (n : Nat) ∧ iv = .int .i64 (i : Nat) ∧ i ≤ l.length ∧ Hid (n + nPar l l.length i = N) ∧ Hid (Ext w3 V)) (fun _ iv _ => l.length + 1 - (intOf iv).toNat)
              case atStart => exact ⟨0, 0, rfl, rfl, Nat.zero_le _, Lib.hid (by rw [HN.out, Nat.zero_add]), Lib.hid (Ext.refl _)⟩
              case round =>
                obtain ⟨i, n, rfl, rfl, hi, HP, HX⟩ := hrel
                obtain ⟨V, rfl⟩ : ∃ V, V = wr := ⟨_, rfl⟩
                have hnb : ((n : Nat) : Int) ≤ 40 := by have := HP.out; omega
                by_cases hil : i < l.length
                · have hI : ((i : Nat) : Int) < (l.length : Nat) := by omega
                  have hd : decide (i < l.length) = true := decide_eq_true hil
                  have hst := nPar_step l hil
                  obtain ⟨g, o, rfl, _, hc⟩ := HROW.out (by intro q; subst q; simp at hil)
                  have d3 := (HXS.out.trans (HX3.out.trans HX.out)).cell (hc i hil).2.2.2
                  clear hc
                  generalize l[i] = x at d3 hst
                  obtain ⟨xw, xb, xh, xm⟩ := x
                  simp only at d3 hst
                  cases xm
                  · by_cases hl : i + 1 = l.length
                    · have hq : (((i : Nat) : Int) == ((l.length : Nat) : Int) - 1) = true := beq_iff_eq.2 (by omega)
                      have HS := Lib.hid (show n + 1 + nPar l l.length (i + 1) = N by rw [if_pos (.inr hl)] at hst; have := HP.out; omega)
                      clear hst
                      go_wp2_with fail
                      exact ⟨⟨i + 1, n + 1, by simp, by simp, by omega, HS, HX⟩, by simp only [intOf]; omega⟩
                    · have hq : (((i : Nat) : Int) == ((l.length : Nat) : Int) - 1) = false := beq_eq_false_iff_ne.2 (by omega)
                      have HS := Lib.hid (show n + nPar l l.length (i + 1) = N by rw [if_neg (by simp [hl])] at hst; have := HP.out; omega)
                      clear hst
                      go_wp2_with fail
                      exact ⟨⟨i + 1, n, by simp, by simp, by omega, HS, HX⟩, by simp only [intOf]; omega⟩
                  · have HS := Lib.hid (show n + 1 + nPar l l.length (i + 1) = N by rw [if_pos (.inl rfl)] at hst; have := HP.out; omega)
                    clear hst
                    go_wp2_with fail
                    exact ⟨⟨i + 1, n + 1, by simp, by simp, by omega, HS, HX⟩, by simp only [intOf]; omega⟩
                · have hI : ¬ ((i : Nat) : Int) < (l.length : Nat) := by omega
                  have hd : decide (i < l.length) = false := decide_eq_false hil
                  obtain rfl : n = N := by have h := HP.out; rw [nPar_full l _ _ (by omega)] at h; omega
                  by_cases hq : lb.length = n
                  · have hqb : (((lb.length : Nat) : Int) == (n : Nat)) = true := by simp [hq]
                    have HX4 := Lib.hid (HX3.out.trans HX.out)
                    have hbk := (HX4.out).blk HSB.out
                    have z0 := frz_blk hbk 3
                    have z1 : V.cell? ⟨tb, 3, none⟩ = some (.int .i64 0) := (cell_blk hbk 3).trans rfl
                    have hs := set_blk hbk 3 (.int .i64 1)
                    have n0 : (V.setCell ⟨tb, 3, none⟩ (.int .i64 1)).cell? ⟨tb, 0, none⟩ = some (.int .i64 (W + m)) := (cell_blk hs 0).trans rfl
                    have n1 : (V.setCell ⟨tb, 3, none⟩ (.int .i64 1)).cell? ⟨tb, 1, none⟩ = some (.int .i64 F) := (cell_blk hs 1).trans rfl
                    have n2 : (V.setCell ⟨tb, 3, none⟩ (.int .i64 1)).cell? ⟨tb, 2, none⟩ = some (.int .i64 R) := (cell_blk hs 2).trans rfl
                    have n3 : (V.setCell ⟨tb, 3, none⟩ (.int .i64 1)).cell? ⟨tb, 3, none⟩ = some (.int .i64 1) := (cell_blk hs 3).trans rfl
                    have HQ := Lib.hid hq
                    clear hq
                    have HSB2 := Lib.hid hs
                    have HXT := Lib.hid (show Ext w (V.setCell ⟨tb, 3, none⟩ (.int .i64 1)) from Ext.setCell (HXS.out.trans HX4.out) (show w.heap.size ≤ tb by rw [HTN.out]; exact Nat.le_refl _) _)
                    have HOB2 := Lib.hid (ownsRow_ext HOB.out HX.out)
                    have HGR := Lib.hid (grown_cell V tb 3 (.int .i64 1))
                    clear hs hbk
                    go_wp2_with fail
                    refine (HLE.out _ HXT.out).mono ?_
                    rintro e w5 ⟨u, rfl, hown, hx5⟩
                    obtain ⟨pc, cc, rfl⟩ := own_slice hown
                    have HX5 := Lib.hid hx5
                    have HOC := Lib.hid hown
                    have HOB3 := Lib.hid (show w5.ownsRow (w2.setCell ⟨tb, 0, none⟩ (.int .i64 (W + m))).heap.size 3 1 (.slice pb lb.length cb) lb.length (nW lb) from ownsRow_ext (HOB2.out.kept HGR.out (by
                      cases hpb : pb with
                      | none => exact .inl rfl
                      | some a =>
                        refine .inr fun e => ?_
                        have h1 := HOB2.out.lt a.block (by rw [hpb]; rfl)
                        have h2 := blk_lt HSB.out
                        have h3 : a.block = tb := Option.some.inj e
                        omega)) hx5)
                    clear hown hx5 n0 n1 n2 n3 z0 z1
                    have m0 : w5.cell? ⟨tb, 0, none⟩ = some (.int .i64 (W + m)) := (cell_blk (HX5.out.blk HSB2.out) 0).trans rfl
                    have m1 : w5.cell? ⟨tb, 1, none⟩ = some (.int .i64 F) := (cell_blk (HX5.out.blk HSB2.out) 1).trans rfl
                    have m2 : w5.cell? ⟨tb, 2, none⟩ = some (.int .i64 R) := (cell_blk (HX5.out.blk HSB2.out) 2).trans rfl
                    have m3 : w5.cell? ⟨tb, 3, none⟩ = some (.int .i64 1) := (cell_blk (HX5.out.blk HSB2.out) 3).trans rfl
                    go_wp2_with fail
                    refine (c_num16 0 w5).mono ?_
                    rintro e w5 ⟨rfl, rfl⟩
                    go_wp2_with fail
                    refine (HGF.out pb cb _ w5 (HXT.out.trans HX5.out) HOB3.out).mono ?_
                    rintro e w6 ⟨rfl, hx6⟩
                    have HX6 := Lib.hid (hx6)
                    have h3 := HO3.out HQ.out
                    clear hx6 m0 m1 m2 m3 HGF
                    generalize cstA l (W + m) F R 1 (lb.map Int.ofNat) = cs at h3 ⊢
                    obtain ⟨gb, hgb⟩ : ∃ gb, (cs.isSome && (cs.getD 0 == 0)) = gb := ⟨_, rfl⟩
                    rw [hgb]
                    cases gb
                    · clear h3 hgb
                      go_wp2_with fail
                      refine (c_num16 0 w6).mono ?_
                      rintro e w6 ⟨rfl, rfl⟩
                      go_wp2_with fail
                      refine (HL.out _ ((HXT.out.trans (HX5.out.trans HX6.out)))).mono ?_
                      rintro e wl ⟨rfl, hxl⟩
                      have HXL := Lib.hid (((HXT.out.trans (HX5.out.trans HX6.out))).trans hxl)
                      clear hxl
                      go_wp2_with fail
                      exact ret_one rfl rfl rfl ⟨rfl, HXL.out⟩
                    · have hlb2 : le = lb := h3 (by
                        cases cs with
                        | none => cases hgb
                        | some c =>
                          simp at hgb
                          rw [hgb])
                      clear h3 hgb
                      have HCI := Lib.hid (c_ints pc pb cc cb (le.map Int.ofNat) (lb.map Int.ofNat) w6 (by have := (IRow.of_nat HOC.out).ext HX6.out; rwa [List.length_map]) (by have := (IRow.of_nat HOB3.out).ext HX6.out; rwa [List.length_map]) (by rw [List.length_map]; omega))
                      rw [decide_eq_true (by rw [hlb2]), List.length_map, List.length_map] at HCI
                      clear hlb2
                      go_wp2_with fail
                      refine HCI.out.mono ?_
                      rintro e w7 ⟨rfl, hx7⟩
                      have HX7 := Lib.hid (HX6.out.trans hx7)
                      clear hx7
                      go_wp2_with fail
                      refine (HL.out _ ((HXT.out.trans (HX5.out.trans HX7.out)))).mono ?_
                      rintro e wl ⟨rfl, hxl⟩
                      have HXL := Lib.hid (((HXT.out.trans (HX5.out.trans HX7.out))).trans hxl)
                      clear hxl
                      go_wp2_with fail
                      exact ret_one rfl rfl rfl ⟨rfl, HXL.out⟩
                  · have hqb : (((lb.length : Nat) : Int) == (n : Nat)) = false := by simp; omega
                    have hlt : ((n : Nat) : Int) < (lb.length : Nat) := by omega
                    clear hq
                    go_wp2_with fail
                    refine (HL.out _ (HXS.out.trans (HX3.out.trans HX.out))).mono ?_
                    rintro e wl ⟨rfl, hxl⟩
                    have HXL := Lib.hid ((HXS.out.trans (HX3.out.trans HX.out)).trans hxl)
                    clear hxl
                    go_wp2_with fail
                    exact ret_one rfl rfl rfl ⟨rfl, HXL.out⟩
            · have hb : (c1 != 0) = true := bne_iff_ne.2 h1
              clear HF h1
              go_wp2_with fail
              refine (HL.out _ (HXS.out.trans HX3.out)).mono ?_
              rintro e wl ⟨rfl, hxl⟩
              have HXL := Lib.hid ((HXS.out.trans HX3.out).trans hxl)
              clear hxl
              go_wp2_with fail
              exact ret_one rfl rfl rfl ⟨rfl, HXL.out⟩
          · have hb : (c0 != 0) = true := bne_iff_ne.2 h0
            clear HF h0
            go_wp2_with fail
            refine (HL.out _ (HXS.out.trans HX3.out)).mono ?_
            rintro e wl ⟨rfl, hxl⟩
            have HXL := Lib.hid ((HXS.out.trans HX3.out).trans hxl)
            clear hxl
            go_wp2_with fail
            exact ret_one rfl rfl rfl ⟨rfl, HXL.out⟩
end Go.Proofs.YtlmkbldiicbejaaGreatDoor
