/-
  TablePairs.
-/
import Derived.Test.YtbbemipidkhmfaaAsks
import Derived.Test.YtbbemipidkhmfaaBoth
import Derived.Test.YtbbemipidkhmfaaRefPb
import Derived.Test.YtbbemipidkhmfaaPairB
namespace Go.Proofs.Ytbbemipidkhmfaa
open Go.RowKit Go.Maps Go.Shelf

set_option maxRecDepth 100000 in
set_option maxHeartbeats 4000000 in
theorem c_two (v1 v2 : Value) (D : List (Int × Int)) (w : World) (h1 : TwRow w v1 D) (h2 : TwRow w v2 D) (hn : D.length ≤ 2000000) :
    Calls Try.prog 33 #[v1, v2] w fun e w' => e = .returned (.bool true) ∧ Ext w w' := by
  obtain ⟨p1, cap1, rfl⟩ : ∃ p cap, v1 = .slice p D.length cap := by obtain ⟨p, cap, e, _⟩ := h1; exact ⟨p, cap, e⟩
  obtain ⟨p2, cap2, rfl⟩ : ∃ p cap, v2 = .slice p D.length cap := by obtain ⟨p, cap, e, _⟩ := h2; exact ⟨p, cap, e⟩
  have hlb : (((D.length : Nat) : Int) != ((D.length : Nat) : Int)) = false := bne_self_eq_false _
  go_enter Try.func33, Try.ntmps33
  go_wp2_with fail
  go_loopw [5] (fun k w' => ∃ i : Nat, k = .int .i64 (i : Nat) ∧ i ≤ D.length ∧ Ext w w') (fun k _ => D.length + 1 - (intOf k).toNat)
  case atStart => exact ⟨0, rfl, by omega, Ext.refl w⟩
  case round =>
    obtain ⟨i, rfl, hi, hx⟩ := hrel
    by_cases hlt : i < D.length
    · obtain ⟨b1, o1, rfl, hc1⟩ := (h1.mono hx).at (by intro e; rw [e] at hlt; simp at hlt)
      obtain ⟨b2, o2, rfl, hc2⟩ := (h2.mono hx).at (by intro e; rw [e] at hlt; simp at hlt)
      obtain ⟨a1, a2⟩ := hc1 i hlt
      obtain ⟨d1, d2⟩ := hc2 i hlt
      obtain ⟨x, hxe⟩ : ∃ x, D[i] = x := ⟨_, rfl⟩
      rw [hxe] at a1 a2 d1 d2
      have hd : decide (i < D.length) = true := decide_eq_true hlt
      have i1 : ((i : Nat) : Int) < (D.length : Nat) := by omega
      have hne := run_neqTw x x
      rw [eqTw_true.2 rfl] at hne
      have k1 : ∀ w', EOn (fun _ => True) wr w' → w'.cell? ⟨b1, o1 + i * 2, none⟩ = _ := fun w' hx => hx.cell trivial a1
      have k2 : ∀ w', EOn (fun _ => True) wr w' → w'.cell? ⟨b1, o1 + i * 2 + 1, none⟩ = _ := fun w' hx => hx.cell trivial a2
      have k3 : ∀ w', EOn (fun _ => True) wr w' → w'.cell? ⟨b2, o2 + i * 2, none⟩ = _ := fun w' hx => hx.cell trivial d1
      have k4 : ∀ w', EOn (fun _ => True) wr w' → w'.cell? ⟨b2, o2 + i * 2 + 1, none⟩ = _ := fun w' hx => hx.cell trivial d2
      clear hxe hc1 hc2 a1 a2 d1 d2
      go_wp2_with fail
      refine wp_lex (fun _ => True) [true, true, true, true, true, true, true, true, true] (by kernel_rfl) (by kernel_rfl) ?_
      repeat first
        | refine wpG_move (by rfl) (by simp only [Act.eval, Array.getD_eq_getD_getElem?, List.getElem?_toArray, List.getElem?_cons_succ, List.getElem?_cons_zero, Option.getD_some]; try rfl) (by simp only [Act.put, List.setIfInBounds_toArray, List.set_cons_succ, List.set_cons_zero]; rfl) ?_
        | refine wpG_assign (by rfl) (by simp only [Act.eval, Array.getD_eq_getD_getElem?, List.getElem?_toArray, List.getElem?_cons_succ, List.getElem?_cons_zero, Option.getD_some]; try rfl) (by simp only [Act.put, List.setIfInBounds_toArray, List.set_cons_succ, List.set_cons_zero]; rfl) ?_
        | refine wpG_val (by rfl) (fun w' hx => (by go_simp; first | (go_bits; first | exact rfl | exact ⟨by omega, rfl⟩) | exact rfl | exact (if_neg (by omega)).trans rfl | exact ⟨by omega, rfl⟩)) (by simp only [Act.put, List.setIfInBounds_toArray, List.set_cons_succ, List.set_cons_zero]; rfl) ?_
        | refine wpG_no (by rfl) (by simp only [Act.put, List.setIfInBounds_toArray, List.set_cons_succ, List.set_cons_zero]; rfl) ?_
      refine wpG_end (fun w6 hx6 => wpList_nil (gQ_normal ?_))
      go_wp2_with fail
      exact ⟨⟨i + 1, by simp, by omega, Ext.trans hx hx6⟩, by simp [intOf]; omega⟩
    · have hd : decide (i < D.length) = false := decide_eq_false hlt
      go_wp2_with fail
      go_ret
      exact ⟨rfl, hx⟩
set_option maxRecDepth 100000 in
set_option maxHeartbeats 8000000 in
theorem c_Pairs (v v' : Value) (l m : List Rng) (rest other : Int) (w : World) (h : RgRow w v l) (h' : RgRow w v' m) :
    Calls Try.prog 8 #[v, .int .i64 rest, v', .int .i64 other] w fun e w' => e = .returned (.bool true) ∧ Ext w w' := by
  obtain ⟨p, cap, rfl⟩ : ∃ p cap, v = .slice p l.length cap := by obtain ⟨p, cap, e, _⟩ := h; exact ⟨p, cap, e⟩
  obtain ⟨p', cap', rfl⟩ : ∃ p cap, v' = .slice p m.length cap := by obtain ⟨p, cap, e, _⟩ := h'; exact ⟨p, cap, e⟩
  by_cases hln : (300 : Int) < (l.length : Nat)
  · go_enter Try.func8, Try.ntmps8
    go_wp2_with fail
    refine (c_live w).mono ?_
    rintro e w2 ⟨rfl, hx2⟩
    go_wp2_with fail
    go_ret
    exact ⟨rfl, hx2⟩
  by_cases hmn : (300 : Int) < (m.length : Nat)
  · go_enter Try.func8, Try.ntmps8
    go_wp2_with fail
    refine (c_live w).mono ?_
    rintro e w2 ⟨rfl, hx2⟩
    go_wp2_with fail
    go_ret
    exact ⟨rfl, hx2⟩
  go_enter Try.func8, Try.ntmps8
  go_wp2_with fail
  refine (c_both _ l rest w h (by omega)).mono ?_
  rintro e w1 ⟨hx1, hb1⟩
  rcases hb1 with rfl | ⟨T1, Y1, L1, rfl, htb1, href1, hcl1⟩
  · go_wp2_with fail
    refine (c_both _ m other w1 (h'.mono hx1) (by omega)).mono ?_
    rintro e w2 ⟨hx2, hb2⟩
    rcases hb2 with rfl | ⟨T2, Y2, L2, rfl, htb2, href2, hcl2⟩
    · go_wp2_with fail
      refine (c_live w2).mono ?_
      rintro e w3 ⟨rfl, hx3⟩
      go_wp2_with fail
      go_ret
      exact ⟨rfl, Ext.trans (Ext.trans hx1 hx2) hx3⟩
    · obtain ⟨T2, U2, ix2, ob2, oc2, ub2, uc2, rfl, htab2⟩ := htb2
      obtain ⟨Y2, rfl⟩ : ∃ Y', Y2 = .pointer (some ⟨Y', 0, none⟩) := by obtain ⟨Y, _, e, _⟩ := href2; exact ⟨Y, e⟩
      go_wp2_with fail
      refine (c_live w2).mono ?_
      rintro e w3 ⟨rfl, hx3⟩
      go_wp2_with fail
      go_ret
      exact ⟨rfl, Ext.trans (Ext.trans hx1 hx2) hx3⟩
  obtain ⟨T1, U1, ix1, ob1, oc1, ub1, uc1, rfl, htab1⟩ := htb1
  obtain ⟨Y1, rfl⟩ : ∃ Y', Y1 = .pointer (some ⟨Y', 0, none⟩) := by obtain ⟨Y, _, e, _⟩ := href1; exact ⟨Y, e⟩
  go_wp2_with fail
  refine (c_both _ m other w1 (h'.mono hx1) (by omega)).mono ?_
  rintro e w2 ⟨hx2, hb2⟩
  rcases hb2 with rfl | ⟨T2, Y2, L2, rfl, htb2, href2, hcl2⟩
  · go_wp2_with fail
    refine (c_live w2).mono ?_
    rintro e w3 ⟨rfl, hx3⟩
    go_wp2_with fail
    go_ret
    exact ⟨rfl, Ext.trans (Ext.trans hx1 hx2) hx3⟩
  obtain ⟨T2, U2, ix2, ob2, oc2, ub2, uc2, rfl, htab2⟩ := htb2
  obtain ⟨Y2, rfl⟩ : ∃ Y', Y2 = .pointer (some ⟨Y', 0, none⟩) := by obtain ⟨Y, _, e, _⟩ := href2; exact ⟨Y, e⟩
  have hnf1 : NF rest L1 := by obtain ⟨_, _, _, _, _, _, hnf, _⟩ := href1; exact hnf
  have hnf2 : NF other L2 := by obtain ⟨_, _, _, _, _, _, hnf, _⟩ := href2; exact hnf
  have hLl1 := hnf1.len
  have hLl2 := hnf2.len
  replace htab1 := htab1.ext hx2
  replace href1 := href1.ext hx2
  have hx02 := Ext.trans hx1 hx2
  have HNF1 := Lib.hid hnf1
  have HNF2 := Lib.hid hnf2
  have HCL1 := Lib.hid hcl1
  have HCL2 := Lib.hid hcl2
  have hrun1 : RunsFrom (clsOf l rest) 0 1114112 (allGo rest 0 L1) := hnf1.all.1.congr fun r _ _ => HCL1.out r
  have hrun2 : RunsFrom (clsOf m other) 0 1114112 (allGo other 0 L2) := hnf2.all.1.congr fun r _ _ => HCL2.out r
  have HRUN1 := Lib.hid hrun1
  have HRUN2 := Lib.hid hrun2
  obtain ⟨bb, hbb⟩ : ∃ bb : Bool, bb = true ↔ rest = other ∧ L1 = L2 := ⟨@decide (rest = other ∧ L1 = L2) (Classical.propDecidable _), by simp⟩
  have HRQ := Lib.hid hbb
  have HEQ : Hid (bb = true ↔ rest = other ∧ ∀ q, RunsFrom (clsOf l rest) 0 1114112 q → RunsFrom (clsOf m other) 0 1114112 q) := Lib.hid (by
    rw [hbb]
    constructor
    · rintro ⟨rfl, rfl⟩
      exact ⟨rfl, fun q hq => hq.congr fun r _ _ => (HCL1.out r).symm.trans (HCL2.out r)⟩
    · rintro ⟨rfl, hq⟩
      have e : allGo rest 0 L1 = allGo rest 0 L2 := (hq _ HRUN1.out).unique HRUN2.out
      exact ⟨rfl, HNF1.out.all.2.symm.trans ((congrArg (List.filter _) e).trans HNF2.out.all.2)⟩)
  clear hnf1 hnf2 hcl1 hcl2 hrun1 hrun2 hbb
  go_wp2_with fail
  refine (c_Pair w2 htab1 htab2).mono ?_
  rintro e w3 ⟨hx3, R1, R2, hR1, hR2, hres⟩
  have hRA1 : R1 = allGo rest 0 L1 := hR1.unique HRUN1.out
  have hRA2 : R2 = allGo other 0 L2 := hR2.unique HRUN2.out
  rw [hRA1, hRA2] at hres
  clear hR1 hR2 hRA1 hRA2
  obtain ⟨PR, hPR⟩ : ∃ PR, pairOf (allGo rest 0 L1) (allGo other 0 L2) rest other = PR := ⟨_, rfl⟩
  have HPR := Lib.hid hPR
  rw [hPR] at hres
  clear hPR
  rcases hres with ⟨hmany, rfl⟩ | ⟨hfew, T, tv, rfl, htb, hrowP, hrise, hpr⟩
  · have HM := Lib.hid hmany
    clear hmany
    go_wp2_with fail
    refine (c_RPair w3 (href1.ext hx3) (href2.ext hx3) hLl1 hLl2).mono ?_
    rintro e w4 ⟨hx4, hr4⟩
    rw [HPR.out] at hr4
    rcases hr4 with ⟨-, rfl⟩ | ⟨hf, -⟩
    · go_wp2_with fail
      refine (c_num 6 w4).mono ?_
      rintro e w4 ⟨rfl, rfl⟩
      go_wp2_with fail
      refine (c_two _ _ [] w4 ⟨_, _, rfl, Nat.le_refl _, fun h => absurd rfl h⟩ ⟨_, _, rfl, Nat.le_refl _, fun h => absurd rfl h⟩ (by simp)).mono ?_
      rintro e w5 ⟨rfl, hx5⟩
      have hx25 := Ext.trans (Ext.trans hx3 hx4) hx5
      go_wp2_with fail
      refine (c_Equal bb _ (htab1.ext hx25) (htab2.ext hx25) HEQ.out).mono ?_
      rintro e w6 ⟨rfl, hx6⟩
      go_wp2_with fail
      refine (c_REqual bb _ (href1.ext (Ext.trans hx25 hx6)) (href2.ext (Ext.trans hx25 hx6)) HRQ.out hLl1).mono ?_
      rintro e w7 ⟨rfl, hx7⟩
      have hbb : (bb != bb) = false := bne_self_eq_false _
      go_wp2_with fail
      refine (c_Equal true _ (htab1.ext (Ext.trans (Ext.trans hx25 hx6) hx7)) (htab1.ext (Ext.trans (Ext.trans hx25 hx6) hx7)) ⟨fun _ => ⟨rfl, fun _ h => h⟩, fun _ => rfl⟩).mono ?_
      rintro e w8 ⟨rfl, hx8⟩
      go_wp2_with fail
      refine (c_live w8).mono ?_
      rintro e w9 ⟨rfl, hx9⟩
      go_wp2_with fail
      go_ret
      exact ⟨rfl, Ext.trans hx02 (Ext.trans hx25 (Ext.trans hx6 (Ext.trans hx7 (Ext.trans hx8 hx9))))⟩
    · exact absurd HM.out (by omega)
  · obtain ⟨T, U, ix, ob, oc, ub, uc, rfl, htab⟩ := htb
    obtain ⟨pp, pc, rfl⟩ := own_slice hrowP
    have HFEW := Lib.hid hfew
    have HRISE := Lib.hid hrise
    clear hfew hrise hpr
    go_wp2_with fail
    refine (c_RPair w3 (href1.ext hx3) (href2.ext hx3) hLl1 hLl2).mono ?_
    rintro e w4 ⟨hx4, hr4⟩
    rw [HPR.out] at hr4
    rcases hr4 with ⟨hf, -⟩ | ⟨-, Y, tv, rfl, href, hrowQ⟩
    · exact absurd HFEW.out (by omega)
    obtain ⟨Y, rfl⟩ : ∃ Y', Y = .pointer (some ⟨Y', 0, none⟩) := by obtain ⟨Y, _, e, _⟩ := href; exact ⟨Y, e⟩
    obtain ⟨qp, qc, rfl⟩ := own_slice hrowQ
    have hrowP4 := TwRow.mono hx4 (TwRow.of_own hrowP)
    have hrowQ4 := TwRow.of_own hrowQ
    have hlen := HFEW.out
    have hnf' := Lib.hid (show NF _ _ from by obtain ⟨_, _, _, _, _, _, hnf, _⟩ := href; exact hnf)
    clear hrowP hrowQ
    go_wp2_with fail
    refine (c_num 0 w4).mono ?_
    rintro e w4 ⟨rfl, rfl⟩
    go_wp2_with fail
    refine (c_two _ _ _ w4 hrowP4 hrowQ4 (by omega)).mono ?_
    rintro e w5 ⟨rfl, hx5⟩
    have hx25 := Ext.trans (Ext.trans hx3 hx4) hx5
    clear hrowP4 hrowQ4
    go_wp2_with fail
    refine (c_Equal bb _ (htab1.ext hx25) (htab2.ext hx25) HEQ.out).mono ?_
    rintro e w6 ⟨rfl, hx6⟩
    go_wp2_with fail
    refine (c_REqual bb _ (href1.ext (Ext.trans hx25 hx6)) (href2.ext (Ext.trans hx25 hx6)) HRQ.out hLl1).mono ?_
    rintro e w7 ⟨rfl, hx7⟩
    have hbb : (bb != bb) = false := bne_self_eq_false _
    go_wp2_with fail
    refine (c_Equal true _ (htab1.ext (Ext.trans (Ext.trans hx25 hx6) hx7)) (htab1.ext (Ext.trans (Ext.trans hx25 hx6) hx7)) ⟨fun _ => ⟨rfl, fun _ h => h⟩, fun _ => rfl⟩).mono ?_
    rintro e w8 ⟨rfl, hx8⟩
    go_wp2_with fail
    have hx58 := Ext.trans hx5 (Ext.trans hx6 (Ext.trans hx7 hx8))
    refine (c_asks _ _ (htab.ext (Ext.trans hx4 hx58)) (href.ext hx58) hnf'.out.len (fun r h0 h1 => ((normOf_spec HRISE.out).2.1 r).symm) (rs := []) ⟨_, _, rfl, Nat.le_refl _, fun h => absurd rfl h⟩ (by simp) (by decide)).mono ?_
    rintro e w9 ⟨rfl, hx9⟩
    go_wp2_with fail
    refine (c_live w9).mono ?_
    rintro e w10 ⟨rfl, hx10⟩
    go_wp2_with fail
    go_ret
    exact ⟨rfl, Ext.trans hx02 (Ext.trans (Ext.trans (Ext.trans hx3 hx4) hx58) (Ext.trans hx9 hx10))⟩
end Go.Proofs.Ytbbemipidkhmfaa
