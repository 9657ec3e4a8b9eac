/-
  TableMaps.
-/
import Derived.Test.YtbbemipidkhmfaaAsks
import Derived.Test.YtbbemipidkhmfaaBoth
import Derived.Test.YtbbemipidkhmfaaRefMap
namespace Go.Proofs.Ytbbemipidkhmfaa
open Go.RowKit Go.Maps Go.Shelf

theorem cls_map {m : List Int} {rest r : Int} : ∀ {l : List Rng}, clsOf (l.map (remap m)) (toOf m rest) r = toOf m (clsOf l rest r)
  | [] => rfl
  | x :: t => by
    rw [List.map_cons, clsOf, clsOf]
    show (if x.lo ≤ r ∧ r ≤ x.hi then toOf m x.cl else _) = _
    split
    · rfl
    · exact cls_map
theorem cls_all {rest r : Int} {L : List Rng} (h : NF rest L) (hr : 0 ≤ rest ∧ rest ≤ 255) (h0 : 0 ≤ r) (h1 : r < 1114112) : clsOf (allGo rest 0 L) rest r = clsOf L rest r := by
  obtain ⟨h2, h3⟩ := h.all
  obtain ⟨x, hx, ha⟩ := h2.cover r h0 h1
  have hv := h2.val x hx
  rw [hv.2.2.2 r ha.1 ha.2]
  have := (h2.asc (fun _ => true) (h.bound hr) (by omega)).rise (by omega)
  rw [List.filter_eq_self.2 (by simp)] at this
  exact clsOf_mem (rise_apart this.1) hx ha.1 ha.2
set_option maxRecDepth 100000 in
set_option maxHeartbeats 8000000 in
theorem c_Maps (v tv : Value) (l : List Rng) (rest : Int) (tl : List Int) (w : World) (h : RgRow w v l) (ht : IRow .i64 w tv tl) :
    Calls Try.prog 7 #[v, .int .i64 rest, tv] w fun e w' => e = .returned (.bool true) ∧ Ext w w' := by
  obtain ⟨p, cap, rfl⟩ : ∃ p cap, v = .slice p l.length cap := by obtain ⟨p, cap, e, _⟩ := h; exact ⟨p, cap, e⟩
  obtain ⟨tp, tcap, rfl⟩ : ∃ p cap, tv = .slice p tl.length cap := by obtain ⟨p, cap, e, _⟩ := ht; exact ⟨p, cap, e⟩
  by_cases hln : (300 : Int) < (l.length : Nat)
  · go_enter Try.func7, Try.ntmps7
    go_wp2_with fail
    refine (c_live w).mono ?_
    rintro e w2 ⟨rfl, hx2⟩
    go_wp2_with fail
    go_ret
    exact ⟨rfl, hx2⟩
  by_cases htn : (2000 : Int) < (tl.length : Nat)
  · go_enter Try.func7, Try.ntmps7
    go_wp2_with fail
    refine (c_live w).mono ?_
    rintro e w2 ⟨rfl, hx2⟩
    go_wp2_with fail
    go_ret
    exact ⟨rfl, hx2⟩
  go_enter Try.func7, Try.ntmps7
  go_wp2_with fail
  refine (c_both _ l rest w h (by omega)).mono ?_
  rintro e w1 ⟨hx1, (rfl | ⟨T, Y, L, rfl, htb, href, hcl⟩)⟩
  · go_wp2_with fail
    refine (c_live w1).mono ?_
    rintro e w2 ⟨rfl, hx2⟩
    go_wp2_with fail
    go_ret
    exact ⟨rfl, Ext.trans hx1 hx2⟩
  obtain ⟨T, U, ix, ob, oc, ub, uc, rfl, htab⟩ := htb
  have hv : ∃ Y', Y = .pointer (some ⟨Y', 0, none⟩) := by obtain ⟨Y, _, e, _⟩ := href; exact ⟨Y, e⟩
  obtain ⟨Y, rfl⟩ := hv
  have hnf : NF rest L := by obtain ⟨_, _, _, _, _, _, hnf, _⟩ := href; exact hnf
  have hLl := hnf.len
  have HNF := Lib.hid hnf
  have HCL := Lib.hid hcl
  clear hnf hcl
  have htw := ht.mono hx1
  have hxA := (Ext.refl w1).alloc (.cells #[] 3)
  have hown : (w1.alloc (.cells #[] 3)).ownsRow w1.heap.size 3 1 (.slice (some ⟨w1.heap.size, 0, none⟩) 0 0) 0 [] := ⟨rfl, .inr ⟨_, 0, _, rfl, Nat.le_refl _, World.alloc_heap_new w1 _, Nat.le_refl _, by decide, rfl, rfl⟩⟩
  obtain ⟨i0, hi0, hz0, hz1, hz2⟩ := info_parts infoIp
  cases tp with
  | none =>
    have hl0 : tl = [] := by
      by_cases hl : tl = []
      · exact hl
      · obtain ⟨b, o, e, _⟩ := ht.at hl; cases e
    subst hl0
    go_wp2_with fail
    refine (c_Map (.slice (some ⟨w1.heap.size, 0, none⟩) 0 0) [] _ (htab.ext hxA) ⟨_, _, rfl, Nat.le_refl _, fun h => absurd rfl h⟩ (by omega)).mono ?_
    rintro e w3 ⟨hx3, R, hR, hres⟩
    have hx13 := Ext.trans hxA hx3
    have hrun := HNF.out.all.1
    have hRA : R = allGo rest 0 L := (hR.congr fun r _ _ => (HCL.out r).symm).unique hrun
    have hbad : badMap [] rest R = badMap [] rest L := by rw [hRA]; exact badMap_rest HNF.out
    rw [hbad] at hres
    have HRA := Lib.hid hRA
    have hxc := Ext.trans hx1 hx13
    clear hbad hRA hR hrun
    rcases hres with ⟨hb, rfl⟩ | ⟨hb, T', rfl, ht'⟩
    · have HB := Lib.hid hb
      clear hb
      go_wp2_with fail
      refine (c_RMap _ [] _ (href.ext hx13) (ht.mono hxc) (by omega) hLl).mono ?_
      rintro e w4 ⟨hx4, (⟨-, rfl⟩ | ⟨hb, -⟩)⟩
      · go_wp2_with fail
        refine (c_num 30 w4).mono ?_
        rintro e w4 ⟨rfl, rfl⟩
        go_wp2_with fail
        refine (c_asks _ _ (htab.ext (Ext.trans hx13 hx4)) (href.ext (Ext.trans hx13 hx4)) hLl (fun r _ _ => (HCL.out r).symm) (rs := []) ⟨_, _, rfl, Nat.le_refl _, fun h => absurd rfl h⟩ (by simp) (by decide)).mono ?_
        rintro e w5 ⟨rfl, hx5⟩
        go_wp2_with fail
        refine (c_live w5).mono ?_
        rintro e w6 ⟨rfl, hx6⟩
        go_wp2_with fail
        go_ret
        exact ⟨rfl, Ext.trans hxc (Ext.trans (Ext.trans hx4 hx5) hx6)⟩
      · rw [HB.out] at hb
        cases hb
    · obtain ⟨T', U', ix', ob', oc', ub', uc', rfl, htab'⟩ := ht'
      have HB := Lib.hid hb
      clear hb
      go_wp2_with fail
      refine (c_RMap _ [] _ (href.ext hx13) (ht.mono hxc) (by omega) hLl).mono ?_
      rintro e w4 ⟨hx4, (⟨hb, -⟩ | ⟨-, Y', rfl, href', hN2⟩)⟩
      · rw [HB.out] at hb
        cases hb
      have HN2 := Lib.hid hN2
      have hnf' := Lib.hid (show NF _ _ from by obtain ⟨_, _, _, _, _, _, hnf, _⟩ := href'; exact hnf)
      have hv' : ∃ Y, Y' = .pointer (some ⟨Y, 0, none⟩) := by obtain ⟨Y, _, e, _⟩ := href'; exact ⟨Y, e⟩
      obtain ⟨Y', rfl⟩ := hv'
      clear hN2
      go_wp2_with fail
      refine (c_num 0 w4).mono ?_
      rintro e w4 ⟨rfl, rfl⟩
      go_wp2_with fail
      refine (c_asks _ _ (htab'.ext hx4) href' hnf'.out.len (fun r h0 h1 => ?_) (rs := []) ⟨_, _, rfl, Nat.le_refl _, fun h => absurd rfl h⟩ (by simp) (by decide)).mono ?_
      · rw [HN2.out, cls_map, cls_map, HRA.out, cls_all HNF.out htab.r0 h0 h1]
      rintro e w5 ⟨rfl, hx5⟩
      go_wp2_with fail
      have hx15 := Ext.trans (Ext.trans hx13 hx4) hx5
      refine (c_asks _ _ (htab.ext hx15) (href.ext hx15) hLl (fun r _ _ => (HCL.out r).symm) (rs := []) ⟨_, _, rfl, Nat.le_refl _, fun h => absurd rfl h⟩ (by simp) (by decide)).mono ?_
      rintro e w6 ⟨rfl, hx6⟩
      go_wp2_with fail
      refine (c_live w6).mono ?_
      rintro e w7 ⟨rfl, hx7⟩
      go_wp2_with fail
      go_ret
      exact ⟨rfl, Ext.trans hx1 (Ext.trans (Ext.trans hx15 hx6) hx7)⟩
  | some a =>
    have hA : ∀ j u, (nV .i64 tl)[j]? = some u → (w1.alloc (.cells #[] 3)).cell? (a.add j) = some u := by
      intro j u hu
      have hj : j < tl.length := by have := (List.getElem?_eq_some_iff.1 hu).1; simpa [nV] using this
      obtain ⟨b, o, e, hc⟩ := (htw.mono hxA).at (by intro e; rw [e] at hj; simp at hj)
      cases e
      have hadd : (⟨b, o, none⟩ : Addr).add j = ⟨b, o + j, none⟩ := by unfold Addr.add; split <;> simp_all
      rw [hadd, hc j hj, ← hu]
      simp [nV, hj]
    go_wp2_with (at_builtin; refine wpList_append_own _ rfl (.tmp 40) (.tmp 41) 26 rfl w1.heap.size 3 i0 (.int .i64 0) 1 8 Try.underlying26 hi0 hz0 hz1 hz2 rfl (by decide) _ 0 [] rfl hown a tl.length tcap (nV .i64 tl) rfl (by rw [nV_length]; omega) hA (by intro u hu; simp only [nV, List.mem_map] at hu; obtain ⟨x, _, rfl⟩ := hu; rfl) (by unfold maxLen; omega) (by omega) (by simp) ?_; intro v' w2 hown' hgrow _; have hx2 : Ext w1 w2 := Below.grown hxA hgrow (by simp) (fun k e => (hown.lt k e).1); rw [Nat.zero_add, List.nil_append] at hown'; clear hgrow hown hxA hA)
    refine (c_Map v' tl _ (htab.ext hx2) (IRow.of_own hown') (by omega)).mono ?_
    rintro e w3 ⟨hx3, R, hR, hres⟩
    have hx13 := Ext.trans hx2 hx3
    have hrun := HNF.out.all.1
    have hRA : R = allGo rest 0 L := (hR.congr fun r _ _ => (HCL.out r).symm).unique hrun
    have hbad : badMap tl rest R = badMap tl rest L := by rw [hRA]; exact badMap_rest HNF.out
    rw [hbad] at hres
    have HRA := Lib.hid hRA
    have hxc := Ext.trans hx1 hx13
    clear hbad hRA hR hrun
    rcases hres with ⟨hb, rfl⟩ | ⟨hb, T', rfl, ht'⟩
    · have HB := Lib.hid hb
      clear hb
      go_wp2_with fail
      refine (c_RMap _ tl _ (href.ext hx13) (ht.mono hxc) (by omega) hLl).mono ?_
      rintro e w4 ⟨hx4, (⟨-, rfl⟩ | ⟨hb, -⟩)⟩
      · go_wp2_with fail
        refine (c_num 30 w4).mono ?_
        rintro e w4 ⟨rfl, rfl⟩
        go_wp2_with fail
        refine (c_asks _ _ (htab.ext (Ext.trans hx13 hx4)) (href.ext (Ext.trans hx13 hx4)) hLl (fun r _ _ => (HCL.out r).symm) (rs := []) ⟨_, _, rfl, Nat.le_refl _, fun h => absurd rfl h⟩ (by simp) (by decide)).mono ?_
        rintro e w5 ⟨rfl, hx5⟩
        go_wp2_with fail
        refine (c_live w5).mono ?_
        rintro e w6 ⟨rfl, hx6⟩
        go_wp2_with fail
        go_ret
        exact ⟨rfl, Ext.trans hxc (Ext.trans (Ext.trans hx4 hx5) hx6)⟩
      · rw [HB.out] at hb
        cases hb
    · obtain ⟨T', U', ix', ob', oc', ub', uc', rfl, htab'⟩ := ht'
      have HB := Lib.hid hb
      clear hb
      go_wp2_with fail
      refine (c_RMap _ tl _ (href.ext hx13) (ht.mono hxc) (by omega) hLl).mono ?_
      rintro e w4 ⟨hx4, (⟨hb, -⟩ | ⟨-, Y', rfl, href', hN2⟩)⟩
      · rw [HB.out] at hb
        cases hb
      have HN2 := Lib.hid hN2
      have hnf' := Lib.hid (show NF _ _ from by obtain ⟨_, _, _, _, _, _, hnf, _⟩ := href'; exact hnf)
      have hv' : ∃ Y, Y' = .pointer (some ⟨Y, 0, none⟩) := by obtain ⟨Y, _, e, _⟩ := href'; exact ⟨Y, e⟩
      obtain ⟨Y', rfl⟩ := hv'
      clear hN2
      go_wp2_with fail
      refine (c_num 0 w4).mono ?_
      rintro e w4 ⟨rfl, rfl⟩
      go_wp2_with fail
      refine (c_asks _ _ (htab'.ext hx4) href' hnf'.out.len (fun r h0 h1 => ?_) (rs := []) ⟨_, _, rfl, Nat.le_refl _, fun h => absurd rfl h⟩ (by simp) (by decide)).mono ?_
      · rw [HN2.out, cls_map, cls_map, HRA.out, cls_all HNF.out htab.r0 h0 h1]
      rintro e w5 ⟨rfl, hx5⟩
      go_wp2_with fail
      have hx15 := Ext.trans (Ext.trans hx13 hx4) hx5
      refine (c_asks _ _ (htab.ext hx15) (href.ext hx15) hLl (fun r _ _ => (HCL.out r).symm) (rs := []) ⟨_, _, rfl, Nat.le_refl _, fun h => absurd rfl h⟩ (by simp) (by decide)).mono ?_
      rintro e w6 ⟨rfl, hx6⟩
      go_wp2_with fail
      refine (c_live w6).mono ?_
      rintro e w7 ⟨rfl, hx7⟩
      go_wp2_with fail
      go_ret
      exact ⟨rfl, Ext.trans hx1 (Ext.trans (Ext.trans hx15 hx6) hx7)⟩
end Go.Proofs.Ytbbemipidkhmfaa
