/-
  TableBuilds.
-/
import Derived.Test.YtbbemipidkhmfaaAsks
import Derived.Test.YtbbemipidkhmfaaRefH
import Derived.Test.YtbbemipidkhmfaaOwn
import Derived.Test.YtbbemipidkhmfaaOff
namespace Go.Proofs.Ytbbemipidkhmfaa
open Go.RowKit Go.Maps Go.Shelf

theorem sumR_zero {c : Int} : ∀ {R : List Rng}, (∀ x ∈ R, x.cl ≠ c) → sumR c R = 0
  | [], _ => rfl
  | x :: t, h => by rw [sumR, if_neg (h x (by simp)), sumR_zero fun y hy => h y (by simp [hy])]
theorem NF.len {rest : Int} {L : List Rng} (h : NF rest L) : L.length ≤ 2000000 := by
  have h1 := h.all
  have h2 := h1.1.le
  have h3 := List.length_filter_le (fun x => !(x.cl == rest)) (allGo rest 0 L)
  rw [h1.2] at h3
  omega
set_option maxRecDepth 100000 in
set_option maxHeartbeats 8000000 in
theorem c_Builds (v rv : Value) (l : List Rng) (rest : Int) (rs : List Int) (s : ByteArray) (w : World) (h : RgRow w v l) (hr : IRow .i32 w rv rs) :
    Calls Try.prog 5 #[v, .int .i64 rest, rv, .string s] w fun e w' => e = .returned (.bool true) ∧ Ext w w' := by
  obtain ⟨p, cap, rfl⟩ : ∃ p cap, v = .slice p l.length cap := by obtain ⟨p, cap, e, _⟩ := h; exact ⟨p, cap, e⟩
  obtain ⟨q, rcap, rfl⟩ : ∃ p cap, rv = .slice p rs.length cap := by obtain ⟨p, cap, e, _⟩ := hr; exact ⟨p, cap, e⟩
  by_cases hln : (300 : Int) < (l.length : Nat)
  · go_enter Try.func5, Try.ntmps5
    go_wp2_with fail
    refine (c_live w).mono ?_
    rintro e w2 ⟨rfl, hx2⟩
    go_wp2_with fail
    go_ret
    exact ⟨rfl, hx2⟩
  by_cases hrn : (2000 : Int) < (rs.length : Nat)
  · go_enter Try.func5, Try.ntmps5
    go_wp2_with fail
    refine (c_live w).mono ?_
    rintro e w2 ⟨rfl, hx2⟩
    go_wp2_with fail
    go_ret
    exact ⟨rfl, hx2⟩
  by_cases hsn : (2000 : Int) < (s.size : Nat)
  · go_enter Try.func5, Try.ntmps5
    go_wp2_with fail
    refine (c_live w).mono ?_
    rintro e w2 ⟨rfl, hx2⟩
    go_wp2_with fail
    go_ret
    exact ⟨rfl, hx2⟩
  go_enter Try.func5, Try.ntmps5
  go_wp2_with fail
  refine (c_own _ l w h (by omega)).mono ?_
  rintro e w1 ⟨v1, rfl, ho1, hx1⟩
  go_wp2_with fail
  refine (c_Build v1 l rest w1 (RgRow.of_own ho1)).mono ?_
  rintro e w2 ⟨hx2, (⟨hne, rfl⟩ | ⟨he0, T1, rfl, htb, hfr⟩)⟩
  · obtain ⟨e0, he0⟩ : ∃ e0, (checkOf l rest).1 = e0 := ⟨_, rfl⟩
    obtain ⟨e1, he1⟩ : ∃ e1, (checkOf l rest).2 = e1 := ⟨_, rfl⟩
    rw [he0, he1]
    rw [he0] at hne
    have HE0 := Lib.hid he0
    have HE1 := Lib.hid he1
    have HNE := Lib.hid hne
    clear he0 he1 hne
    go_wp2_with fail
    refine (c_RBuild _ l rest w2 (h.mono (Ext.trans hx1 hx2))).mono ?_
    rintro e w3 ⟨hx3, (⟨-, rfl⟩ | ⟨he, -⟩)⟩
    · rw [HE0.out, HE1.out]
      go_wp2_with fail
      refine (c_num e0 w3).mono ?_
      rintro e w3 ⟨rfl, rfl⟩
      have z0 : (e0 != e0) = false := bne_self_eq_false _
      have z1 : (e1 != e1) = false := bne_self_eq_false _
      go_wp2_with fail
      have hx03 := Ext.trans (Ext.trans hx1 hx2) hx3
      refine (c_Same _ _ l l true w3 ((RgRow.of_own ho1).mono (Ext.trans hx2 hx3)) (h.mono hx03) (by simp) (by omega)).mono ?_
      rintro e w4 ⟨rfl, hx4⟩
      go_wp2_with fail
      refine (c_live _).mono ?_
      rintro e w5 ⟨rfl, hx5⟩
      go_wp2_with fail
      go_ret
      exact ⟨rfl, Ext.trans (Ext.trans hx03 hx4) hx5⟩
    · exact absurd (HE0.out.symm.trans he) HNE.out
  obtain ⟨T, U, ix, ob, oc, ub, uc, rfl, htab⟩ := htb
  have HE := Lib.hid he0
  clear he0
  go_wp2_with fail
  refine (c_RBuild _ l rest w2 (h.mono (Ext.trans hx1 hx2))).mono ?_
  rintro e w3 ⟨hx3, (⟨hne, -⟩ | ⟨-, Y, L, rfl, href, hcl⟩)⟩
  · exact absurd HE.out hne
  have HCL := Lib.hid hcl
  clear hcl
  have hnf : NF rest L := by obtain ⟨_, _, _, _, _, _, hnf, _⟩ := href; exact hnf
  have hv : ∃ Y', Y = .pointer (some ⟨Y', 0, none⟩) := by obtain ⟨Y, _, e, _⟩ := href; exact ⟨Y, e⟩
  obtain ⟨Y, rfl⟩ := hv
  have HNF := Lib.hid hnf
  have hLl := hnf.len
  clear hnf
  go_wp2_with fail
  refine (c_num 0 w3).mono ?_
  rintro e w3 ⟨rfl, rfl⟩
  go_wp2_with fail
  have hx03 := Ext.trans (Ext.trans hx1 hx2) hx3
  refine (c_Same _ _ l l true w3 ((RgRow.of_own ho1).mono (Ext.trans hx2 hx3)) (h.mono hx03) (by simp) (by omega)).mono ?_
  rintro e w4 ⟨rfl, hx4⟩
  obtain ⟨p1, cap1, rfl⟩ := own_slice ho1
  have ho4 := ownsRow_ext ho1 (Ext.trans (Ext.trans hx2 hx3) hx4)
  have htab4 := htab.ext (Ext.trans hx3 hx4)
  have hfr4 := hfr.ext (Ext.trans hx3 hx4)
  have href4 := href.ext hx4
  have hx04 := Ext.trans hx03 hx4
  have hsz1 := hx1.sz
  have hsz2 := hx2.sz
  have hlt1 := fun g e => (ho1.lt g e).2
  clear ho1 htab hfr href hx1 hx3 hx4 hx03
  go_wp2_with fail
  go_loopw [16] (fun kv W => ∃ (i : Nat) (m : List Rng), kv = .int .i64 (i : Nat) ∧ i ≤ l.length ∧ m.length = l.length ∧ W.ownsRow w.heap.size 32 3 (.slice p1 l.length cap1) l.length (rgCells m) ∧ Ext w W ∧ (∀ g, (Value.slice p1 l.length cap1).ownBlock = some g → Off g w4 W) ∧ (p1 = none → Ext w4 W)) (fun kv _ => l.length + 1 - (intOf kv).toNat)
  case atStart => exact ⟨0, l, rfl, by omega, rfl, ho4, hx04, fun g _ => Off.refl g _, fun _ => Ext.refl _⟩
  case round =>
    clear ho4 hx04
    obtain ⟨i, m, rfl, hi, hml, hrow, hx, hoff, hoff0⟩ := hrel
    by_cases hlt : i < l.length
    · have hd : decide (i < l.length) = true := decide_eq_true hlt
      have j1 : ((i : Nat) : Int) < (l.length : Nat) := by omega
      obtain ⟨g, cap', e⟩ := ownsRow_pos hrow (by omega)
      cases e
      obtain ⟨n1, n2, n3⟩ := own_setR hrow i (by omega) ⟨0, 0, 99⟩
      have hsz5 := hx.sz
      have hxw6 : Ext w (setR wr g i ⟨0, 0, 99⟩) := Below.trans hx (n2 hsz5)
      have hof6 := (hoff g rfl).trans (Off.of_grown n3)
      clear n2 n3
      go_wp2_with (refine wpList_storeR rfl (.tmp 82) (.tmp 81) rfl (i := i) ⟨0, 0, 99⟩ rfl rfl rfl hrow (by omega) ?_)
      go_roundw
      case rel => exact ⟨i + 1, m.set i ⟨0, 0, 99⟩, by simp, by omega, by simp [hml], n1, hxw6, (fun g' e => by cases e; exact hof6), fun e => by cases e⟩
      case measure => simp [intOf]; omega
    · have hd : decide (i < l.length) = false := decide_eq_false hlt
      obtain ⟨htabN, hrefN⟩ : Tab wr T rest (clsOf l rest) U ix ob oc ub uc ∧ IsRef w2.heap.size wr (.pointer (some ⟨Y, 0, none⟩)) rest L := by
        cases p1 with
        | none =>
          have h0 := hoff0 rfl
          exact ⟨htab4.ext h0, href4.ext h0⟩
        | some a =>
          rcases hrow.2 with ⟨e, _⟩ | ⟨g, _, _, e, _⟩
          · cases e
          · cases e
            have h0 := hoff g rfl
            have hg := hlt1 g rfl
            exact ⟨htab4.off hfr4 hg h0, href4.off (Nat.lt_of_lt_of_le hg hsz2) h0⟩
      have hrun := (HNF.out.all.1).congr (g := clsOf l rest) fun r _ _ => HCL.out r
      have hcnt : ∀ c, total (clsOf l rest) c 8704 = sumR c (allGo rest 0 L) := fun c => total_runs hrun c
      have hzero : ∀ c, (c < 0 ∨ 255 < c) → sumR c (allGo rest 0 L) = 0 := fun c hc => sumR_zero fun x hx => by
        have hb := HNF.out.bound htab4.r0
        obtain ⟨a1, a2, a3, a4⟩ := HNF.out.all.1.val x hx
        have := hb x.lo (by omega) (by omega)
        rw [a4 x.lo (Int.le_refl _) a2] at this
        omega
      have HCNT := Lib.hid hcnt
      have z1 := hzero (-1) (by omega)
      have z2 := hzero 1099511627776 (by omega)
      have HZ1 := Lib.hid z1
      have HZ2 := Lib.hid z2
      clear hrun hcnt hzero z1 z2 hrow hoff hoff0 htab4 hfr4 href4
      go_wp2_with fail
      refine (c_Blocks wr htabN).mono ?_
      rintro e wA ⟨rfl, rfl⟩
      go_wp2_with fail
      refine (c_RBlocks _ hrefN hLl).mono ?_
      rintro e wC ⟨J, rfl, hJ, hxC⟩
      have hUJ : U.length = J.length := hJ.blocks HNF.out.all.1 htabN fun r _ _ => (HCL.out r).symm
      rw [hUJ]
      obtain ⟨bk, hbk⟩ : ∃ bk, J.length = bk := ⟨_, rfl⟩
      rw [hbk]
      have b0 : (((bk : Nat) : Int) != ((bk : Nat) : Int)) = false := bne_self_eq_false _
      clear hbk hUJ hJ
      go_wp2_with fail
      refine (c_Count rest _ (htabN.ext hxC)).mono ?_
      rintro e wD ⟨rfl, hxD⟩
      rw [HCNT.out]
      have hx4 := Ext.trans hxC hxD
      obtain ⟨ct, hct⟩ : ∃ ct, sumR rest (allGo rest 0 L) = ct := ⟨_, rfl⟩
      rw [hct]
      go_wp2_with fail
      refine (c_RCount rest _ (hrefN.ext hx4) hLl).mono ?_
      rintro e wE ⟨rfl, hxE⟩
      rw [hct]
      have b1 : (((ct : Nat) : Int) != ((ct : Nat) : Int)) = false := bne_self_eq_false _
      have hx5 := Ext.trans hx4 hxE
      clear hct hx4 hxC hxD hxE
      go_wp2_with fail
      refine (c_Count (-1) _ (htabN.ext hx5)).mono ?_
      rintro e wF ⟨rfl, hxF⟩
      rw [HCNT.out, HZ1.out]
      have hx6 := Ext.trans hx5 hxF
      clear hx5 hxF
      go_wp2_with fail
      refine (c_Count 1099511627776 _ (htabN.ext hx6)).mono ?_
      rintro e wG ⟨rfl, hxG⟩
      rw [HCNT.out, HZ2.out]
      have hxAK := Ext.trans hx6 hxG
      have hx0L := Ext.trans hx hxAK
      have htabL := htabN.ext hxAK
      have hrefL := hrefN.ext hxAK
      clear b0 b1 hxAK hx6 hxG htabN hrefN hx
      go_wp2_with fail
      go_loopw [17] (fun kv W => ∃ (i : Nat), kv = .int .i64 (i : Nat) ∧ i ≤ l.length ∧ Ext wG W) (fun kv _ => l.length + 1 - (intOf kv).toNat)
      case atStart => exact ⟨0, rfl, by omega, Ext.refl _⟩
      case round =>
        obtain ⟨i, rfl, hi, hx⟩ := hrel
        by_cases hlt : i < l.length
        · have hd : decide (i < l.length) = true := decide_eq_true hlt
          have j1 : ((i : Nat) : Int) < (l.length : Nat) := by omega
          by_cases h20 : ((i : Nat) : Int) < 20
          · obtain ⟨b1, o1, rfl, hc1⟩ := (h.mono (Ext.trans hx0L hx)).at (by intro e; rw [e] at hlt; simp at hlt)
            obtain ⟨a1, a2, a3⟩ := hc1 i hlt
            obtain ⟨x, hxe⟩ : ∃ x, l[i] = x := ⟨_, rfl⟩
            rw [hxe] at a1 a2 a3
            clear hxe hc1
            have k3 : ∀ w', EOn (fun _ => True) wr w' → w'.cell? ⟨b1, o1 + i * 3 + 2, none⟩ = _ := fun w' hx => hx.cell trivial a3
            go_wp2_with fail
            refine wp_perm (fun _ => True) [0, 1, 2, 3, 4, 5, 7, 8, 9, 10, 11, 12, 6, 13, 14] [true, true, true, true, true, true, true, true, true, true, true, true, false, false, true] (by kernel_rfl) (by kernel_rfl) (by simp only [List.map_cons, List.map_nil, nth]; rfl) ?_
            repeat first
              | refine wpG_move (by rfl) (by simp only [Act.eval, Array.getD_eq_getD_getElem?, List.getElem?_toArray, List.getElem?_cons_succ, List.getElem?_cons_zero, Option.getD_some]; try rfl) (by simp only [Act.put, List.setIfInBounds_toArray, List.set_cons_succ, List.set_cons_zero]; rfl) ?_
              | refine wpG_assign (by rfl) (by simp only [Act.eval, Array.getD_eq_getD_getElem?, List.getElem?_toArray, List.getElem?_cons_succ, List.getElem?_cons_zero, Option.getD_some]; try rfl) (by simp only [Act.put, List.setIfInBounds_toArray, List.set_cons_succ, List.set_cons_zero]; rfl) ?_
              | refine wpG_val (by rfl) (fun w' hx => (by go_simp; first | (go_bits; first | exact rfl | exact ⟨by omega, rfl⟩) | exact rfl | exact (if_neg (by omega)).trans rfl | exact ⟨by omega, rfl⟩)) (by simp only [Act.put, List.setIfInBounds_toArray, List.set_cons_succ, List.set_cons_zero]; rfl) ?_
              | refine wpG_no (by rfl) (by simp only [Act.put, List.setIfInBounds_toArray, List.set_cons_succ, List.set_cons_zero]; rfl) ?_
            refine wpG_do (by rfl) (fun wM hxM K hK => ?_)
            go_wp2_with fail
            refine (c_Count x.cl wM (htabL.ext (Ext.trans hx hxM))).mono ?_
            rintro e wN ⟨rfl, hxN⟩
            rw [HCNT.out]
            obtain ⟨ct, hct⟩ : ∃ ct, sumR x.cl (allGo rest 0 L) = ct := ⟨_, rfl⟩
            rw [hct]
            refine hK _ _ ⟨EOn.of_ext hxN, ?_⟩
            clear hK
            refine wpG_do (by rfl) (fun wO hxO K hK => ?_)
            go_wp2_with fail
            refine (c_RCount x.cl wO (hrefL.ext (Ext.trans hx (Ext.trans hxM (Ext.trans hxN hxO)))) hLl).mono ?_
            rintro e wP ⟨rfl, hxP⟩
            rw [hct]
            refine hK _ _ ⟨EOn.of_ext hxP, ?_⟩
            have b1 : (((ct : Nat) : Int) != ((ct : Nat) : Int)) = false := bne_self_eq_false _
            clear hK hct
            repeat first
              | refine wpG_move (by rfl) (by simp only [Act.eval, Array.getD_eq_getD_getElem?, List.getElem?_toArray, List.getElem?_cons_succ, List.getElem?_cons_zero, Option.getD_some]; try rfl) (by simp only [Act.put, List.setIfInBounds_toArray, List.set_cons_succ, List.set_cons_zero]; rfl) ?_
              | refine wpG_assign (by rfl) (by simp only [Act.eval, Array.getD_eq_getD_getElem?, List.getElem?_toArray, List.getElem?_cons_succ, List.getElem?_cons_zero, Option.getD_some]; try rfl) (by simp only [Act.put, List.setIfInBounds_toArray, List.set_cons_succ, List.set_cons_zero]; rfl) ?_
              | refine wpG_val (by rfl) (fun w' hx => (by go_simp; first | (go_bits; first | exact rfl | exact ⟨by omega, rfl⟩) | exact rfl | exact (if_neg (by omega)).trans rfl | exact ⟨by omega, rfl⟩)) (by simp only [Act.put, List.setIfInBounds_toArray, List.set_cons_succ, List.set_cons_zero]; rfl) ?_
              | refine wpG_no (by rfl) (by simp only [Act.put, List.setIfInBounds_toArray, List.set_cons_succ, List.set_cons_zero]; rfl) ?_
            refine wpG_end (fun wQ hxQ => wpList_nil (gQ_normal ?_))
            go_wp2_with fail
            exact ⟨⟨i + 1, by simp, by omega, Ext.trans hx (Ext.trans hxM (Ext.trans hxN (Ext.trans hxO (Ext.trans hxP hxQ))))⟩, by simp [intOf]; omega⟩
          · go_wp2_with fail
            refine (c_asks s wr (htabL.ext hx) (hrefL.ext hx) hLl (fun r _ _ => (HCL.out r).symm) (hr.mono (Ext.trans hx0L hx)) (by omega) (by omega)).mono ?_
            rintro e wY ⟨rfl, hxY⟩
            go_wp2_with fail
            refine (c_live wY).mono ?_
            rintro e wZ ⟨rfl, hxZ⟩
            go_wp2_with fail
            go_ret
            exact ⟨rfl, Ext.trans hx0L (Ext.trans hx (Ext.trans hxY hxZ))⟩
        · have hd : decide (i < l.length) = false := decide_eq_false hlt
          go_wp2_with fail
          refine (c_asks s wr (htabL.ext hx) (hrefL.ext hx) hLl (fun r _ _ => (HCL.out r).symm) (hr.mono (Ext.trans hx0L hx)) (by omega) (by omega)).mono ?_
          rintro e wY ⟨rfl, hxY⟩
          go_wp2_with fail
          refine (c_live wY).mono ?_
          rintro e wZ ⟨rfl, hxZ⟩
          go_wp2_with fail
          go_ret
          exact ⟨rfl, Ext.trans hx0L (Ext.trans hx (Ext.trans hxY hxZ))⟩
end Go.Proofs.Ytbbemipidkhmfaa
