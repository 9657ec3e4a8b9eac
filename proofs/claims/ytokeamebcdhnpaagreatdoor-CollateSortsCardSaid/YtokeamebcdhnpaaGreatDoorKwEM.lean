/-
 The document's elements of a text. The document's book while it is read: lines that stand apart from what still grows. The document's book, read out of the program's text.
-/
import Derived.Test.YtokeamebcdhnpaaGreatDoorKws
import Derived.Test.YtokeamebcdhnpaaGreatDoorRefA
import Derived.Test.YtokeamebcdhnpaaGreatDoorLvW
import Derived.Test.YtokeamebcdhnpaaGreatDoorColST
import Derived.Test.YtokeamebcdhnpaaGreatDoorRefIJ
section
namespace Go.Cl
open Go.Rp Go.Nm
theorem refGo_fuel {L : LBook} (ok : LOk L) : ∀ (k j : Nat) (m : List (Int × Bool)), m.length ≤ k → m.length ≤ j → refGo L k m = refGo L j m := by
 intro k
 induction k with
 | zero =>
  intro j m h _
  obtain rfl : m = [] := List.length_eq_zero_iff.1 (by omega)
  cases j <;> rfl
 | succ k ih =>
  intro j m h hj
  cases m with
  | nil => cases j <;> rfl
  | cons x m =>
   obtain ⟨j, rfl⟩ : ∃ i, j = i + 1 := ⟨j - 1, by rw [List.length_cons] at hj; omega⟩
   rw [List.length_cons] at h hj
   rw [refGo, refGo]
   cases hb : bestI L (x :: m) L.length with
   | some b =>
    simp only
    have h1 := ((bestI_spec L (x :: m) L.length).2 b hb).1
    have h2 := List.length_pos_iff.2 (ok.ne _ (getD_mem h1))
    rw [ih j _ (by rw [List.length_drop, List.length_cons]; omega) (by rw [List.length_drop, List.length_cons]; omega)]
   | none =>
    simp only
    rw [ih j m (by omega) (by omega)]
theorem refEls_nil (L : LBook) : refEls L [] = [] := rfl
theorem refEls_some {L : LBook} (ok : LOk L) {m : List (Int × Bool)} (hm : m ≠ []) {b : Nat} (hb : bestI L m L.length = some b) : refEls L m = (L.getD b ([], [])).2 ++ refEls L (m.drop (L.getD b ([], [])).1.length) := by
 cases m with
 | nil => exact absurd rfl hm
 | cons x m =>
  have h1 := ((bestI_spec L (x :: m) L.length).2 b hb).1
  have h2 := List.length_pos_iff.2 (ok.ne _ (getD_mem h1))
  show refGo L (m.length + 1) (x :: m) = _
  rw [refGo, hb]
  simp only
  unfold refEls
  rw [refGo_fuel ok m.length _ ((x :: m).drop (L.getD b ([], [])).1.length) (by rw [List.length_drop, List.length_cons]; omega) (Nat.le_refl _)]
theorem refEls_none {L : LBook} {x : Int × Bool} {m : List (Int × Bool)} (hb : bestI L (x :: m) L.length = none) : refEls L (x :: m) = elM x :: refEls L m := by
 show refGo L (m.length + 1) (x :: m) = _
 rw [refGo, hb]
 rfl
end Go.Cl
namespace Go.Proofs.YtokeamebcdhnpaaGreatDoor
open Go.RowKit Go.Rp Go.Shelf Go.Maps Go.Cl

/-- The lines as they stand. -/
def LRow (W : World) (v : Value) (L : LBook) : Prop :=
 ∃ p cap, v = .slice p L.length cap ∧ L.length ≤ cap ∧ (L ≠ [] → ∃ g, p = some ⟨g, 0, none⟩ ∧ ∀ i (h : i < L.length), ∃ x y, W.cell? ⟨g, i * 2, none⟩ = some x ∧ W.cell? ⟨g, i * 2 + 1, none⟩ = some y ∧ RnRow W x L[i].1 ∧ ElRow W y L[i].2)
theorem RnRow.ext {w w' : World} {v : Value} {l : List Nat} (h : RnRow w v l) (hx : Ext w w') : RnRow w' v l := by
 obtain ⟨p, cap, e, h2⟩ := h
 refine ⟨p, cap, e, fun hne => ?_⟩
 obtain ⟨g, e2, h3⟩ := h2 hne
 exact ⟨g, e2, fun i hi => hx.cell (h3 i hi)⟩
theorem LRow.ext {w w' : World} {v : Value} {L : LBook} (h : LRow w v L) (hx : Ext w w') : LRow w' v L := by
 obtain ⟨p, cap, e, hc, h2⟩ := h
 refine ⟨p, cap, e, hc, fun hne => ?_⟩
 obtain ⟨g, e2, h3⟩ := h2 hne
 refine ⟨g, e2, fun i hi => ?_⟩
 obtain ⟨x, y, h4, h5, h6, h7⟩ := h3 i hi
 exact ⟨x, y, hx.cell h4, hx.cell h5, h6.ext hx, h7.ext hx⟩
/-- The book as it stands. -/
structure BkAt (W : World) (kb : Nat) : Prop where
 ex : ∃ vL tB, W.heap[kb]? = some (.cells #[vL, .pointer (some ⟨tB, 0, none⟩)] 54 (0, 0)) ∧ LRow W vL bookR ∧ RTab W tB
theorem BkAt.ext {W W' : World} {kb : Nat} (h : BkAt W kb) (hx : Ext W W') : BkAt W' kb := by
 obtain ⟨vL, tB, h1, h2, h3⟩ := h.ex
 exact ⟨vL, tB, hx.blk h1, h2.ext hx, h3.mono hx⟩
theorem ElRow.flat {w : World} {g n c : Nat} {l : List El} (h : ElRow w (.slice (some ⟨g, 0, none⟩) n c) l) : ∀ j, j < l.length * 3 → w.cell? ⟨g, j, none⟩ = (elW l)[j]? := by
 intro j hj
 rcases h with ⟨_, e⟩ | ⟨g2, cap, e, _, h3⟩
 ·cases e
 ·cases e
  have h4 : j / 3 < l.length := by omega
  obtain ⟨a1, a2, a3⟩ := h3 (j / 3) h4
  obtain ⟨b1, b2, b3⟩ := elW_at l (j / 3) h4
  have h5 : j % 3 = 0 ∨ j % 3 = 1 ∨ j % 3 = 2 := by omega
  rcases h5 with h5 | h5 | h5
  ·rw [show j = j / 3 * 3 by omega, a1]; rw [b1]
  ·rw [show j = j / 3 * 3 + 1 by omega, a2]; rw [b2]
  ·rw [show j = j / 3 * 3 + 2 by omega, a3]; rw [b3]
theorem wr_a (c : Nat) (h : c < 256) : wrap64 (2000000 + wrap64 ((c : Nat) : Int)) = ((2000000 + c : Nat) : Int) := by
 rw [IntWalk.wrap64_in ((c : Nat) : Int) (by omega), IntWalk.wrap64_in _ (by omega)]
 omega
def bestV : Option Nat → Value
 | none => .int .i64 (-1)
 | some b => .int .i64 (b : Nat)
set_option maxRecDepth 100000 in
set_option maxHeartbeats 8000000 in
theorem c_bkElements (kb : Nat) (t : ByteArray) (w : World) (hk : BkAt w kb) (ht : t.size ≤ 20000) :
  Calls Tryz.prog 32 #[.pointer (some ⟨kb, 0, none⟩), .string t] w fun e w' => ∃ v, e = .returned v ∧ w'.ownsRow w.heap.size 59 3 v (refEls bookR (Go.Nm.rawOf t.data.toList)).length (elW (refEls bookR (Go.Nm.rawOf t.data.toList))) ∧ Ext w w' := by
 obtain ⟨vL, tB, hb, hL, hR⟩ := hk.ex
 have HLR := Lib.hid hL
 obtain ⟨pL, capL, rfl, hcapL, hLc⟩ := hL
 have HLC := Lib.hid hLc
 have HF := Lib.hid bookR_facts
 have HBK := Lib.hid hb
 obtain ⟨L, hLe⟩ : ∃ L, bookR = L := ⟨_, rfl⟩
 rw [hLe] at HLR HLC HF HBK hcapL ⊢
 clear hLc hb hR hk hLe
 have hLI : ((L.length : Nat) : Int) ≤ 1000 := by have := HF.out.2.2.2.1; omega
 have hHE : Hid (∃ i0, Tryz.prog.info? 59 = some i0 ∧ i0.zero = some (.agg #[.int .i64 0, .int .i64 0, .int .i64 0]) ∧ i0.size = 3 ∧ i0.bytes = 24) := by
  obtain ⟨i0, hi, hz0, hz1, hz2⟩ := info_parts Tryz.infoEl
  exact ⟨i0, hi, hz0, hz1, hz2⟩
 obtain ⟨M, hM⟩ : ∃ M, Go.Nm.rawOf t.data.toList = M := ⟨_, rfl⟩
 rw [hM]
 have HMR := Lib.hid hM
 clear hM
 go_enter Tryz.func32, Tryz.ntmps32
 go_wp2_with fail
 refine (K1.c_Marks t (by omega) w).mono ?_
 rintro e w1 ⟨vm, ms, rfl, hown, htied, hmsl, hx1⟩
 have HOWN := Lib.hid hown
 have hmI : ((ms.length : Nat) : Int) ≤ 20000 := by omega
 have HTI := Lib.hid (And.intro htied hmsl)
 have HX1 := Lib.hid hx1
 have HME := Lib.hid (show ms.map (K1.rawM t.data.toList) = M from by
  rw [← HMR.out, htied.raw, List.drop_eq_nil_of_le (by rw [len_eqC]; exact Nat.le_refl _)]
  show _ = _ ++ []
  rw [List.append_nil])
 have HML := Lib.hid (show M.length = ms.length from by rw [← HME.out, List.length_map])
 obtain ⟨pm, cm, rfl⟩ := own_slice hown
 clear hown htied hx1 hmsl
 go_wp2_with fail
 obtain ⟨Wa, rfl⟩ : ∃ Wa, Wa = w1 := ⟨_, rfl⟩
 go_loopw [6, 7] (fun ov av W => ∃ (p : Nat) (D : List El), av = .int .i64 (p : Nat) ∧ p ≤ ms.length ∧ Hid (D ++ refEls L (M.drop p) = refEls L M ∧ D.length ≤ 1000 * p) ∧ Hid (W.ownsRow Wa.heap.size 59 3 ov D.length (elW D)) ∧ Hid (Ext Wa W)) (fun _ av _ => ms.length + 1 - (intOf av).toNat)
 case atStart => exact ⟨0, [], rfl, by omega, Lib.hid ⟨rfl, by simp⟩, Lib.hid (World.ownsRow_nil _ _ _ _), Lib.hid (Ext.refl _)⟩
 case round =>
  obtain ⟨p, D, rfl, hp, HD, HROW, HXR⟩ := hrel
  obtain ⟨Wp, rfl⟩ : ∃ Wp, Wp = wr := ⟨_, rfl⟩
  by_cases hlt : p < ms.length
  ·have hI : ((p : Nat) : Int) < (ms.length : Nat) := by omega
   have hd : decide (p < ms.length) = true := decide_eq_true hlt
   go_wp2_with fail
   go_loopw [8, 9] (fun bv iv W => ∃ (i : Nat), iv = .int .i64 (i : Nat) ∧ i ≤ L.length ∧ bv = bestV (bestI L (M.drop p) i) ∧ Hid (Ext Wp W)) (fun _ iv _ => L.length + 1 - (intOf iv).toNat)
   case atStart => exact ⟨0, rfl, by omega, rfl, Lib.hid (Ext.refl _)⟩
   case round =>
    obtain ⟨i, rfl, hi, rfl, HXI⟩ := hrel
    have HX := Lib.hid (HX1.out.trans (HXR.out.trans HXI.out))
    have hkb := HX.out.cell (show w.cell? ⟨kb, 0, none⟩ = some (.slice pL L.length capL) from (cell_blk HBK.out 0).trans rfl)
    by_cases hlt2 : i < L.length
    ·have hI2 : ((i : Nat) : Int) < (L.length : Nat) := by omega
     have hd2 : decide (i < L.length) = true := decide_eq_true hlt2
     obtain ⟨g, rfl, hgc⟩ := HLC.out (by intro e; subst e; simp at hlt2)
     obtain ⟨x, y, hcx, hcy, hrx, hry⟩ := hgc i hlt2
     have kx := HX.out.cell hcx
     have HRX := Lib.hid (hrx.ext HX.out)
     have HGC := Lib.hid hgc
     obtain ⟨qx, cx, rfl, _⟩ := hrx
     have hlen := (HF.out.2.2.2.2 L[i] (List.getElem_mem hlt2)).1
     have hst : bestI L (M.drop p) (i + 1) = if begB (M.drop p) L[i].1 = true ∧ (∀ b, bestI L (M.drop p) i = some b → (L.getD b ([], [])).1.length < L[i].1.length) then some i else bestI L (M.drop p) i := by
      rw [bestI, List.getD_eq_getElem?_getD, List.getElem?_eq_getElem hlt2]
      rfl
     have hbi := (bestI_spec L (M.drop p) i).2
     obtain ⟨Z, hZ⟩ : ∃ Z, bestI L (M.drop p) i = Z := ⟨_, rfl⟩
     rw [hZ] at hst hbi ⊢
     obtain ⟨N, hN⟩ : ∃ N, L[i].1.length = N := ⟨_, rfl⟩
     obtain ⟨Y, hY⟩ : ∃ Y, L[i].1 = Y := ⟨_, rfl⟩
     rw [hY] at HRX hst hN hlen kx
     rw [hN] at hst hlen kx
     have m0 : ∀ w', EOn (fun _ => True) wr w' → w'.cell? ⟨kb, 0, none⟩ = some (.slice (some ⟨g, 0, none⟩) L.length capL) := fun w' hx => hx.cell trivial hkb
     have mx : ∀ w', EOn (fun _ => True) wr w' → w'.cell? ⟨g, i * 2, none⟩ = some (.slice qx N cx) := fun w' hx => hx.cell trivial (by rw [← hN, ← hY]; exact HX.out.cell hcx)
     have HKX := Lib.hid (show wr.cell? ⟨g, i * 2, none⟩ = some (.slice qx N cx) by rw [← hN, ← hY]; exact HX.out.cell hcx)
     have HO := Lib.hid (fun w' (h : Ext wr w') => ownsRow_ext HOWN.out (HXR.out.trans (HXI.out.trans h)))
     obtain ⟨BV, hBV⟩ : ∃ b, begB (M.drop p) Y = b := ⟨_, rfl⟩
     have HCB := Lib.hid (fun w' (h : Ext wr w') => c_rbegins _ _ _ t.data.toList ms Y p BV w' (HO.out w' h) (HRX.out.ext h) hlt (by omega) (by rw [hN]; exact hlen) (by rw [HME.out]; exact hBV))
     rw [hBV] at hst
     rw [hN] at HCB
     have HZ := Lib.hid hZ
     clear hcx hcy hry hgc hZ hN hY hBV kx hlen HRX
     cases BV with
     | false =>
      have hst2 : bestI L (M.drop p) (i + 1) = Z := by rw [hst, if_neg (fun h => by cases h.1)]
      have HS := Lib.hid hst2
      clear hst hst2 hbi
      go_wp2_with fail
      refine wp_lex (fun _ => True) [true, true, true, true, true, true, true, true, true, true, false, true, true, true, true, true, true, true, true, true, true, true, true, true, true, true, true, true, true, true, true, true, true, true, true, true] (by kernel_rfl) (by kernel_rfl) ?_
      repeat first
       | refine wpG_move' ?_
       | refine wpG_assign' ?_
       | refine wpG_val' ?_
       | refine wpG_no' ?_
      refine wpG_do (by rfl) (fun w5 hx5 K hK => ?_)
      go_wp2_with fail
      refine (HCB.out w5 hx5).mono ?_
      rintro e w6 ⟨rfl, hx6⟩
      refine hK _ _ ⟨EOn.of_ext hx6, ?_⟩
      clear hK m0 mx
      have HX6 := Lib.hid (hx5.trans hx6)
      have m0 : ∀ w', EOn (fun _ => True) w6 w' → w'.cell? ⟨kb, 0, none⟩ = some (.slice (some ⟨g, 0, none⟩) L.length capL) := fun w' hx => hx.cell trivial (HX6.out.cell hkb)
      have mx : ∀ w', EOn (fun _ => True) w6 w' → w'.cell? ⟨g, i * 2, none⟩ = some (.slice qx N cx) := fun w' hx => hx.cell trivial (HX6.out.cell HKX.out)
      clear hx5 hx6
      repeat first
       | refine wpG_move' ?_
       | refine wpG_assign' ?_
       | refine wpG_val' ?_
       | refine wpG_no' ?_
      refine wpG_end (fun w7 hx7 => wpList_nil (gQ_normal ?_))
      have HX7 := Lib.hid (HXI.out.trans (HX6.out.trans hx7))
      clear hx7 m0 mx HX6
      go_wp2_with fail
      exact ⟨⟨i + 1, by simp, by omega, by rw [HS.out], HX7⟩, by simp only [intOf]; omega⟩
     | true =>
      cases Z with
      | none =>
       have hst2 : bestI L (M.drop p) (i + 1) = some i := by rw [hst, if_pos ⟨rfl, fun b h => by cases h⟩]
       have HS := Lib.hid hst2
       clear hst hst2 hbi
       rw [show bestV none = .int .i64 (-1) from rfl]
       go_wp2_with fail
       refine wp_lex (fun _ => True) [true, true, true, true, true, true, true, true, true, true, false, true, true, true, true, true, true, true, true, true, true, true, true, true, true, true, true, true, true, true, true, true, true, true, true, true] (by kernel_rfl) (by kernel_rfl) ?_
       repeat first
        | refine wpG_move' ?_
        | refine wpG_assign' ?_
        | refine wpG_val' ?_
        | refine wpG_no' ?_
       refine wpG_do (by rfl) (fun w5 hx5 K hK => ?_)
       go_wp2_with fail
       refine (HCB.out w5 hx5).mono ?_
       rintro e w6 ⟨rfl, hx6⟩
       refine hK _ _ ⟨EOn.of_ext hx6, ?_⟩
       clear hK m0 mx
       have HX6 := Lib.hid (hx5.trans hx6)
       have m0 : ∀ w', EOn (fun _ => True) w6 w' → w'.cell? ⟨kb, 0, none⟩ = some (.slice (some ⟨g, 0, none⟩) L.length capL) := fun w' hx => hx.cell trivial (HX6.out.cell hkb)
       have mx : ∀ w', EOn (fun _ => True) w6 w' → w'.cell? ⟨g, i * 2, none⟩ = some (.slice qx N cx) := fun w' hx => hx.cell trivial (HX6.out.cell HKX.out)
       clear hx5 hx6
       repeat first
        | refine wpG_move' ?_
        | refine wpG_assign' ?_
        | refine wpG_val' ?_
        | refine wpG_no' ?_
       refine wpG_end (fun w7 hx7 => wpList_nil (gQ_normal ?_))
       have HX7 := Lib.hid (HXI.out.trans (HX6.out.trans hx7))
       clear hx7 m0 mx HX6
       go_wp2_with fail
       exact ⟨⟨i + 1, by simp, by omega, by rw [HS.out]; rfl, HX7⟩, by simp only [intOf]; omega⟩
      | some c =>
       obtain ⟨hci, _, _⟩ := hbi c rfl
       have hcL : c < L.length := by omega
       obtain ⟨x2, y2, hcx2, _, hrx2, _⟩ := HGC.out c hcL
       have kx2 := HX.out.cell hcx2
       obtain ⟨q2, c2, rfl, _⟩ := hrx2
       have hlen2 : (L.getD c ([], [])).1.length = L[c].1.length := by
        rw [List.getD_eq_getElem?_getD, List.getElem?_eq_getElem hcL]
        rfl
       obtain ⟨N2, hN2⟩ : ∃ N, L[c].1.length = N := ⟨_, rfl⟩
       rw [hN2] at kx2 hlen2
       have hcI : ((c : Nat) : Int) < (L.length : Nat) := by omega
       have hc0 : ¬ ((c : Nat) : Int) < 0 := by omega
       clear hcx2 hN2 hbi hci
       by_cases hlt3 : N2 < N
       ·have hst2 : bestI L (M.drop p) (i + 1) = some i := by rw [hst, if_pos ⟨rfl, fun b h => by cases h; rw [hlen2]; exact hlt3⟩]
        have HS := Lib.hid hst2
        have hd3 : decide (N2 < N) = true := decide_eq_true hlt3
        have hI3 : ((N2 : Nat) : Int) < (N : Nat) := by omega
        clear hst hst2 hlen2 hlt3
        rw [show bestV (some c) = .int .i64 (c : Nat) from rfl]
        go_wp2_with fail
        refine wp_lex (fun _ => True) [true, true, true, true, true, true, true, true, true, true, false, true, true, true, true, true, true, true, true, true, true, true, true, true, true, true, true, true, true, true, true, true, true, true, true, true] (by kernel_rfl) (by kernel_rfl) ?_
        repeat first
         | refine wpG_move' ?_
         | refine wpG_assign' ?_
         | refine wpG_val' ?_
         | refine wpG_no' ?_
        refine wpG_do (by rfl) (fun w5 hx5 K hK => ?_)
        go_wp2_with fail
        refine (HCB.out w5 hx5).mono ?_
        rintro e w6 ⟨rfl, hx6⟩
        refine hK _ _ ⟨EOn.of_ext hx6, ?_⟩
        clear hK m0 mx
        have HX6 := Lib.hid (hx5.trans hx6)
        have m0 : ∀ w', EOn (fun _ => True) w6 w' → w'.cell? ⟨kb, 0, none⟩ = some (.slice (some ⟨g, 0, none⟩) L.length capL) := fun w' hx => hx.cell trivial (HX6.out.cell hkb)
        have mx : ∀ w', EOn (fun _ => True) w6 w' → w'.cell? ⟨g, i * 2, none⟩ = some (.slice qx N cx) := fun w' hx => hx.cell trivial (HX6.out.cell HKX.out)
        clear hx5 hx6
        have my : ∀ w', EOn (fun _ => True) w6 w' → w'.cell? ⟨g, c * 2, none⟩ = some (.slice q2 N2 c2) := fun w' hx => hx.cell trivial (HX6.out.cell kx2)
        clear kx2
        repeat first
         | refine wpG_move' ?_
         | refine wpG_assign' ?_
         | refine wpG_val' ?_
         | refine wpG_no' ?_
        clear my
        refine wpG_end (fun w7 hx7 => wpList_nil (gQ_normal ?_))
        have HX7 := Lib.hid (HXI.out.trans (HX6.out.trans hx7))
        clear hx7 m0 mx HX6
        go_wp2_with fail
        exact ⟨⟨i + 1, by simp, by omega, by rw [HS.out]; rfl, HX7⟩, by simp only [intOf]; omega⟩
       ·have hst2 : bestI L (M.drop p) (i + 1) = some c := by rw [hst, if_neg (fun h => hlt3 (by have := h.2 c rfl; rw [hlen2] at this; exact this))]
        have HS := Lib.hid hst2
        have hd3 : decide (N2 < N) = false := decide_eq_false hlt3
        have hI3 : ¬ ((N2 : Nat) : Int) < (N : Nat) := by omega
        clear hst hst2 hlen2 hlt3
        rw [show bestV (some c) = .int .i64 (c : Nat) from rfl]
        go_wp2_with fail
        refine wp_lex (fun _ => True) [true, true, true, true, true, true, true, true, true, true, false, true, true, true, true, true, true, true, true, true, true, true, true, true, true, true, true, true, true, true, true, true, true, true, true, true] (by kernel_rfl) (by kernel_rfl) ?_
        repeat first
         | refine wpG_move' ?_
         | refine wpG_assign' ?_
         | refine wpG_val' ?_
         | refine wpG_no' ?_
        refine wpG_do (by rfl) (fun w5 hx5 K hK => ?_)
        go_wp2_with fail
        refine (HCB.out w5 hx5).mono ?_
        rintro e w6 ⟨rfl, hx6⟩
        refine hK _ _ ⟨EOn.of_ext hx6, ?_⟩
        clear hK m0 mx
        have HX6 := Lib.hid (hx5.trans hx6)
        have m0 : ∀ w', EOn (fun _ => True) w6 w' → w'.cell? ⟨kb, 0, none⟩ = some (.slice (some ⟨g, 0, none⟩) L.length capL) := fun w' hx => hx.cell trivial (HX6.out.cell hkb)
        have mx : ∀ w', EOn (fun _ => True) w6 w' → w'.cell? ⟨g, i * 2, none⟩ = some (.slice qx N cx) := fun w' hx => hx.cell trivial (HX6.out.cell HKX.out)
        clear hx5 hx6
        have my : ∀ w', EOn (fun _ => True) w6 w' → w'.cell? ⟨g, c * 2, none⟩ = some (.slice q2 N2 c2) := fun w' hx => hx.cell trivial (HX6.out.cell kx2)
        clear kx2
        repeat first
         | refine wpG_move' ?_
         | refine wpG_assign' ?_
         | refine wpG_val' ?_
         | refine wpG_no' ?_
        clear my
        refine wpG_end (fun w7 hx7 => wpList_nil (gQ_normal ?_))
        have HX7 := Lib.hid (HXI.out.trans (HX6.out.trans hx7))
        clear hx7 m0 mx HX6
        go_wp2_with fail
        exact ⟨⟨i + 1, by simp, by omega, by rw [HS.out]; rfl, HX7⟩, by simp only [intOf]; omega⟩
    ·have hI2 : ¬ ((i : Nat) : Int) < (L.length : Nat) := by omega
     have hd2 : decide (i < L.length) = false := decide_eq_false hlt2
     obtain rfl : i = L.length := by omega
     have HRO := Lib.hid (And.intro (ownsRow_ext HROW.out HXI.out) (HXR.out.trans HXI.out))
     have hDl : D.length ≤ 20000000 := by have := HD.out.2; omega
     have hpl : p < M.length := by rw [HML.out]; exact hlt
     have hne : M.drop p ≠ [] := by
      intro e
      have := congrArg List.length e
      rw [List.length_drop] at this
      simp at this
      omega
     cases hZ : bestI L (M.drop p) L.length with
     | some c =>
      rw [show bestV (some c) = .int .i64 (c : Nat) from rfl]
      have hcL := ((bestI_spec L (M.drop p) L.length).2 c hZ).1
      have hst := refEls_some HF.out.2.1 hne hZ
      obtain ⟨g, rfl, hgc⟩ := HLC.out (by intro e; subst e; simp at hcL)
      obtain ⟨x2, y2, hcx2, hcy2, hrx2, hry2⟩ := hgc c hcL
      have kx2 := HX.out.cell hcx2
      have ky2 := HX.out.cell hcy2
      have HEY := Lib.hid (hry2.ext HX.out)
      obtain ⟨q2, c2, rfl, _⟩ := hrx2
      obtain ⟨e2, c3, rfl, _, _⟩ := hry2.opened
      have hgd : L.getD c ([], []) = L[c] := by
       rw [List.getD_eq_getElem?_getD, List.getElem?_eq_getElem hcL]
       rfl
      obtain ⟨hb1, hb2⟩ := HF.out.2.2.2.2 L[c] (List.getElem_mem hcL)
      have hbg := (bestI_spec L (M.drop p) L.length).2 c hZ
      rw [hgd] at hst hbg
      have hple : p + L[c].1.length ≤ ms.length := by
       have h1 := congrArg List.length (eq_of_beq hbg.2.1)
       simp only [List.length_take, List.length_drop, runesM, List.length_map] at h1
       rw [← HML.out]
       omega
      have hp1 : 1 ≤ L[c].1.length := List.length_pos_iff.2 (HF.out.2.1.ne _ (List.getElem_mem hcL))
      obtain ⟨N, hN⟩ : ∃ N, L[c].1.length = N := ⟨_, rfl⟩
      obtain ⟨E, hE⟩ : ∃ E, L[c].2 = E := ⟨_, rfl⟩
      rw [hN] at kx2 hb1 hple hst hp1
      rw [hE] at ky2 hb2 hst HEY
      rw [List.drop_drop] at hst
      have HST := Lib.hid hst
      have hcI : ((c : Nat) : Int) < (L.length : Nat) := by omega
      have hc0 : (0 : Int) ≤ ((c : Nat) : Int) := by omega
      have hcx2' : w.cell? ⟨g, c * 2, none⟩ = some (.slice q2 N c2) := by rw [← hN]; exact hcx2
      have HCX := Lib.hid hcx2'
      have hEI : ((E.length : Nat) : Int) ≤ 1000 := by omega
      have hNI : ((N : Nat) : Int) ≤ 1000 := by omega
      clear hcx2 hcx2' hcy2 hry2 hgc hN hE hst hbg hgd hne hZ
      go_wp2_with (at_builtin; refine Hid.out ?_)
      refine Lib.hid ?_
      obtain ⟨i0, hi0, hz0, hz1, hz3⟩ := hHE.out
      clear hkb kx2 ky2
      have HDE := Lib.hid (show (D ++ E) ++ refEls L (M.drop (p + N)) = refEls L M by rw [← HD.out.1, HST.out, List.append_assoc])
      have HDL := Lib.hid (show (D ++ E).length ≤ 1000 * (p + N) by rw [List.length_append]; have := HD.out.2; omega)
      cases e2 with
      | none =>
       have hE0 : E = [] := by
        rcases HEY.out with ⟨e, _⟩ | ⟨_, _, e, _⟩
        ·exact e
        ·cases e
       subst hE0
       refine wpList_append_own_none rfl (.tmp 78) (.tmp 86) 28 rfl Wa.heap.size 59 i0 3 Tryz.underlying28 hi0 u6 D.length (elW D) rfl HRO.out.1 (by
        rcases HEY.out with ⟨_, e⟩ | ⟨_, _, e, _⟩
        ·exact e
        ·cases e) ?_
       have HO := Lib.hid (And.intro (show wr.ownsRow Wa.heap.size 59 3 u6 (D ++ []).length (elW (D ++ [])) by rw [List.append_nil]; exact HRO.out.1) HRO.out.2)
       have hkb := (HX1.out.trans HO.out.2).cell (show w.cell? ⟨kb, 0, none⟩ = some (.slice (some ⟨g, 0, none⟩) L.length capL) from (cell_blk HBK.out 0).trans rfl)
       have kx2 := (HX1.out.trans HO.out.2).cell HCX.out
       go_wp2_with fail
       exact ⟨⟨p + N, D ++ [], by simp, by omega, Lib.hid ⟨HDE.out, HDL.out⟩, Lib.hid HO.out.1, Lib.hid HO.out.2⟩, by simp only [intOf]; omega⟩
      | some ad =>
       obtain ⟨ge, rfl⟩ : ∃ ge, ad = ⟨ge, 0, none⟩ := by
        rcases HEY.out with ⟨_, e⟩ | ⟨ge, _, e, _⟩
        ·cases e
        ·cases e
         exact ⟨_, rfl⟩
       have hcel := HEY.out.flat
       refine wpList_apps rfl (.tmp 78) (.tmp 86) 28 rfl 59 i0 (.agg #[.int .i64 0, .int .i64 0, .int .i64 0]) 3 24 Tryz.underlying28 hi0 hz0 hz1 hz3 rfl (by decide) rfl HRO.out.1 HRO.out.2 (elW E) ge 0 E.length c3 rfl (elW_len E) ?a1 (elW_one E) ?a2 (by decide) ?_
       case a1 =>
        intro j hj
        have h1 := hcel j (by rw [elW_len] at hj; exact hj)
        rw [Nat.zero_add, h1, List.getElem?_eq_getElem hj]
       case a2 => omega
       intro v' w9 hown9 hx9 _
       have HO := Lib.hid (And.intro (show w9.ownsRow Wa.heap.size 59 3 v' (D ++ E).length (elW (D ++ E)) by rw [List.length_append, elW_app]; exact hown9) hx9)
       clear hown9 hx9 hcel
       have hkb := (HX1.out.trans HO.out.2).cell (show w.cell? ⟨kb, 0, none⟩ = some (.slice (some ⟨g, 0, none⟩) L.length capL) from (cell_blk HBK.out 0).trans rfl)
       have kx2 := (HX1.out.trans HO.out.2).cell HCX.out
       go_wp2_with fail
       exact ⟨⟨p + N, D ++ E, by simp, by omega, Lib.hid ⟨HDE.out, HDL.out⟩, Lib.hid HO.out.1, Lib.hid HO.out.2⟩, by simp only [intOf]; omega⟩
     | none =>
      rw [show bestV none = .int .i64 (-1) from rfl]
      obtain ⟨gm, rfl, _, _, hgm⟩ := own_at HOWN.out (by omega)
      have hdp : M.drop p = K1.rawM t.data.toList ms[p] :: M.drop (p + 1) := by
       rw [List.drop_eq_getElem_cons hpl]
       congr 1
       simp only [← HME.out, List.getElem_map]
      rw [hdp] at hZ
      have hst := refEls_none hZ
      rw [← hdp] at hst
      have hlt9 := HTI.out.1.lt ms[p] (List.getElem_mem hlt)
      rw [len_eqC] at hlt9
      have d0 := hgm (p * 4 + 0) (by omega)
      have d2 := hgm (p * 4 + 2) (by omega)
      have d3 := hgm (p * 4 + 3) (by omega)
      rw [K1.mkCells_get ms p hlt 0 (by decide)] at d0
      rw [K1.mkCells_get ms p hlt 2 (by decide)] at d2
      rw [K1.mkCells_get ms p hlt 3 (by decide)] at d3
      obtain ⟨m, hm⟩ : ∃ m, ms[p] = m := ⟨_, rfl⟩
      rw [hm] at d0 d2 d3 hst hlt9
      obtain ⟨ma, mw, mr, bad⟩ := m
      have hXW := HXR.out.trans HXI.out
      have d0 := hXW.cell (show Wa.cell? ⟨gm, p * 4, none⟩ = some (.int .i64 (ma : Nat)) from d0)
      have d2 := hXW.cell (show Wa.cell? ⟨gm, p * 4 + 2, none⟩ = some (.int .i32 (mr : Nat)) from d2)
      have d3 := hXW.cell (show Wa.cell? ⟨gm, p * 4 + 3, none⟩ = some (.bool bad) from d3)
      have HST := Lib.hid hst
      simp only at hlt9
      have hrl9 := HTI.out.1.rl ms[p] (List.getElem_mem hlt)
      rw [hm] at hrl9
      simp only at hrl9
      clear hgm hdp hZ hst hm hXW hne
      cases bad with
      | true =>
       have hmaI : ((ma : Nat) : Int) < (t.size : Nat) := by omega
       go_wp2_with (at_builtin; refine Hid.out ?_)
       refine Lib.hid ?_
       have hb := (t[ma]'hlt9).toNat_lt
       have hz := wr_a (t[ma]'hlt9).toNat hb
       rw [hz]
       have HQ := Lib.hid (show elW [elM (K1.rawM t.data.toList ⟨ma, mw, mr, true⟩)] = [.int .i64 ((2000000 + (t[ma]'hlt9).toNat : Nat) : Int), .int .i64 32, .int .i64 2] by
        have hg : t.data.toList.getD ma 0 = t[ma]'hlt9 := by
         rw [List.getD_eq_getElem?_getD, List.getElem?_eq_getElem (by rw [len_eqC]; exact hlt9), Option.getD_some, Array.getElem_toList]
         rfl
        simp only [K1.rawM, if_pos, hg, elM, elW, List.flatMap_cons, List.flatMap_nil, List.append_nil, Int.toNat_natCast]
        rfl)
       obtain ⟨i0, hi0, hz0, hz1, hz3⟩ := hHE.out
       refine wpList_app rfl (.tmp 105) (.tmp 116) 28 rfl 59 i0 (.agg #[.int .i64 0, .int .i64 0, .int .i64 0]) 3 24 Tryz.underlying28 hi0 hz0 hz1 hz3 rfl (by decide) rfl HRO.out.1 HRO.out.2 [.int .i64 ((2000000 + (t[ma]'hlt9).toNat : Nat) : Int), .int .i64 32, .int .i64 2] rfl rfl (by intro u hu; simp at hu; rcases hu with rfl | rfl | rfl <;> rfl) ?k1 (by decide) ?_
       case k1 => omega
       intro v' w9 hown9 hx9 _
       have HO := Lib.hid (And.intro (show w9.ownsRow Wa.heap.size 59 3 v' (D ++ [(elM (K1.rawM t.data.toList ⟨ma, mw, mr, true⟩))]).length (elW (D ++ [(elM (K1.rawM t.data.toList ⟨ma, mw, mr, true⟩))])) by rw [List.length_append, elW_app, HQ.out]; exact hown9) hx9)
       have HDE := Lib.hid (show (D ++ [(elM (K1.rawM t.data.toList ⟨ma, mw, mr, true⟩))]) ++ refEls L (M.drop (p + 1)) = refEls L M by rw [← HD.out.1, HST.out, List.append_assoc]; rfl)
       have HDL := Lib.hid (show (D ++ [(elM (K1.rawM t.data.toList ⟨ma, mw, mr, true⟩))]).length ≤ 1000 * (p + 1) by rw [List.length_append]; have := HD.out.2; simp; omega)
       clear hown9 hx9 hz d0 d2 d3 HQ
       go_wp2_with fail
       exact ⟨⟨p + 1, D ++ [(elM (K1.rawM t.data.toList ⟨ma, mw, mr, true⟩))], by simp, by omega, Lib.hid ⟨HDE.out, HDL.out⟩, Lib.hid HO.out.1, Lib.hid HO.out.2⟩, by simp only [intOf]; omega⟩
      | false =>
       go_wp2_with (at_builtin; refine Hid.out ?_)
       refine Lib.hid ?_
       have hz : ((65536 + mr : Nat) : Int) = 65536 + (mr : Nat) := by omega
       have HQ := Lib.hid (show elW [elM (K1.rawM t.data.toList ⟨ma, mw, mr, false⟩)] = [.int .i64 (65536 + (mr : Nat) : Int), .int .i64 32, .int .i64 2] by rw [← hz]; rfl)
       obtain ⟨i0, hi0, hz0, hz1, hz3⟩ := hHE.out
       refine wpList_app rfl (.tmp 62) (.tmp 71) 28 rfl 59 i0 (.agg #[.int .i64 0, .int .i64 0, .int .i64 0]) 3 24 Tryz.underlying28 hi0 hz0 hz1 hz3 rfl (by decide) rfl HRO.out.1 HRO.out.2 [.int .i64 (65536 + (mr : Nat) : Int), .int .i64 32, .int .i64 2] rfl rfl (by intro u hu; simp at hu; rcases hu with rfl | rfl | rfl <;> rfl) ?k2 (by decide) ?_
       case k2 => omega
       intro v' w9 hown9 hx9 _
       have HO := Lib.hid (And.intro (show w9.ownsRow Wa.heap.size 59 3 v' (D ++ [(elM (K1.rawM t.data.toList ⟨ma, mw, mr, false⟩))]).length (elW (D ++ [(elM (K1.rawM t.data.toList ⟨ma, mw, mr, false⟩))])) by rw [List.length_append, elW_app, HQ.out]; exact hown9) hx9)
       have HDE := Lib.hid (show (D ++ [(elM (K1.rawM t.data.toList ⟨ma, mw, mr, false⟩))]) ++ refEls L (M.drop (p + 1)) = refEls L M by rw [← HD.out.1, HST.out, List.append_assoc]; rfl)
       have HDL := Lib.hid (show (D ++ [(elM (K1.rawM t.data.toList ⟨ma, mw, mr, false⟩))]).length ≤ 1000 * (p + 1) by rw [List.length_append]; have := HD.out.2; simp; omega)
       clear hown9 hx9 hz d0 d2 d3 HQ
       go_wp2_with fail
       exact ⟨⟨p + 1, D ++ [(elM (K1.rawM t.data.toList ⟨ma, mw, mr, false⟩))], by simp, by omega, Lib.hid ⟨HDE.out, HDL.out⟩, Lib.hid HO.out.1, Lib.hid HO.out.2⟩, by simp only [intOf]; omega⟩
  ·have hI : ¬ ((p : Nat) : Int) < (ms.length : Nat) := by omega
   have hd : decide (p < ms.length) = false := decide_eq_false hlt
   obtain rfl : p = ms.length := by omega
   have HDE := Lib.hid (show D = refEls L M by
    have h1 := HD.out.1
    rw [List.drop_eq_nil_of_le (by rw [HML.out]; exact Nat.le_refl _), refEls_nil, List.append_nil] at h1
    exact h1)
   go_wp2_with fail
   refine ret_one rfl rfl rfl ⟨_, rfl, ?_, HX1.out.trans HXR.out⟩
   rw [← HDE.out]
   exact own_mono HROW.out HX1.out.sz
end Go.Proofs.YtokeamebcdhnpaaGreatDoor
end

section
namespace Go.Proofs.YtokeamebcdhnpaaGreatDoor
open Go.RowKit Go.Rp Go.Shelf Go.Maps Go.Cl

/-- A row whose block none of three growing rows has. -/
def Clear (B : Nat) (W : World) (v rv ev lv : Value) : Prop :=
 ∀ a n c, v = .slice (some a) n c → n ≠ 0 → B ≤ a.block ∧ a.block < W.heap.size ∧ rv.ownBlock ≠ some a.block ∧ ev.ownBlock ≠ some a.block ∧ lv.ownBlock ≠ some a.block
/-- What a row's slice has become: its own block, a new one, none. -/
def Nx (W : World) (v v' : Value) : Prop := v'.ownBlock = v.ownBlock ∨ v'.ownBlock = some W.heap.size ∨ v'.ownBlock = none
theorem Nx.same {W : World} {v : Value} : Nx W v v := .inl rfl
theorem Nx.ne {W : World} {v v' : Value} (h : Nx W v v') {g : Nat} (hg : g < W.heap.size) (hv : v.ownBlock ≠ some g) : v'.ownBlock ≠ some g := by
 rcases h with h | h | h
 ·rw [h]; exact hv
 ·rw [h]
  intro e
  have := Option.some.inj e
  omega
 ·rw [h]
  intro e
  cases e
structure LnAt (B : Nat) (W : World) (ys : List Value) (D : LBook) (rv ev lv : Value) : Prop where
 len : ys.length = D.length * 2
 row : ∀ j (h : j < D.length), ∃ x y, ys[j * 2]? = some x ∧ ys[j * 2 + 1]? = some y ∧ RnRow W x D[j].1 ∧ ElRow W y D[j].2 ∧ Clear B W x rv ev lv ∧ Clear B W y rv ev lv
theorem rn_but {W W' : World} {v : Value} {l : List Nat} {r : Option Nat} (h : RnRow W v l) (hg : W.grownBy W' r) (hr : ∀ a n c, v = .slice (some a) n c → n ≠ 0 → a.block < W.heap.size ∧ r ≠ some a.block) : RnRow W' v l := by
 obtain ⟨p, cap, e, h2⟩ := h
 refine ⟨p, cap, e, fun hne => ?_⟩
 obtain ⟨g, e2, h3⟩ := h2 hne
 subst e2
 obtain ⟨h4, h5⟩ := hr _ _ _ e (fun h0 => hne (List.length_eq_zero_iff.1 h0))
 refine ⟨g, rfl, fun i hi => ?_⟩
 rw [World.cell?, hg.block g h4 (fun e => h5 e.symm)]
 exact h3 i hi
theorem el_but {W W' : World} {v : Value} {l : List El} {r : Option Nat} (h : ElRow W v l) (hg : W.grownBy W' r) (hr : ∀ a n c, v = .slice (some a) n c → n ≠ 0 → a.block < W.heap.size ∧ r ≠ some a.block) : ElRow W' v l := by
 rcases h with h | ⟨g, cap, e, hc, h3⟩
 ·exact .inl h
 ·refine .inr ⟨g, cap, e, hc, fun i hi => ?_⟩
  obtain ⟨h4, h5⟩ := hr _ _ _ e (by omega)
  have hb : W'.heap[g]? = W.heap[g]? := hg.block g h4 (fun e => h5 e.symm)
  obtain ⟨a1, a2, a3⟩ := h3 i hi
  refine ⟨?_, ?_, ?_⟩
  ·rw [World.cell?, hb]; exact a1
  ·rw [World.cell?, hb]; exact a2
  ·rw [World.cell?, hb]; exact a3
theorem LnAt.but {B : Nat} {W W' : World} {ys : List Value} {D : LBook} {rv ev lv rv' ev' lv' : Value} {r : Option Nat} (h : LnAt B W ys D rv ev lv) (hg : W.grownBy W' r)
  (hr : r = rv.ownBlock ∨ r = ev.ownBlock ∨ r = lv.ownBlock ∨ ∃ k, r = some k ∧ k < B) (h1 : Nx W rv rv') (h2 : Nx W ev ev') (h3 : Nx W lv lv') : LnAt B W' ys D rv' ev' lv' := by
 refine ⟨h.len, fun j hj => ?_⟩
 obtain ⟨x, y, e1, e2, hx, hy, cx, cy⟩ := h.row j hj
 have key : ∀ v, Clear B W v rv ev lv → ∀ a n c, v = .slice (some a) n c → n ≠ 0 → a.block < W.heap.size ∧ r ≠ some a.block := fun v hv a n c e hn => by
  obtain ⟨g1, g2, g3, g4, g5⟩ := hv a n c e hn
  refine ⟨g2, ?_⟩
  rcases hr with hr | hr | hr | ⟨k, hr, hk⟩
  ·rw [hr]; exact g3
  ·rw [hr]; exact g4
  ·rw [hr]; exact g5
  ·rw [hr]
   intro e
   have := Option.some.inj e
   omega
 have key2 : ∀ v, Clear B W v rv ev lv → Clear B W' v rv' ev' lv' := fun v hv a n c e hn => by
  obtain ⟨g1, g2, g3, g4, g5⟩ := hv a n c e hn
  exact ⟨g1, Nat.lt_of_lt_of_le g2 hg.size, h1.ne g2 g3, h2.ne g2 g4, h3.ne g2 g5⟩
 exact ⟨x, y, e1, e2, rn_but hx hg (key x cx), el_but hy hg (key y cy), key2 x cx, key2 y cy⟩
theorem LnAt.ext {B : Nat} {W W' : World} {ys : List Value} {D : LBook} {rv ev lv : Value} (h : LnAt B W ys D rv ev lv) (hx : Ext W W') : LnAt B W' ys D rv ev lv :=
 h.but (ext_grown hx rv.ownBlock) (.inl rfl) .same .same .same
theorem own_ne {W : World} {B B' : Nat} {e e' : TypeId} {s s' n n' : Nat} {v v' : Value} {xs xs' : List Value} (h : W.ownsRow B e s v n xs) (h' : W.ownsRow B' e' s' v' n' xs') (hne : e ≠ e') : v.ownBlock = none ∨ v.ownBlock ≠ v'.ownBlock := by
 rcases h.2 with ⟨rfl, _⟩ | ⟨g, cap, cur, rfl, _, hgb, _⟩
 ·exact .inl rfl
 ·refine .inr fun eq => ?_
  rcases h'.2 with ⟨rfl, _⟩ | ⟨g', cap', cur', rfl, _, hgb', _⟩
  ·cases eq
  ·obtain rfl : g = g' := Option.some.inj eq
   rw [hgb] at hgb'
   cases hgb'
   exact hne rfl
theorem own_ne' {W : World} {B B' : Nat} {e e' : TypeId} {s s' n n' : Nat} {v v' : Value} {xs xs' : List Value} (h : W.ownsRow B e s v n xs) (h' : W.ownsRow B' e' s' v' n' xs') (hne : e ≠ e') {g : Nat} (hg : v.ownBlock = some g) : v'.ownBlock ≠ some g := by
 rcases own_ne h h' hne with h1 | h1
 ·rw [h1] at hg; cases hg
 ·rw [hg] at h1
  exact fun e => h1 e.symm
theorem RnRow.of_own {w : World} {B : Nat} {v : Value} {l : List Nat} (h : w.ownsRow B 21 1 v l.length (zs l)) : RnRow w v l := by
 obtain ⟨p, cap, rfl⟩ := own_slice h
 refine ⟨p, cap, rfl, fun hne => ?_⟩
 obtain ⟨g, rfl, _, _, hc⟩ := own_at h (List.length_pos_iff.2 hne)
 exact ⟨g, rfl, fun i hi => (hc i (by omega)).trans (zs_get l i hi)⟩
theorem LnAt.snoc {B : Nat} {W : World} {ys : List Value} {D : LBook} {rv ev lv lv0 : Value} {R : List Nat} {E : List El} {n : Nat} {xs : List Value} (h : LnAt B W ys D rv ev lv)
  (hR : W.ownsRow B 21 1 rv R.length (zs R)) (hE : W.ownsRow B 59 3 ev E.length (elW E)) (hL : W.ownsRow B 57 2 lv n xs) (hz : lv0 = .slice none 0 0) :
  LnAt B W (ys ++ [rv, ev]) (D ++ [(R, E)]) lv0 lv0 lv := by
 subst hz
 have hb : ∀ {e : TypeId} {s n : Nat} {v : Value} {xs : List Value}, W.ownsRow B e s v n xs → ∀ a n c, v = .slice (some a) n c → v.ownBlock = some a.block := by
  intro e s n v xs h a m c e1
  rcases h.2 with ⟨e2, _⟩ | ⟨g, cap, cur, e2, _⟩
  ·rw [e2] at e1; cases e1
  ·rw [e2] at e1
   cases e1
   rw [e2]
   rfl
 have c1 : Clear B W rv (.slice none 0 0) (.slice none 0 0) lv := fun a m c e _ => by
  have h1 := hb hR a m c e
  exact ⟨(hR.lt _ h1).1, (hR.lt _ h1).2, (fun e => by cases e), (fun e => by cases e), own_ne' hR hL (by decide) h1⟩
 have c2 : Clear B W ev (.slice none 0 0) (.slice none 0 0) lv := fun a m c e _ => by
  have h1 := hb hE a m c e
  exact ⟨(hE.lt _ h1).1, (hE.lt _ h1).2, (fun e => by cases e), (fun e => by cases e), own_ne' hE hL (by decide) h1⟩
 refine ⟨by rw [List.length_append, List.length_append, h.len]; simp; omega, fun j hj => ?_⟩
 by_cases hjD : j < D.length
 ·obtain ⟨x, y, e1, e2, hx, hy, cx, cy⟩ := h.row j hjD
  have hl := h.len
  have k : ∀ v, Clear B W v rv ev lv → Clear B W v (.slice none 0 0) (.slice none 0 0) lv := fun v hv a m c e hn => by
   obtain ⟨g1, g2, g3, g4, g5⟩ := hv a m c e hn
   exact ⟨g1, g2, (fun e => by cases e), (fun e => by cases e), g5⟩
  rw [List.getElem_append_left hjD]
  exact ⟨x, y, by rw [List.getElem?_append_left (by omega)]; exact e1, by rw [List.getElem?_append_left (by omega)]; exact e2, hx, hy, k x cx, k y cy⟩
 ·have hjE : j = D.length := by simp at hj; omega
  subst hjE
  rw [List.getElem_append_right (by omega)]
  simp only [Nat.sub_self, List.getElem_cons_zero]
  refine ⟨rv, ev, ?_, ?_, .of_own hR, .of_own hE, c1, c2⟩
  ·rw [List.getElem?_append_right (by rw [h.len]; exact Nat.le_refl _), h.len, Nat.sub_self]; rfl
  ·rw [List.getElem?_append_right (by rw [h.len]; omega), h.len, show D.length * 2 + 1 - D.length * 2 = 1 by omega]; rfl
theorem LnAt.lrow {B : Nat} {W : World} {ys : List Value} {D : LBook} {rv ev lv : Value} (h : LnAt B W ys D rv ev lv) (hL : W.ownsRow B 57 2 lv D.length ys) : LRow W lv D := by
 obtain ⟨p, cap, rfl⟩ := own_slice hL
 refine ⟨p, cap, rfl, ?_, fun hne => ?_⟩
 ·rcases hL.2 with ⟨e, h0⟩ | ⟨g, cap', cur, e, _, _, hcap, _⟩
  ·omega
  ·cases e
   exact hcap
 ·obtain ⟨g, rfl, _, _, hc⟩ := own_at hL (List.length_pos_iff.2 hne)
  refine ⟨g, rfl, fun j hj => ?_⟩
  obtain ⟨x, y, e1, e2, hx, hy, _, _⟩ := h.row j hj
  exact ⟨x, y, (hc (j * 2) (by omega)).trans e1, (hc (j * 2 + 1) (by omega)).trans e2, hx, hy⟩
/-- Where the reading stands in memory. -/
structure NRaw (w1 : World) (kb tB : Nat) (W : World) (R : List Nat) (E : List El) (D : LBook) (e1 e2 e3 : Nat) (rv ev lv : Value) (ys : List Value) : Prop where
 sz : w1.heap.size = kb
 x : Ext w1 W
 bk : W.heap[kb]? = some (.cells #[lv, .pointer (some ⟨tB, 0, none⟩)] 54 (0, 0))
 bx : W.heap[kb + 1]? = some (.cells #[rv, ev] 57 (0, 0))
 be : W.heap[kb + 1 + 1]? = some (.cells #[.int .i64 (e1 : Nat), .int .i64 (e2 : Nat), .int .i64 (e3 : Nat)] 59 (0, 0))
 oR : W.ownsRow (kb + 1 + 1 + 1) 21 1 rv R.length (zs R)
 oE : W.ownsRow (kb + 1 + 1 + 1) 59 3 ev E.length (elW E)
 oL : W.ownsRow (kb + 1 + 1 + 1) 57 2 lv D.length ys
 ln : LnAt (kb + 1 + 1 + 1) W ys D rv ev lv
section
variable {w1 W wa : World} {kb tB : Nat} {R : List Nat} {E : List El} {D : LBook} {e1 e2 e3 : Nat} {rv ev lv : Value} {ys : List Value}
theorem NRaw.ext (h : NRaw w1 kb tB W R E D e1 e2 e3 rv ev lv ys) (hx : Ext W wa) : NRaw w1 kb tB wa R E D e1 e2 e3 rv ev lv ys :=
 ⟨h.sz, h.x.trans hx, hx.blk h.bk, hx.blk h.bx, hx.blk h.be, ownsRow_ext h.oR hx, ownsRow_ext h.oE hx, ownsRow_ext h.oL hx, h.ln.ext hx⟩
theorem low_ne {W : World} {kb k : Nat} {e : TypeId} {s n : Nat} {v : Value} {xs : List Value} (h : W.ownsRow (kb + 1 + 1 + 1) e s v n xs) (hk : k < kb + 1 + 1 + 1) : v.ownBlock = none ∨ v.ownBlock ≠ some k := by
 refine .inr fun e => ?_
 have := (h.lt _ e).1
 omega
theorem low_ne' {W : World} {kb k : Nat} {e : TypeId} {s n : Nat} {v : Value} {xs : List Value} (h : W.ownsRow (kb + 1 + 1 + 1) e s v n xs) (hk : k < kb + 1 + 1 + 1) : some k ≠ v.ownBlock := by
 intro e
 have := (h.lt _ e.symm).1
 omega
/-- A cell of the three boxes is set. -/
theorem NRaw.box (h : NRaw w1 kb tB W R E D e1 e2 e3 rv ev lv ys) {k i : Nat} {u : Value} (hk : kb ≤ k) (hk2 : k < kb + 1 + 1 + 1) :
  Ext w1 (W.setCell ⟨k, i, none⟩ u) ∧ (∀ g, g ≠ k → g < W.heap.size → (W.setCell ⟨k, i, none⟩ u).heap[g]? = W.heap[g]?) ∧ (W.setCell ⟨k, i, none⟩ u).ownsRow (kb + 1 + 1 + 1) 21 1 rv R.length (zs R) ∧
  (W.setCell ⟨k, i, none⟩ u).ownsRow (kb + 1 + 1 + 1) 59 3 ev E.length (elW E) ∧ (W.setCell ⟨k, i, none⟩ u).ownsRow (kb + 1 + 1 + 1) 57 2 lv D.length ys ∧ LnAt (kb + 1 + 1 + 1) (W.setCell ⟨k, i, none⟩ u) ys D rv ev lv := by
 have hg := grown_cell W k i u
 refine ⟨h.x.setCell (by rw [h.sz]; exact hk) u, fun g hne hlt => hg.block g hlt (by intro e; exact hne (Option.some.inj e)), h.oR.kept hg (low_ne h.oR hk2), h.oE.kept hg (low_ne h.oE hk2), h.oL.kept hg (low_ne h.oL hk2), h.ln.but hg (.inr (.inr (.inr ⟨k, rfl, hk2⟩))) .same .same .same⟩
theorem NRaw.setE1 (h : NRaw w1 kb tB W R E D e1 e2 e3 rv ev lv ys) (n : Nat) : NRaw w1 kb tB (W.setCell ⟨kb + 1 + 1, 0, none⟩ (.int .i64 (n : Nat))) R E D n e2 e3 rv ev lv ys := by
 obtain ⟨a1, a2, a3, a4, a5, a6⟩ := h.box (k := kb + 1 + 1) (i := 0) (u := .int .i64 (n : Nat)) (by omega) (by omega)
 exact ⟨h.sz, a1, (a2 _ (by omega) (blk_lt h.bk)).trans h.bk, (a2 _ (by omega) (blk_lt h.bx)).trans h.bx, (set_blk h.be 0 _).trans rfl, a3, a4, a5, a6⟩
theorem NRaw.setE2 (h : NRaw w1 kb tB W R E D e1 e2 e3 rv ev lv ys) (n : Nat) : NRaw w1 kb tB (W.setCell ⟨kb + 1 + 1, 1, none⟩ (.int .i64 (n : Nat))) R E D e1 n e3 rv ev lv ys := by
 obtain ⟨a1, a2, a3, a4, a5, a6⟩ := h.box (k := kb + 1 + 1) (i := 1) (u := .int .i64 (n : Nat)) (by omega) (by omega)
 exact ⟨h.sz, a1, (a2 _ (by omega) (blk_lt h.bk)).trans h.bk, (a2 _ (by omega) (blk_lt h.bx)).trans h.bx, (set_blk h.be 1 _).trans rfl, a3, a4, a5, a6⟩
theorem NRaw.setE3 (h : NRaw w1 kb tB W R E D e1 e2 e3 rv ev lv ys) (n : Nat) : NRaw w1 kb tB (W.setCell ⟨kb + 1 + 1, 2, none⟩ (.int .i64 (n : Nat))) R E D e1 e2 n rv ev lv ys := by
 obtain ⟨a1, a2, a3, a4, a5, a6⟩ := h.box (k := kb + 1 + 1) (i := 2) (u := .int .i64 (n : Nat)) (by omega) (by omega)
 exact ⟨h.sz, a1, (a2 _ (by omega) (blk_lt h.bk)).trans h.bk, (a2 _ (by omega) (blk_lt h.bx)).trans h.bx, (set_blk h.be 2 _).trans rfl, a3, a4, a5, a6⟩
theorem nx_at {W : World} {v v' : Value} (h : v'.ownBlock = v.ownBlock ∨ v'.ownBlock = some W.heap.size) : Nx W v v' := h.elim .inl fun h => .inr (.inl h)
/-- A row has grown; the boxes stand. -/
theorem NRaw.grown (h : NRaw w1 kb tB W R E D e1 e2 e3 rv ev lv ys) {w5 : World} {e : TypeId} {s n : Nat} {v : Value} {xs : List Value} (ho : W.ownsRow (kb + 1 + 1 + 1) e s v n xs) (g2 : W.grownBy w5 v.ownBlock) :
  Ext w1 w5 ∧ w5.heap[kb]? = W.heap[kb]? ∧ w5.heap[kb + 1]? = W.heap[kb + 1]? ∧ w5.heap[kb + 1 + 1]? = W.heap[kb + 1 + 1]? :=
 ⟨Below.grown h.x g2 h.x.sz (fun k e => by have := (ho.lt k e).1; have := h.sz; omega), g2.block _ (blk_lt h.bk) (low_ne' ho (by omega)), g2.block _ (blk_lt h.bx) (low_ne' ho (by omega)), g2.block _ (blk_lt h.be) (low_ne' ho (by omega))⟩
theorem NRaw.pushR (h : NRaw w1 kb tB W R E D e1 e2 e3 rv ev lv ys) {w5 : World} {v' : Value} {n : Nat} (g1 : w5.ownsRow (kb + 1 + 1 + 1) 21 1 v' (R.length + 1) (zs R ++ [.int .i32 (n : Nat)])) (g2 : W.grownBy w5 rv.ownBlock) (g4 : v'.ownBlock = rv.ownBlock ∨ v'.ownBlock = some W.heap.size) :
  NRaw w1 kb tB (w5.setCell ⟨kb + 1, 0, none⟩ v') (R ++ [n]) E D e1 e2 e3 v' ev lv ys := by
 obtain ⟨b0, b1, b2, b3⟩ := h.grown h.oR g2
 have h5 : LnAt (kb + 1 + 1 + 1) w5 ys D v' ev lv := h.ln.but g2 (.inl rfl) (nx_at g4) .same .same
 have e5 := h.oE.kept g2 (own_ne h.oE h.oR (by decide))
 have l5 := h.oL.kept g2 (own_ne h.oL h.oR (by decide))
 have r5 : w5.ownsRow (kb + 1 + 1 + 1) 21 1 v' (R ++ [n]).length (zs (R ++ [n])) := by
  have : zs (R ++ [n]) = zs R ++ [.int .i32 (n : Nat)] := by simp [zs, i32s]
  rw [this, List.length_append]
  exact g1
 have hg := grown_cell w5 (kb + 1) 0 v'
 refine ⟨h.sz, b0.setCell (by rw [h.sz]; exact Nat.le_succ _) _, ?_, (set_blk (b2.trans h.bx) 0 _).trans rfl, ?_, r5.kept hg (low_ne r5 (by omega)), e5.kept hg (low_ne e5 (by omega)), l5.kept hg (low_ne l5 (by omega)), h5.but hg (.inr (.inr (.inr ⟨kb + 1, rfl, by omega⟩))) .same .same .same⟩
 ·have := b1.trans h.bk
  rw [hg.block kb (blk_lt this) (by intro e; have := Option.some.inj e; omega), this]
 ·have := b3.trans h.be
  rw [hg.block (kb + 1 + 1) (blk_lt this) (by intro e; have := Option.some.inj e; omega), this]
theorem NRaw.pushE (h : NRaw w1 kb tB W R E D e1 e2 e3 rv ev lv ys) {w5 : World} {v' : Value} (g1 : w5.ownsRow (kb + 1 + 1 + 1) 59 3 v' (E.length + 1) (elW E ++ [.int .i64 (e1 : Nat), .int .i64 (e2 : Nat), .int .i64 (e3 : Nat)])) (g2 : W.grownBy w5 ev.ownBlock) (g4 : v'.ownBlock = ev.ownBlock ∨ v'.ownBlock = some W.heap.size) :
  NRaw w1 kb tB (w5.setCell ⟨kb + 1, 1, none⟩ v') R (E ++ [(e1, e2, e3)]) D e1 e2 e3 rv v' lv ys := by
 obtain ⟨b0, b1, b2, b3⟩ := h.grown h.oE g2
 have h5 : LnAt (kb + 1 + 1 + 1) w5 ys D rv v' lv := h.ln.but g2 (.inr (.inl rfl)) .same (nx_at g4) .same
 have r5 := h.oR.kept g2 (own_ne h.oR h.oE (by decide))
 have l5 := h.oL.kept g2 (own_ne h.oL h.oE (by decide))
 have e5 : w5.ownsRow (kb + 1 + 1 + 1) 59 3 v' (E ++ [(e1, e2, e3)]).length (elW (E ++ [(e1, e2, e3)])) := by
  have : elW (E ++ [(e1, e2, e3)]) = elW E ++ [.int .i64 (e1 : Nat), .int .i64 (e2 : Nat), .int .i64 (e3 : Nat)] := by rw [elW_app]; rfl
  rw [this, List.length_append]
  exact g1
 have hg := grown_cell w5 (kb + 1) 1 v'
 refine ⟨h.sz, b0.setCell (by rw [h.sz]; exact Nat.le_succ _) _, ?_, (set_blk (b2.trans h.bx) 1 _).trans rfl, ?_, r5.kept hg (low_ne r5 (by omega)), e5.kept hg (low_ne e5 (by omega)), l5.kept hg (low_ne l5 (by omega)), h5.but hg (.inr (.inr (.inr ⟨kb + 1, rfl, by omega⟩))) .same .same .same⟩
 ·have := b1.trans h.bk
  rw [hg.block kb (blk_lt this) (by intro e; have := Option.some.inj e; omega), this]
 ·have := b3.trans h.be
  rw [hg.block (kb + 1 + 1) (blk_lt this) (by intro e; have := Option.some.inj e; omega), this]
/-- A line is whole. -/
theorem NRaw.line (h : NRaw w1 kb tB W R E D e1 e2 e3 rv ev lv ys) {w5 w6 : World} {v' : Value} (g1 : w5.ownsRow (kb + 1 + 1 + 1) 57 2 v' (D.length + 1) (ys ++ [rv, ev])) (g2 : W.grownBy w5 lv.ownBlock) (g4 : v'.ownBlock = lv.ownBlock ∨ v'.ownBlock = some W.heap.size) (hx6 : Ext w5 w6) :
  NRaw w1 kb tB (((w6.setCell ⟨kb, 0, none⟩ v').setCell ⟨kb + 1, 0, none⟩ (.slice none 0 0)).setCell ⟨kb + 1, 1, none⟩ (.slice none 0 0)) [] [] (D ++ [(R, E)]) e1 e2 e3 (.slice none 0 0) (.slice none 0 0) v' (ys ++ [rv, ev]) := by
 obtain ⟨b0, b1, b2, b3⟩ := h.grown h.oL g2
 have r5 := h.oR.kept g2 (own_ne h.oR h.oL (by decide))
 have e5 := h.oE.kept g2 (own_ne h.oE h.oL (by decide))
 have h5 : LnAt (kb + 1 + 1 + 1) w5 ys D rv ev v' := h.ln.but g2 (.inr (.inr (.inl rfl))) .same .same (nx_at g4)
 have h6 : LnAt (kb + 1 + 1 + 1) w6 (ys ++ [rv, ev]) (D ++ [(R, E)]) (.slice none 0 0) (.slice none 0 0) v' := (h5.snoc r5 e5 g1 rfl).ext hx6
 have l6 := ownsRow_ext g1 hx6
 have bk6 := hx6.blk (b1.trans h.bk)
 have bx6 := hx6.blk (b2.trans h.bx)
 have be6 := hx6.blk (b3.trans h.be)
 have hs := h.sz
 have q1 := grown_cell w6 kb 0 v'
 have q2 := grown_cell (w6.setCell ⟨kb, 0, none⟩ v') (kb + 1) 0 (.slice none 0 0)
 have q3 := grown_cell ((w6.setCell ⟨kb, 0, none⟩ v').setCell ⟨kb + 1, 0, none⟩ (.slice none 0 0)) (kb + 1) 1 (.slice none 0 0)
 have x7 := (((b0.trans hx6).setCell (p := ⟨kb, 0, none⟩) (by rw [hs]; exact Nat.le_refl _) v').setCell (p := ⟨kb + 1, 0, none⟩) (by rw [hs]; exact Nat.le_succ _) (.slice none 0 0)).setCell (p := ⟨kb + 1, 1, none⟩) (by rw [hs]; exact Nat.le_succ _) (.slice none 0 0)
 have n1 : some kb ≠ some (kb + 1) := by intro e; have := Option.some.inj e; omega
 have n2 : some (kb + 1) ≠ some kb := fun e => n1 e.symm
 have n3 : some (kb + 1 + 1) ≠ some kb := by intro e; have := Option.some.inj e; omega
 have n4 : some (kb + 1 + 1) ≠ some (kb + 1) := by intro e; have := Option.some.inj e; omega
 have k1 := set_blk bk6 0 v'
 have k2 := (q2.block kb (blk_lt k1) n1).trans k1
 have k3 := (q3.block kb (blk_lt k2) n1).trans k2
 have m1 := (q1.block (kb + 1) (blk_lt bx6) n2).trans bx6
 have m2 := set_blk m1 0 (.slice none 0 0)
 have m3 := set_blk m2 1 (.slice none 0 0)
 have o1 := (q1.block (kb + 1 + 1) (blk_lt be6) n3).trans be6
 have o2 := (q2.block (kb + 1 + 1) (blk_lt o1) n4).trans o1
 have o3 := (q3.block (kb + 1 + 1) (blk_lt o2) n4).trans o2
 have l7 : (((w6.setCell ⟨kb, 0, none⟩ v').setCell ⟨kb + 1, 0, none⟩ (.slice none 0 0)).setCell ⟨kb + 1, 1, none⟩ (.slice none 0 0)).ownsRow (kb + 1 + 1 + 1) 57 2 v' (D ++ [(R, E)]).length (ys ++ [rv, ev]) := by
  rw [List.length_append]
  have l1 := l6.kept q1 (low_ne l6 (by omega))
  have l2 := l1.kept q2 (low_ne l1 (by omega))
  exact l2.kept q3 (low_ne l2 (by omega))
 have h7 := ((h6.but q1 (.inr (.inr (.inr ⟨kb, rfl, by omega⟩))) .same .same .same).but q2 (.inr (.inr (.inr ⟨kb + 1, rfl, by omega⟩))) .same .same .same).but q3 (.inr (.inr (.inr ⟨kb + 1, rfl, by omega⟩))) .same .same .same
 exact ⟨hs, x7, k3.trans rfl, m3.trans rfl, o3, World.ownsRow_nil _ _ _ _, World.ownsRow_nil _ _ _ _, l7, h7⟩
end
section
variable {P : Program} {ops : Array Oper} {rest : List Oper} {o : Oper} {a : Act}
/-- A row grows in a region that draws its order: only its own block may change. -/
theorem wpG_push {S : Addr → Prop} {bs : List Bool} {Q' : Exit → Act → World → Prop} (hgd : o.guard = none) (hQo : ∀ a w, ¬ gQ Q' .outgrown a w) (s x : Operand) (t : TypeId) (ho : o.op = .call { callee := .builtin .append, args := #[s, x], argTypes := #[t, t] })
  (e : TypeId) (i : TypeInfo) (z : Value) (size bytes : Nat) (ht : P.underlying t = some (.slice e)) (hi : P.info? e = some i) (hz : i.zero = some z)
  (hsize : i.size = size) (hby : i.bytes = bytes) (hzs : z.cells.size = size) (hsz : 0 < size)
  {B : Nat} {wr : World} {v : Value} {n : Nat} {xs : List Value} (hs : a.eval s = v) (hown : wr.ownsRow B e size v n xs) (hB : B ≤ wr.heap.size)
  (news : List Value) (g f m c : Nat) (hxv : a.eval x = .slice (some ⟨g, f, none⟩) m c) (hl : news.length = m * size) (hc : ∀ j (h : j < news.length), wr.cell? ⟨g, f + j, none⟩ = some news[j]) (h1 : ∀ u ∈ news, u.oneCell' = true)
  (hS : ∀ ad : Addr, S ad → v.ownBlock ≠ some ad.block)
  (hn : n + m ≤ 100000000) (hb : bytes ≤ 1000)
  (h : ∀ v' w2 w', Ext wr w2 → w'.ownsRow B e size v' (n + m) (xs ++ news) → w2.grownBy w' v.ownBlock → (v'.ownBlock = v.ownBlock ∨ v'.ownBlock = some w2.heap.size) → wpG S P ops Q' bs rest (a.put o.dst v') w') : wpG S P ops Q' (false :: bs) (o :: rest) a wr := by
 intro w2 hx2
 have hw : Region.wanted o (yielded ops a.tmps) = true := by unfold Region.wanted; rw [hgd]
 refine ⟨hw, ?_⟩
 have hown2 := ownsRow_ext hown hx2
 refine wp_alone (ops := #[]) (by unfold Region.wanted; rw [hgd]) hQo ?_
 refine wpList_append_own_at _ hgd s x t ho B e i z size bytes ht hi hz hsize hby hzs hsz v n xs hs hown2 ⟨g, f, none⟩ m c news hxv hl (fun j u hu => ?_) h1 (by unfold maxLen; omega) (Nat.le_trans (Nat.mul_le_mul (show n + m ≤ 100000000 by omega) hb) (by decide)) (Nat.le_trans hB hx2.sz) ?_
 ·obtain ⟨hj, e⟩ := List.getElem?_eq_some_iff.1 hu
  have := hx2.cell (hc j hj)
  rw [e] at this
  rw [Addr.add_lit]
  exact this
 ·intro v' w' h2 h3 _ h4
  exact ⟨EOn.of_grown h3 (fun ad hS' _ eq => hS ad hS' eq.symm), h v' w2 w' hx2 h2 h3 h4⟩
end
end Go.Proofs.YtokeamebcdhnpaaGreatDoor
end

section
namespace Go.Proofs.YtokeamebcdhnpaaGreatDoor
open Go.RowKit Go.Rp Go.Shelf Go.Maps Go.Cl

theorem wp_slot {P : Program} {c : Code} {Q : Exit → Act → World → Prop} {tm : Array Value} {d : List Deferred} {w : World} (k : Nat) (s' : ByteArray) {s : ByteArray} (he : tm[k]? = some (.string s)) (hs : s = s') (h : c.wp P Q ⟨tm.setIfInBounds k (.string s'), d⟩ w) : c.wp P Q ⟨tm, d⟩ w := by
 subst hs
 have e : tm.setIfInBounds k (.string s) = tm := by
  apply Array.ext (by simp)
  intro i h1 h2
  rw [Array.getElem_setIfInBounds h2]
  split
  ·subst_vars
   rw [Array.getElem?_eq_getElem h2] at he
   exact (Option.some.inj he).symm
  ·rfl
 rw [e] at h
 exact h
theorem le_app1 {α : Type} (l : List α) (x : α) {i : Nat} (h : l.length ≤ i) : (l ++ [x]).length ≤ i + 1 := by
 rw [List.length_append]
 exact Nat.add_le_add_right h 1
theorem infoLnK : (Tryz.prog.info? 57).map (fun i => (i.zero, i.size, i.bytes)) = some (some (.agg #[.slice none 0 0, .slice none 0 0]), 2, 48) := by kernel_rfl
set_option maxRecDepth 100000 in
set_option maxHeartbeats 8000000 in
theorem c_bkNew (w : World) : Calls Tryz.prog 9 #[] w fun e w' => ∃ kb, e = .returned (.pointer (some ⟨kb, 0, none⟩)) ∧ BkAt w' kb ∧ Ext w w' := by
 go_enter Tryz.func9, Tryz.ntmps9
 go_wp2_with fail
 refine (c_rTables w).mono ?_
 rintro e w1 ⟨tB, rfl, hr1, hx1⟩
 have HX1 := Lib.hid (And.intro hx1 hr1)
 clear hx1 hr1
 go_wp2_with fail
 refine wp_slot 2 textW (by rfl) (by kernel_rfl) ?_
 simp only [List.setIfInBounds_toArray, List.set_cons_succ, List.set_cons_zero]
 have HT := Lib.hid (show byts textW = textB ∧ textW.size ≤ 1000000 from ⟨rfl, textW_small.1⟩)
 have hHE : Hid (∃ i0, Tryz.prog.info? 59 = some i0 ∧ i0.zero = some (.agg #[.int .i64 0, .int .i64 0, .int .i64 0]) ∧ i0.size = 3 ∧ i0.bytes = 24) := by
  obtain ⟨i0, hi, hz0, hz1, hz2⟩ := info_parts Tryz.infoEl
  exact ⟨i0, hi, hz0, hz1, hz2⟩
 have hHL : Hid (∃ i0, Tryz.prog.info? 57 = some i0 ∧ i0.zero = some (.agg #[.slice none 0 0, .slice none 0 0]) ∧ i0.size = 2 ∧ i0.bytes = 48) := by
  obtain ⟨i0, hi, hz0, hz1, hz2⟩ := info_parts infoLnK
  exact ⟨i0, hi, hz0, hz1, hz2⟩
 have hHI : Hid (∃ i0, Tryz.prog.info? 21 = some i0 ∧ i0.zero = some (.int .i32 0) ∧ i0.size = 1 ∧ i0.bytes = 4) := by
  obtain ⟨i0, hi, hz0, hz1, hz2⟩ := info_parts Tryz.infoI
  exact ⟨i0, hi, hz0, hz1, hz2⟩
 obtain ⟨s, hs⟩ : ∃ s, textW = s := ⟨_, rfl⟩
 rw [hs] at HT ⊢
 clear hs
 have hx2 := (Ext.refl w1).alloc (.cells #[.slice none 0 0, .pointer (some ⟨tB, 0, none⟩)] 54)
 have hb2 := World.alloc_heap_new w1 (.cells #[.slice none 0 0, .pointer (some ⟨tB, 0, none⟩)] 54)
 have hs2 := World.size_alloc w1 (.cells #[.slice none 0 0, .pointer (some ⟨tB, 0, none⟩)] 54)
 generalize w1.alloc (.cells #[.slice none 0 0, .pointer (some ⟨tB, 0, none⟩)] 54) = w2 at hx2 hb2 hs2 ⊢
 have hx3 := (Ext.refl w2).alloc (.cells #[.slice none 0 0, .slice none 0 0] 57)
 have hb3 := World.alloc_heap_new w2 (.cells #[.slice none 0 0, .slice none 0 0] 57)
 have hs3 := World.size_alloc w2 (.cells #[.slice none 0 0, .slice none 0 0] 57)
 generalize w2.alloc (.cells #[.slice none 0 0, .slice none 0 0] 57) = w3 at hx3 hb3 hs3 ⊢
 have hx4 := (Ext.refl w3).alloc (.cells #[.int .i64 0, .int .i64 0, .int .i64 0] 59)
 have hb4 := World.alloc_heap_new w3 (.cells #[.int .i64 0, .int .i64 0, .int .i64 0] 59)
 have hs4 := World.size_alloc w3 (.cells #[.int .i64 0, .int .i64 0, .int .i64 0] 59)
 generalize w3.alloc (.cells #[.int .i64 0, .int .i64 0, .int .i64 0] 59) = w4 at hx4 hb4 hs4 ⊢
 have hb2' := (hx3.trans hx4).blk hb2
 have hb3' := hx4.blk hb3
 obtain ⟨kb, hkb⟩ : ∃ kb, w1.heap.size = kb := ⟨_, rfl⟩
 rw [hkb] at hs2 hb2' ⊢
 rw [hs2] at hs3 hb3'
 rw [hs3] at hs4 hb4
 have H0 := Lib.hid (show NRaw w1 kb tB w4 [] [] [] 0 0 0 (.slice none 0 0) (.slice none 0 0) (.slice none 0 0) [] from ⟨hkb, hx2.trans (hx3.trans hx4), hb2', hb3', hb4, World.ownsRow_nil _ _ _ _, World.ownsRow_nil _ _ _ _, World.ownsRow_nil _ _ _ _, ⟨rfl, fun j h => (by cases h)⟩⟩)
 clear hx2 hb2 hs2 hx3 hb3 hs3 hx4 hb4 hs4 hb2' hb3' hkb
 have HB := Lib.hid (show bookR = parseK textB nst0 ∧ Cl.okK textB nst0 = true from ⟨rfl, bookR_facts.1⟩)
 have hsI : ((s.size : Nat) : Int) ≤ 1000000 := by have := HT.out.2; omega
 go_loopw [4, 5, 6, 8, 9] (fun nv av bv pv iv W => ∃ (i : Nat) (st : NSt) (D : LBook) (e3 : Nat) (rv ev lv : Value) (ys : List Value), iv = .int .i64 (i : Nat) ∧ i ≤ s.size ∧ nv = .int .i64 (st.n : Nat) ∧ av = .bool st.any ∧ bv = .bool st.behind ∧ pv = .int .i64 (st.part : Nat) ∧ Hid (bookR = D ++ parseK (textB.drop i) st ∧ Cl.okK (textB.drop i) st = true ∧ D.length ≤ i ∧ st.R.length ≤ i ∧ st.E.length ≤ i) ∧ Hid (NRaw w1 kb tB W st.R st.E D st.e1 st.e2 e3 rv ev lv ys)) (fun _ _ _ _ iv _ => s.size + 1 - (intOf iv).toNat)
 case atStart => exact ⟨0, nst0, [], 0, _, _, _, _, rfl, by omega, rfl, rfl, rfl, rfl, Lib.hid ⟨HB.out.1, HB.out.2, Nat.le_refl _, Nat.le_refl _, Nat.le_refl _⟩, H0⟩
 case round =>
  obtain ⟨i, st, D, e3, rv, ev, lv, ys, rfl, hi, rfl, rfl, rfl, rfl, HP, HN⟩ := hrel
  obtain ⟨R, E, n, any, behind, e1, e2, part⟩ := st
  simp only at HN ⊢
  by_cases hlt : i < s.size
  ·have hd : decide (i < s.size) = true := decide_eq_true hlt
   have hI : ((i : Nat) : Int) < (s.size : Nat) := by omega
   obtain ⟨hp1, hp2, hp3, hp4, hp5⟩ := HP.out
   have hdr : textB.drop i = (s[i]'hlt).toNat :: textB.drop (i + 1) := by
    rw [← HT.out.1]
    exact byts_get s i hlt
   have hc256 := (s[i]'hlt).toNat_lt
   rw [hdr] at hp1 hp2
   obtain ⟨c, hc⟩ : ∃ c : Nat, (s[i]'hlt).toNat = c := ⟨_, rfl⟩
   rw [hc] at hp1 hp2 hc256
   clear hdr
   rw [parseK] at hp1
   rw [Cl.okK] at hp2
   simp only [Bool.and_eq_true, decide_eq_true_eq] at hp2
   obtain ⟨⟨hn, hpart⟩, hp2⟩ := hp2
   simp only at hp3 hp4 hp5
   have k0 : wr.cell? ⟨kb, 0, none⟩ = some lv := (cell_blk HN.out.bk 0).trans rfl
   have x0 : wr.cell? ⟨kb + 1, 0, none⟩ = some rv := (cell_blk HN.out.bx 0).trans rfl
   have x1 : wr.cell? ⟨kb + 1, 1, none⟩ = some ev := (cell_blk HN.out.bx 1).trans rfl
   have z0 : wr.cell? ⟨kb + 1 + 1, 0, none⟩ = some (.int .i64 (e1 : Nat)) := (cell_blk HN.out.be 0).trans rfl
   have z1 : wr.cell? ⟨kb + 1 + 1, 1, none⟩ = some (.int .i64 (e2 : Nat)) := (cell_blk HN.out.be 1).trans rfl
   have z2 : wr.cell? ⟨kb + 1 + 1, 2, none⟩ = some (.int .i64 (e3 : Nat)) := (cell_blk HN.out.be 2).trans rfl
   have fk := frz_blk HN.out.bk 0
   have fx0 := frz_blk HN.out.bx 0
   have fx1 := frz_blk HN.out.bx 1
   have fz0 := frz_blk HN.out.be 0
   have fz1 := frz_blk HN.out.be 1
   have fz2 := frz_blk HN.out.be 2
   obtain ⟨pR, cR, rfl⟩ := own_slice HN.out.oR
   obtain ⟨pE, cE, rfl⟩ := own_slice HN.out.oE
   obtain ⟨pL, cL, rfl⟩ := own_slice HN.out.oL
   by_cases hsep : sepK c = true
   ·rw [if_pos hsep] at hp1 hp2
    have hcs : c = 32 ∨ c = 46 ∨ c = 59 ∨ c = 10 := by
     unfold sepK at hsep
     simp at hsep
     omega
    have HPK := Lib.hid (And.intro hp1 (And.intro hp2 (And.intro hp3 (And.intro hp4 hp5))))
    have HBD := Lib.hid (show n < 16777216 ∧ R.length ≤ 1000000 ∧ E.length ≤ 1000000 ∧ D.length ≤ 1000000 from ⟨hn, by omega, by omega, by omega⟩)
    have hw32 : wrap32 ((n : Nat) : Int) = ((n : Nat) : Int) := by unfold wrap32; omega
    clear hp1 hp2 hn hsep HP HB H0 hp3 hp4 hp5 hc256
    rcases hcs with rfl | rfl | rfl | rfl
    iterate 2
     ·cases any with
      | true =>
       cases behind with
       | false =>
        go_wp2_with (at_builtin; refine Hid.out ?_)
        refine Lib.hid ?_
        have hxa := (Ext.refl wr).alloc (.cells #[.int .i32 (n : Nat)] 21)
        have hba := World.alloc_heap_new wr (.cells #[.int .i32 (n : Nat)] 21)
        generalize wr.alloc (.cells #[.int .i32 (n : Nat)] 21) = wa at hxa hba ⊢
        generalize wr.heap.size = nb at hba ⊢
        have HA := Lib.hid (HN.out.ext hxa)
        obtain ⟨i0, hi0, hz0, hz1, hz3⟩ := hHI.out
        refine wpList_append_own_at wa rfl (.tmp 56) (.tmp 59) 55 rfl (kb + 1 + 1 + 1) 21 i0 (.int .i32 0) 1 4 Tryz.underlying55 hi0 hz0 hz1 hz3 rfl (by decide) _ R.length (zs R) rfl HA.out.oR ⟨nb, 0, none⟩ 1 1 [.int .i32 (n : Nat)] rfl rfl (fun j u hj => by rw [Addr.add_lit]; exact (cell_blk hba (0 + j)).trans (by simpa using hj)) (by intro u hu; simp at hu; subst hu; rfl) (by unfold maxLen; have := HBD.out.2.1; omega) (by have := HBD.out.2.1; omega) (by have := blk_lt HA.out.be; omega) ?_
        intro v' w5 g1 g2 _ g4
        obtain ⟨pv, cv, rfl⟩ := own_slice g1
        obtain ⟨b0, b1, b2, b3⟩ := HA.out.grown HA.out.oR g2
        have HNX := Lib.hid (HA.out.pushR g1 g2 g4)
        have x0' : w5.cell? ⟨kb + 1, 0, none⟩ = some (.slice pR R.length cR) := (cell_blk (b2.trans HA.out.bx) 0).trans rfl
        have fx0' := frz_blk (b2.trans HA.out.bx) 0
        clear b0 b1 b2 b3 g1 g2 g4 hba hxa x0 x1 z0 z1 z2 fx0 fx1 fz0 fz1 fz2 k0 fk
        go_wp2_with fail
        exact ⟨⟨i + 1, ⟨(R ++ [n]), E, 0, false, false, e1, e2, part⟩, D, e3, _, _, _, _, by simp, by omega, rfl, rfl, rfl, rfl, Lib.hid ⟨HPK.out.1, HPK.out.2.1, Nat.le_succ_of_le HPK.out.2.2.1, by first | exact Nat.le_succ_of_le HPK.out.2.2.2.1 | exact le_app1 _ _ HPK.out.2.2.2.1, by first | exact Nat.le_succ_of_le HPK.out.2.2.2.2 | exact le_app1 _ _ HPK.out.2.2.2.2⟩, HNX⟩, by simp only [intOf]; omega⟩
       | true =>
        rcases (show part = 0 ∨ part = 1 ∨ part = 2 by omega) with rfl | rfl | rfl
        ·have HNX := Lib.hid (HN.out.setE1 n)
         go_wp2_with fail
         exact ⟨⟨i + 1, ⟨R, E, 0, false, true, n, e2, 1⟩, D, e3, _, _, _, _, by simp, by omega, rfl, rfl, rfl, rfl, Lib.hid ⟨HPK.out.1, HPK.out.2.1, Nat.le_succ_of_le HPK.out.2.2.1, by first | exact Nat.le_succ_of_le HPK.out.2.2.2.1 | exact le_app1 _ _ HPK.out.2.2.2.1, by first | exact Nat.le_succ_of_le HPK.out.2.2.2.2 | exact le_app1 _ _ HPK.out.2.2.2.2⟩, HNX⟩, by simp only [intOf]; omega⟩
        ·have HNX := Lib.hid (HN.out.setE2 n)
         go_wp2_with fail
         exact ⟨⟨i + 1, ⟨R, E, 0, false, true, e1, n, 2⟩, D, e3, _, _, _, _, by simp, by omega, rfl, rfl, rfl, rfl, Lib.hid ⟨HPK.out.1, HPK.out.2.1, Nat.le_succ_of_le HPK.out.2.2.1, by first | exact Nat.le_succ_of_le HPK.out.2.2.2.1 | exact le_app1 _ _ HPK.out.2.2.2.1, by first | exact Nat.le_succ_of_le HPK.out.2.2.2.2 | exact le_app1 _ _ HPK.out.2.2.2.2⟩, HNX⟩, by simp only [intOf]; omega⟩
        ·go_wp2_with (at_builtin; refine Hid.out ?_)
         refine Lib.hid ?_
         have HM := Lib.hid (HN.out.setE3 n)
         have hsq : (wr.setCell ⟨kb + 1 + 1, 2, none⟩ (.int .i64 (n : Nat))).heap.size = wr.heap.size := by simp
         clear x0 x1 z0 z1 z2 fx0 fx1 fz0 fz1 fz2 k0 fk
         generalize wr.setCell ⟨kb + 1 + 1, 2, none⟩ (.int .i64 (n : Nat)) = wq at HM hsq ⊢
         have hxa := (Ext.refl wq).alloc (.cells #[.int .i64 (e1 : Nat), .int .i64 (e2 : Nat), .int .i64 (n : Nat)] 59)
         have hba := World.alloc_heap_new wq (.cells #[.int .i64 (e1 : Nat), .int .i64 (e2 : Nat), .int .i64 (n : Nat)] 59)
         rw [hsq] at hba
         generalize wq.alloc (.cells #[.int .i64 (e1 : Nat), .int .i64 (e2 : Nat), .int .i64 (n : Nat)] 59) = wa at hxa hba ⊢
         generalize wr.heap.size = nb at hba hsq ⊢
         have HA := Lib.hid (HM.out.ext hxa)
         obtain ⟨i0, hi0, hz0, hz1, hz3⟩ := hHE.out
         refine wpList_append_own_at wa rfl (.tmp 70) (.tmp 72) 28 rfl (kb + 1 + 1 + 1) 59 i0 (.agg #[.int .i64 0, .int .i64 0, .int .i64 0]) 3 24 Tryz.underlying28 hi0 hz0 hz1 hz3 rfl (by decide) _ E.length (elW E) rfl HA.out.oE ⟨nb, 0, none⟩ 1 1 [.int .i64 (e1 : Nat), .int .i64 (e2 : Nat), .int .i64 (n : Nat)] rfl rfl (fun j u hj => by rw [Addr.add_lit]; exact (cell_blk hba (0 + j)).trans (by simpa using hj)) (by intro u hu; simp at hu; rcases hu with rfl | rfl | rfl <;> rfl) (by unfold maxLen; have := HBD.out.2.2.1; omega) (by have := HBD.out.2.2.1; omega) (by have := blk_lt HA.out.be; omega) ?_
         intro v' w5 g1 g2 _ g4
         obtain ⟨pv, cv, rfl⟩ := own_slice g1
         obtain ⟨b0, b1, b2, b3⟩ := HA.out.grown HA.out.oE g2
         have HNX := Lib.hid (HA.out.pushE g1 g2 g4)
         have x1' : w5.cell? ⟨kb + 1, 1, none⟩ = some (.slice pE E.length cE) := (cell_blk (b2.trans HA.out.bx) 1).trans rfl
         have fx1' := frz_blk (b2.trans HA.out.bx) 1
         clear b0 b1 b2 b3 g1 g2 g4 hba hxa hsq
         go_wp2_with fail
         exact ⟨⟨i + 1, ⟨R, (E ++ [(e1, e2, n)]), 0, false, true, e1, e2, 0⟩, D, n, _, _, _, _, by simp, by omega, rfl, rfl, rfl, rfl, Lib.hid ⟨HPK.out.1, HPK.out.2.1, Nat.le_succ_of_le HPK.out.2.2.1, by first | exact Nat.le_succ_of_le HPK.out.2.2.2.1 | exact le_app1 _ _ HPK.out.2.2.2.1, by first | exact Nat.le_succ_of_le HPK.out.2.2.2.2 | exact le_app1 _ _ HPK.out.2.2.2.2⟩, HNX⟩, by simp only [intOf]; omega⟩
      | false =>
       have HNX := HN
       go_wp2_with fail
       exact ⟨⟨i + 1, ⟨R, E, 0, false, behind, e1, e2, part⟩, D, e3, _, _, _, _, by simp, by omega, rfl, rfl, rfl, rfl, Lib.hid ⟨HPK.out.1, HPK.out.2.1, Nat.le_succ_of_le HPK.out.2.2.1, by first | exact Nat.le_succ_of_le HPK.out.2.2.2.1 | exact le_app1 _ _ HPK.out.2.2.2.1, by first | exact Nat.le_succ_of_le HPK.out.2.2.2.2 | exact le_app1 _ _ HPK.out.2.2.2.2⟩, HNX⟩, by simp only [intOf]; omega⟩
    ·cases any with
     | true =>
      cases behind with
      | false =>
       go_wp2_with (at_builtin; refine Hid.out ?_)
       refine Lib.hid ?_
       have hxa := (Ext.refl wr).alloc (.cells #[.int .i32 (n : Nat)] 21)
       have hba := World.alloc_heap_new wr (.cells #[.int .i32 (n : Nat)] 21)
       generalize wr.alloc (.cells #[.int .i32 (n : Nat)] 21) = wa at hxa hba ⊢
       generalize wr.heap.size = nb at hba ⊢
       have HA := Lib.hid (HN.out.ext hxa)
       obtain ⟨i0, hi0, hz0, hz1, hz3⟩ := hHI.out
       refine wpList_append_own_at wa rfl (.tmp 56) (.tmp 59) 55 rfl (kb + 1 + 1 + 1) 21 i0 (.int .i32 0) 1 4 Tryz.underlying55 hi0 hz0 hz1 hz3 rfl (by decide) _ R.length (zs R) rfl HA.out.oR ⟨nb, 0, none⟩ 1 1 [.int .i32 (n : Nat)] rfl rfl (fun j u hj => by rw [Addr.add_lit]; exact (cell_blk hba (0 + j)).trans (by simpa using hj)) (by intro u hu; simp at hu; subst hu; rfl) (by unfold maxLen; have := HBD.out.2.1; omega) (by have := HBD.out.2.1; omega) (by have := blk_lt HA.out.be; omega) ?_
       intro v' w5 g1 g2 _ g4
       obtain ⟨pv, cv, rfl⟩ := own_slice g1
       obtain ⟨b0, b1, b2, b3⟩ := HA.out.grown HA.out.oR g2
       have HNX := Lib.hid (HA.out.pushR g1 g2 g4)
       have x0' : w5.cell? ⟨kb + 1, 0, none⟩ = some (.slice pR R.length cR) := (cell_blk (b2.trans HA.out.bx) 0).trans rfl
       have fx0' := frz_blk (b2.trans HA.out.bx) 0
       clear b0 b1 b2 b3 g1 g2 g4 hba hxa x0 x1 z0 z1 z2 fx0 fx1 fz0 fz1 fz2 k0 fk
       go_wp2_with fail
       exact ⟨⟨i + 1, ⟨(R ++ [n]), E, 0, false, true, e1, e2, part⟩, D, e3, _, _, _, _, by simp, by omega, rfl, rfl, rfl, rfl, Lib.hid ⟨HPK.out.1, HPK.out.2.1, Nat.le_succ_of_le HPK.out.2.2.1, by first | exact Nat.le_succ_of_le HPK.out.2.2.2.1 | exact le_app1 _ _ HPK.out.2.2.2.1, by first | exact Nat.le_succ_of_le HPK.out.2.2.2.2 | exact le_app1 _ _ HPK.out.2.2.2.2⟩, HNX⟩, by simp only [intOf]; omega⟩
      | true =>
       rcases (show part = 0 ∨ part = 1 ∨ part = 2 by omega) with rfl | rfl | rfl
       ·have HNX := Lib.hid (HN.out.setE1 n)
        go_wp2_with fail
        exact ⟨⟨i + 1, ⟨R, E, 0, false, true, n, e2, 1⟩, D, e3, _, _, _, _, by simp, by omega, rfl, rfl, rfl, rfl, Lib.hid ⟨HPK.out.1, HPK.out.2.1, Nat.le_succ_of_le HPK.out.2.2.1, by first | exact Nat.le_succ_of_le HPK.out.2.2.2.1 | exact le_app1 _ _ HPK.out.2.2.2.1, by first | exact Nat.le_succ_of_le HPK.out.2.2.2.2 | exact le_app1 _ _ HPK.out.2.2.2.2⟩, HNX⟩, by simp only [intOf]; omega⟩
       ·have HNX := Lib.hid (HN.out.setE2 n)
        go_wp2_with fail
        exact ⟨⟨i + 1, ⟨R, E, 0, false, true, e1, n, 2⟩, D, e3, _, _, _, _, by simp, by omega, rfl, rfl, rfl, rfl, Lib.hid ⟨HPK.out.1, HPK.out.2.1, Nat.le_succ_of_le HPK.out.2.2.1, by first | exact Nat.le_succ_of_le HPK.out.2.2.2.1 | exact le_app1 _ _ HPK.out.2.2.2.1, by first | exact Nat.le_succ_of_le HPK.out.2.2.2.2 | exact le_app1 _ _ HPK.out.2.2.2.2⟩, HNX⟩, by simp only [intOf]; omega⟩
       ·go_wp2_with (at_builtin; refine Hid.out ?_)
        refine Lib.hid ?_
        have HM := Lib.hid (HN.out.setE3 n)
        have hsq : (wr.setCell ⟨kb + 1 + 1, 2, none⟩ (.int .i64 (n : Nat))).heap.size = wr.heap.size := by simp
        clear x0 x1 z0 z1 z2 fx0 fx1 fz0 fz1 fz2 k0 fk
        generalize wr.setCell ⟨kb + 1 + 1, 2, none⟩ (.int .i64 (n : Nat)) = wq at HM hsq ⊢
        have hxa := (Ext.refl wq).alloc (.cells #[.int .i64 (e1 : Nat), .int .i64 (e2 : Nat), .int .i64 (n : Nat)] 59)
        have hba := World.alloc_heap_new wq (.cells #[.int .i64 (e1 : Nat), .int .i64 (e2 : Nat), .int .i64 (n : Nat)] 59)
        rw [hsq] at hba
        generalize wq.alloc (.cells #[.int .i64 (e1 : Nat), .int .i64 (e2 : Nat), .int .i64 (n : Nat)] 59) = wa at hxa hba ⊢
        generalize wr.heap.size = nb at hba hsq ⊢
        have HA := Lib.hid (HM.out.ext hxa)
        obtain ⟨i0, hi0, hz0, hz1, hz3⟩ := hHE.out
        refine wpList_append_own_at wa rfl (.tmp 70) (.tmp 72) 28 rfl (kb + 1 + 1 + 1) 59 i0 (.agg #[.int .i64 0, .int .i64 0, .int .i64 0]) 3 24 Tryz.underlying28 hi0 hz0 hz1 hz3 rfl (by decide) _ E.length (elW E) rfl HA.out.oE ⟨nb, 0, none⟩ 1 1 [.int .i64 (e1 : Nat), .int .i64 (e2 : Nat), .int .i64 (n : Nat)] rfl rfl (fun j u hj => by rw [Addr.add_lit]; exact (cell_blk hba (0 + j)).trans (by simpa using hj)) (by intro u hu; simp at hu; rcases hu with rfl | rfl | rfl <;> rfl) (by unfold maxLen; have := HBD.out.2.2.1; omega) (by have := HBD.out.2.2.1; omega) (by have := blk_lt HA.out.be; omega) ?_
        intro v' w5 g1 g2 _ g4
        obtain ⟨pv, cv, rfl⟩ := own_slice g1
        obtain ⟨b0, b1, b2, b3⟩ := HA.out.grown HA.out.oE g2
        have HNX := Lib.hid (HA.out.pushE g1 g2 g4)
        have x1' : w5.cell? ⟨kb + 1, 1, none⟩ = some (.slice pE E.length cE) := (cell_blk (b2.trans HA.out.bx) 1).trans rfl
        have fx1' := frz_blk (b2.trans HA.out.bx) 1
        clear b0 b1 b2 b3 g1 g2 g4 hba hxa hsq
        go_wp2_with fail
        exact ⟨⟨i + 1, ⟨R, (E ++ [(e1, e2, n)]), 0, false, true, e1, e2, 0⟩, D, n, _, _, _, _, by simp, by omega, rfl, rfl, rfl, rfl, Lib.hid ⟨HPK.out.1, HPK.out.2.1, Nat.le_succ_of_le HPK.out.2.2.1, by first | exact Nat.le_succ_of_le HPK.out.2.2.2.1 | exact le_app1 _ _ HPK.out.2.2.2.1, by first | exact Nat.le_succ_of_le HPK.out.2.2.2.2 | exact le_app1 _ _ HPK.out.2.2.2.2⟩, HNX⟩, by simp only [intOf]; omega⟩
     | false =>
      have HNX := HN
      go_wp2_with fail
      exact ⟨⟨i + 1, ⟨R, E, 0, false, true, e1, e2, part⟩, D, e3, _, _, _, _, by simp, by omega, rfl, rfl, rfl, rfl, Lib.hid ⟨HPK.out.1, HPK.out.2.1, Nat.le_succ_of_le HPK.out.2.2.1, by first | exact Nat.le_succ_of_le HPK.out.2.2.2.1 | exact le_app1 _ _ HPK.out.2.2.2.1, by first | exact Nat.le_succ_of_le HPK.out.2.2.2.2 | exact le_app1 _ _ HPK.out.2.2.2.2⟩, HNX⟩, by simp only [intOf]; omega⟩
    ·cases any with
     | true =>
      cases behind with
      | false =>
       go_wp2_with (at_builtin; refine Hid.out ?_)
       refine Lib.hid ?_
       have hxa := (Ext.refl wr).alloc (.cells #[.int .i32 (n : Nat)] 21)
       have hba := World.alloc_heap_new wr (.cells #[.int .i32 (n : Nat)] 21)
       generalize wr.alloc (.cells #[.int .i32 (n : Nat)] 21) = wa at hxa hba ⊢
       generalize wr.heap.size = nb at hba ⊢
       have HA := Lib.hid (HN.out.ext hxa)
       obtain ⟨i0, hi0, hz0, hz1, hz3⟩ := hHI.out
       refine wpList_append_own_at wa rfl (.tmp 56) (.tmp 59) 55 rfl (kb + 1 + 1 + 1) 21 i0 (.int .i32 0) 1 4 Tryz.underlying55 hi0 hz0 hz1 hz3 rfl (by decide) _ R.length (zs R) rfl HA.out.oR ⟨nb, 0, none⟩ 1 1 [.int .i32 (n : Nat)] rfl rfl (fun j u hj => by rw [Addr.add_lit]; exact (cell_blk hba (0 + j)).trans (by simpa using hj)) (by intro u hu; simp at hu; subst hu; rfl) (by unfold maxLen; have := HBD.out.2.1; omega) (by have := HBD.out.2.1; omega) (by have := blk_lt HA.out.be; omega) ?_
       intro v' w5 g1 g2 _ g4
       obtain ⟨pv, cv, rfl⟩ := own_slice g1
       obtain ⟨b0, b1, b2, b3⟩ := HA.out.grown HA.out.oR g2
       have HNX := Lib.hid (HA.out.pushR g1 g2 g4)
       have x0' : w5.cell? ⟨kb + 1, 0, none⟩ = some (.slice pR R.length cR) := (cell_blk (b2.trans HA.out.bx) 0).trans rfl
       have fx0' := frz_blk (b2.trans HA.out.bx) 0
       clear b0 b1 b2 b3 g1 g2 g4 hba hxa x0 x1 z0 z1 z2 fx0 fx1 fz0 fz1 fz2 k0 fk
       go_wp2_with fail
       have mk0 : ∀ w', EOn (fun a => a.block = kb ∨ a.block = kb + 1) (w5.setCell ⟨kb + 1, 0, none⟩ (.slice pv (R.length + 1) cv)) w' → w'.cell? ⟨kb, 0, none⟩ = some (.slice pL D.length cL) := fun w' hx => hx.cell (.inl rfl) ((cell_blk HNX.out.bk 0).trans rfl)
       have mx0 : ∀ w', EOn (fun a => a.block = kb ∨ a.block = kb + 1) (w5.setCell ⟨kb + 1, 0, none⟩ (.slice pv (R.length + 1) cv)) w' → w'.cell? ⟨kb + 1, 0, none⟩ = some (.slice pv (R.length + 1) cv) := fun w' hx => hx.cell (.inr rfl) ((cell_blk HNX.out.bx 0).trans rfl)
       have mx1 : ∀ w', EOn (fun a => a.block = kb ∨ a.block = kb + 1) (w5.setCell ⟨kb + 1, 0, none⟩ (.slice pv (R.length + 1) cv)) w' → w'.cell? ⟨kb + 1, 1, none⟩ = some (.slice pE E.length cE) := fun w' hx => hx.cell (.inr rfl) ((cell_blk HNX.out.bx 1).trans rfl)
       refine wp_lexN ((fun a => a.block = kb ∨ a.block = kb + 1)) [true, true, true, true, true, true, false, false] (by kernel_rfl) (by kernel_rfl) ?_
       repeat first
        | refine wpG_move' ?_
        | refine wpG_assign' ?_
        | refine wpG_val' ?_
        | refine wpG_no' ?_
       refine wpG_do (by rfl) (fun w6 hx6 K hK => ?_)
       go_wp2_with fail
       refine ⟨EOn.of_ext ((Ext.refl w6).alloc _), ?_⟩
       clear mk0 mx0 mx1
       have hx7 := hx6.alloc (.cells #[(.slice pv (R.length + 1) cv), (.slice pE E.length cE)] 57)
       have hnew := World.alloc_heap_new w6 (.cells #[(.slice pv (R.length + 1) cv), (.slice pE E.length cE)] 57)
       generalize w6.alloc (.cells #[(.slice pv (R.length + 1) cv), (.slice pE E.length cE)] 57) = w7 at hx7 hnew ⊢
       generalize w6.heap.size = gb at hnew ⊢
       obtain ⟨i1, hi1, hy0, hy1, hy3⟩ := hHL.out
       have HN7 := Lib.hid (HNX.out.ext hx7)
       refine wpG_push rfl (fun a w h => by cases h.1) (.tmp 94) (.tmp 96) 52 rfl 57 i1 (.agg #[.slice none 0 0, .slice none 0 0]) 2 48 Tryz.underlying52 hi1 hy0 hy1 hy3 rfl (by decide) rfl HN7.out.oL (by have := blk_lt HN7.out.be; omega) [(.slice pv (R.length + 1) cv), (.slice pE E.length cE)] gb 0 1 1 rfl rfl (fun j hj => by
        match j, hj with
        | 0, _ => exact (cell_blk hnew 0).trans rfl
        | 1, _ => exact (cell_blk hnew 1).trans rfl) (by intro u hu; simp at hu; rcases hu with rfl | rfl <;> rfl) (fun ad hS eq => by
        have := (HN7.out.oL.lt _ eq).1
        rcases hS with hS | hS <;> omega) (by have := HBD.out.2.2.2; omega) (by decide) ?_
       intro v2 w8 w9 hx8 g1 g2 g4
       obtain ⟨pw, cw, rfl⟩ := own_slice g1
       have HN8 := Lib.hid (HN7.out.ext hx8)
       obtain ⟨b0, b1, b2, b3⟩ := HN8.out.grown HN8.out.oL g2
       refine wpG_end (fun w10 hx10 => ?_)
       have HNL := Lib.hid (HN8.out.line g1 g2 g4 hx10)
       have kk0 : w10.cell? ⟨kb, 0, none⟩ = some (.slice pL D.length cL) := (cell_blk (hx10.blk (b1.trans HN8.out.bk)) 0).trans rfl
       have fk0 := frz_blk (hx10.blk (b1.trans HN8.out.bk)) 0
       have bx10 := hx10.blk (b2.trans HN8.out.bx)
       clear b0 b1 b2 b3 g1 g2 g4 hx6 hx7 hx8 hx10 hnew HN7 HN8
       go_wp2_with fail
       refine gQ_normal ⟨rfl, ?_⟩
       have hbx2 : (w10.setCell ⟨kb, 0, none⟩ (.slice pw (D.length + 1) cw)).heap[kb + 1]? = some (.cells #[(.slice pv (R.length + 1) cv), (.slice pE E.length cE)] 57 (0, 0)) := ((grown_cell w10 kb 0 (.slice pw (D.length + 1) cw)).block (kb + 1) (blk_lt bx10) (by intro e; have := Option.some.inj e; omega)).trans bx10
       have xx0 : (w10.setCell ⟨kb, 0, none⟩ (.slice pw (D.length + 1) cw)).cell? ⟨kb + 1, 0, none⟩ = some (.slice pv (R.length + 1) cv) := (cell_blk hbx2 0).trans rfl
       have xx1 : (w10.setCell ⟨kb, 0, none⟩ (.slice pw (D.length + 1) cw)).cell? ⟨kb + 1, 1, none⟩ = some (.slice pE E.length cE) := (cell_blk hbx2 1).trans rfl
       have fxx0 := frz_blk hbx2 0
       have fxx1 := frz_blk hbx2 1
       clear kk0 fk0
       go_wp2_with fail
       exact ⟨⟨i + 1, ⟨[], [], 0, false, false, e1, e2, 0⟩, D ++ [((R ++ [n]), E)], e3, _, _, _, _, by simp, by omega, rfl, rfl, rfl, rfl, Lib.hid ⟨by rw [List.append_assoc]; exact HPK.out.1, HPK.out.2.1, by rw [List.length_append]; have := HPK.out.2.2.1; simp; omega, Nat.zero_le _, Nat.zero_le _⟩, HNL⟩, by simp only [intOf]; omega⟩
      | true =>
       rcases (show part = 0 ∨ part = 1 ∨ part = 2 by omega) with rfl | rfl | rfl
       ·have HNX := Lib.hid (HN.out.setE1 n)
        go_wp2_with fail
        have mk0 : ∀ w', EOn (fun a => a.block = kb ∨ a.block = kb + 1) (wr.setCell ⟨kb + 1 + 1, 0, none⟩ (.int .i64 (n : Nat))) w' → w'.cell? ⟨kb, 0, none⟩ = some (.slice pL D.length cL) := fun w' hx => hx.cell (.inl rfl) ((cell_blk HNX.out.bk 0).trans rfl)
        have mx0 : ∀ w', EOn (fun a => a.block = kb ∨ a.block = kb + 1) (wr.setCell ⟨kb + 1 + 1, 0, none⟩ (.int .i64 (n : Nat))) w' → w'.cell? ⟨kb + 1, 0, none⟩ = some (.slice pR R.length cR) := fun w' hx => hx.cell (.inr rfl) ((cell_blk HNX.out.bx 0).trans rfl)
        have mx1 : ∀ w', EOn (fun a => a.block = kb ∨ a.block = kb + 1) (wr.setCell ⟨kb + 1 + 1, 0, none⟩ (.int .i64 (n : Nat))) w' → w'.cell? ⟨kb + 1, 1, none⟩ = some (.slice pE E.length cE) := fun w' hx => hx.cell (.inr rfl) ((cell_blk HNX.out.bx 1).trans rfl)
        refine wp_lexN ((fun a => a.block = kb ∨ a.block = kb + 1)) [true, true, true, true, true, true, false, false] (by kernel_rfl) (by kernel_rfl) ?_
        repeat first
         | refine wpG_move' ?_
         | refine wpG_assign' ?_
         | refine wpG_val' ?_
         | refine wpG_no' ?_
        refine wpG_do (by rfl) (fun w6 hx6 K hK => ?_)
        go_wp2_with fail
        refine ⟨EOn.of_ext ((Ext.refl w6).alloc _), ?_⟩
        clear mk0 mx0 mx1
        have hx7 := hx6.alloc (.cells #[(.slice pR R.length cR), (.slice pE E.length cE)] 57)
        have hnew := World.alloc_heap_new w6 (.cells #[(.slice pR R.length cR), (.slice pE E.length cE)] 57)
        generalize w6.alloc (.cells #[(.slice pR R.length cR), (.slice pE E.length cE)] 57) = w7 at hx7 hnew ⊢
        generalize w6.heap.size = gb at hnew ⊢
        obtain ⟨i1, hi1, hy0, hy1, hy3⟩ := hHL.out
        have HN7 := Lib.hid (HNX.out.ext hx7)
        refine wpG_push rfl (fun a w h => by cases h.1) (.tmp 94) (.tmp 96) 52 rfl 57 i1 (.agg #[.slice none 0 0, .slice none 0 0]) 2 48 Tryz.underlying52 hi1 hy0 hy1 hy3 rfl (by decide) rfl HN7.out.oL (by have := blk_lt HN7.out.be; omega) [(.slice pR R.length cR), (.slice pE E.length cE)] gb 0 1 1 rfl rfl (fun j hj => by
         match j, hj with
         | 0, _ => exact (cell_blk hnew 0).trans rfl
         | 1, _ => exact (cell_blk hnew 1).trans rfl) (by intro u hu; simp at hu; rcases hu with rfl | rfl <;> rfl) (fun ad hS eq => by
         have := (HN7.out.oL.lt _ eq).1
         rcases hS with hS | hS <;> omega) (by have := HBD.out.2.2.2; omega) (by decide) ?_
        intro v2 w8 w9 hx8 g1 g2 g4
        obtain ⟨pw, cw, rfl⟩ := own_slice g1
        have HN8 := Lib.hid (HN7.out.ext hx8)
        obtain ⟨b0, b1, b2, b3⟩ := HN8.out.grown HN8.out.oL g2
        refine wpG_end (fun w10 hx10 => ?_)
        have HNL := Lib.hid (HN8.out.line g1 g2 g4 hx10)
        have kk0 : w10.cell? ⟨kb, 0, none⟩ = some (.slice pL D.length cL) := (cell_blk (hx10.blk (b1.trans HN8.out.bk)) 0).trans rfl
        have fk0 := frz_blk (hx10.blk (b1.trans HN8.out.bk)) 0
        have bx10 := hx10.blk (b2.trans HN8.out.bx)
        clear b0 b1 b2 b3 g1 g2 g4 hx6 hx7 hx8 hx10 hnew HN7 HN8
        go_wp2_with fail
        refine gQ_normal ⟨rfl, ?_⟩
        have hbx2 : (w10.setCell ⟨kb, 0, none⟩ (.slice pw (D.length + 1) cw)).heap[kb + 1]? = some (.cells #[(.slice pR R.length cR), (.slice pE E.length cE)] 57 (0, 0)) := ((grown_cell w10 kb 0 (.slice pw (D.length + 1) cw)).block (kb + 1) (blk_lt bx10) (by intro e; have := Option.some.inj e; omega)).trans bx10
        have xx0 : (w10.setCell ⟨kb, 0, none⟩ (.slice pw (D.length + 1) cw)).cell? ⟨kb + 1, 0, none⟩ = some (.slice pR R.length cR) := (cell_blk hbx2 0).trans rfl
        have xx1 : (w10.setCell ⟨kb, 0, none⟩ (.slice pw (D.length + 1) cw)).cell? ⟨kb + 1, 1, none⟩ = some (.slice pE E.length cE) := (cell_blk hbx2 1).trans rfl
        have fxx0 := frz_blk hbx2 0
        have fxx1 := frz_blk hbx2 1
        clear kk0 fk0
        go_wp2_with fail
        exact ⟨⟨i + 1, ⟨[], [], 0, false, false, n, e2, 0⟩, D ++ [(R, E)], e3, _, _, _, _, by simp, by omega, rfl, rfl, rfl, rfl, Lib.hid ⟨by rw [List.append_assoc]; exact HPK.out.1, HPK.out.2.1, by rw [List.length_append]; have := HPK.out.2.2.1; simp; omega, Nat.zero_le _, Nat.zero_le _⟩, HNL⟩, by simp only [intOf]; omega⟩
       ·have HNX := Lib.hid (HN.out.setE2 n)
        go_wp2_with fail
        have mk0 : ∀ w', EOn (fun a => a.block = kb ∨ a.block = kb + 1) (wr.setCell ⟨kb + 1 + 1, 1, none⟩ (.int .i64 (n : Nat))) w' → w'.cell? ⟨kb, 0, none⟩ = some (.slice pL D.length cL) := fun w' hx => hx.cell (.inl rfl) ((cell_blk HNX.out.bk 0).trans rfl)
        have mx0 : ∀ w', EOn (fun a => a.block = kb ∨ a.block = kb + 1) (wr.setCell ⟨kb + 1 + 1, 1, none⟩ (.int .i64 (n : Nat))) w' → w'.cell? ⟨kb + 1, 0, none⟩ = some (.slice pR R.length cR) := fun w' hx => hx.cell (.inr rfl) ((cell_blk HNX.out.bx 0).trans rfl)
        have mx1 : ∀ w', EOn (fun a => a.block = kb ∨ a.block = kb + 1) (wr.setCell ⟨kb + 1 + 1, 1, none⟩ (.int .i64 (n : Nat))) w' → w'.cell? ⟨kb + 1, 1, none⟩ = some (.slice pE E.length cE) := fun w' hx => hx.cell (.inr rfl) ((cell_blk HNX.out.bx 1).trans rfl)
        refine wp_lexN ((fun a => a.block = kb ∨ a.block = kb + 1)) [true, true, true, true, true, true, false, false] (by kernel_rfl) (by kernel_rfl) ?_
        repeat first
         | refine wpG_move' ?_
         | refine wpG_assign' ?_
         | refine wpG_val' ?_
         | refine wpG_no' ?_
        refine wpG_do (by rfl) (fun w6 hx6 K hK => ?_)
        go_wp2_with fail
        refine ⟨EOn.of_ext ((Ext.refl w6).alloc _), ?_⟩
        clear mk0 mx0 mx1
        have hx7 := hx6.alloc (.cells #[(.slice pR R.length cR), (.slice pE E.length cE)] 57)
        have hnew := World.alloc_heap_new w6 (.cells #[(.slice pR R.length cR), (.slice pE E.length cE)] 57)
        generalize w6.alloc (.cells #[(.slice pR R.length cR), (.slice pE E.length cE)] 57) = w7 at hx7 hnew ⊢
        generalize w6.heap.size = gb at hnew ⊢
        obtain ⟨i1, hi1, hy0, hy1, hy3⟩ := hHL.out
        have HN7 := Lib.hid (HNX.out.ext hx7)
        refine wpG_push rfl (fun a w h => by cases h.1) (.tmp 94) (.tmp 96) 52 rfl 57 i1 (.agg #[.slice none 0 0, .slice none 0 0]) 2 48 Tryz.underlying52 hi1 hy0 hy1 hy3 rfl (by decide) rfl HN7.out.oL (by have := blk_lt HN7.out.be; omega) [(.slice pR R.length cR), (.slice pE E.length cE)] gb 0 1 1 rfl rfl (fun j hj => by
         match j, hj with
         | 0, _ => exact (cell_blk hnew 0).trans rfl
         | 1, _ => exact (cell_blk hnew 1).trans rfl) (by intro u hu; simp at hu; rcases hu with rfl | rfl <;> rfl) (fun ad hS eq => by
         have := (HN7.out.oL.lt _ eq).1
         rcases hS with hS | hS <;> omega) (by have := HBD.out.2.2.2; omega) (by decide) ?_
        intro v2 w8 w9 hx8 g1 g2 g4
        obtain ⟨pw, cw, rfl⟩ := own_slice g1
        have HN8 := Lib.hid (HN7.out.ext hx8)
        obtain ⟨b0, b1, b2, b3⟩ := HN8.out.grown HN8.out.oL g2
        refine wpG_end (fun w10 hx10 => ?_)
        have HNL := Lib.hid (HN8.out.line g1 g2 g4 hx10)
        have kk0 : w10.cell? ⟨kb, 0, none⟩ = some (.slice pL D.length cL) := (cell_blk (hx10.blk (b1.trans HN8.out.bk)) 0).trans rfl
        have fk0 := frz_blk (hx10.blk (b1.trans HN8.out.bk)) 0
        have bx10 := hx10.blk (b2.trans HN8.out.bx)
        clear b0 b1 b2 b3 g1 g2 g4 hx6 hx7 hx8 hx10 hnew HN7 HN8
        go_wp2_with fail
        refine gQ_normal ⟨rfl, ?_⟩
        have hbx2 : (w10.setCell ⟨kb, 0, none⟩ (.slice pw (D.length + 1) cw)).heap[kb + 1]? = some (.cells #[(.slice pR R.length cR), (.slice pE E.length cE)] 57 (0, 0)) := ((grown_cell w10 kb 0 (.slice pw (D.length + 1) cw)).block (kb + 1) (blk_lt bx10) (by intro e; have := Option.some.inj e; omega)).trans bx10
        have xx0 : (w10.setCell ⟨kb, 0, none⟩ (.slice pw (D.length + 1) cw)).cell? ⟨kb + 1, 0, none⟩ = some (.slice pR R.length cR) := (cell_blk hbx2 0).trans rfl
        have xx1 : (w10.setCell ⟨kb, 0, none⟩ (.slice pw (D.length + 1) cw)).cell? ⟨kb + 1, 1, none⟩ = some (.slice pE E.length cE) := (cell_blk hbx2 1).trans rfl
        have fxx0 := frz_blk hbx2 0
        have fxx1 := frz_blk hbx2 1
        clear kk0 fk0
        go_wp2_with fail
        exact ⟨⟨i + 1, ⟨[], [], 0, false, false, e1, n, 0⟩, D ++ [(R, E)], e3, _, _, _, _, by simp, by omega, rfl, rfl, rfl, rfl, Lib.hid ⟨by rw [List.append_assoc]; exact HPK.out.1, HPK.out.2.1, by rw [List.length_append]; have := HPK.out.2.2.1; simp; omega, Nat.zero_le _, Nat.zero_le _⟩, HNL⟩, by simp only [intOf]; omega⟩
       ·go_wp2_with (at_builtin; refine Hid.out ?_)
        refine Lib.hid ?_
        have HM := Lib.hid (HN.out.setE3 n)
        have hsq : (wr.setCell ⟨kb + 1 + 1, 2, none⟩ (.int .i64 (n : Nat))).heap.size = wr.heap.size := by simp
        clear x0 x1 z0 z1 z2 fx0 fx1 fz0 fz1 fz2 k0 fk
        generalize wr.setCell ⟨kb + 1 + 1, 2, none⟩ (.int .i64 (n : Nat)) = wq at HM hsq ⊢
        have hxa := (Ext.refl wq).alloc (.cells #[.int .i64 (e1 : Nat), .int .i64 (e2 : Nat), .int .i64 (n : Nat)] 59)
        have hba := World.alloc_heap_new wq (.cells #[.int .i64 (e1 : Nat), .int .i64 (e2 : Nat), .int .i64 (n : Nat)] 59)
        rw [hsq] at hba
        generalize wq.alloc (.cells #[.int .i64 (e1 : Nat), .int .i64 (e2 : Nat), .int .i64 (n : Nat)] 59) = wa at hxa hba ⊢
        generalize wr.heap.size = nb at hba hsq ⊢
        have HA := Lib.hid (HM.out.ext hxa)
        obtain ⟨i0, hi0, hz0, hz1, hz3⟩ := hHE.out
        refine wpList_append_own_at wa rfl (.tmp 70) (.tmp 72) 28 rfl (kb + 1 + 1 + 1) 59 i0 (.agg #[.int .i64 0, .int .i64 0, .int .i64 0]) 3 24 Tryz.underlying28 hi0 hz0 hz1 hz3 rfl (by decide) _ E.length (elW E) rfl HA.out.oE ⟨nb, 0, none⟩ 1 1 [.int .i64 (e1 : Nat), .int .i64 (e2 : Nat), .int .i64 (n : Nat)] rfl rfl (fun j u hj => by rw [Addr.add_lit]; exact (cell_blk hba (0 + j)).trans (by simpa using hj)) (by intro u hu; simp at hu; rcases hu with rfl | rfl | rfl <;> rfl) (by unfold maxLen; have := HBD.out.2.2.1; omega) (by have := HBD.out.2.2.1; omega) (by have := blk_lt HA.out.be; omega) ?_
        intro v' w5 g1 g2 _ g4
        obtain ⟨pv, cv, rfl⟩ := own_slice g1
        obtain ⟨b0, b1, b2, b3⟩ := HA.out.grown HA.out.oE g2
        have HNX := Lib.hid (HA.out.pushE g1 g2 g4)
        have x1' : w5.cell? ⟨kb + 1, 1, none⟩ = some (.slice pE E.length cE) := (cell_blk (b2.trans HA.out.bx) 1).trans rfl
        have fx1' := frz_blk (b2.trans HA.out.bx) 1
        clear b0 b1 b2 b3 g1 g2 g4 hba hxa hsq
        go_wp2_with fail
        have mk0 : ∀ w', EOn (fun a => a.block = kb ∨ a.block = kb + 1) (w5.setCell ⟨kb + 1, 1, none⟩ (.slice pv (E.length + 1) cv)) w' → w'.cell? ⟨kb, 0, none⟩ = some (.slice pL D.length cL) := fun w' hx => hx.cell (.inl rfl) ((cell_blk HNX.out.bk 0).trans rfl)
        have mx0 : ∀ w', EOn (fun a => a.block = kb ∨ a.block = kb + 1) (w5.setCell ⟨kb + 1, 1, none⟩ (.slice pv (E.length + 1) cv)) w' → w'.cell? ⟨kb + 1, 0, none⟩ = some (.slice pR R.length cR) := fun w' hx => hx.cell (.inr rfl) ((cell_blk HNX.out.bx 0).trans rfl)
        have mx1 : ∀ w', EOn (fun a => a.block = kb ∨ a.block = kb + 1) (w5.setCell ⟨kb + 1, 1, none⟩ (.slice pv (E.length + 1) cv)) w' → w'.cell? ⟨kb + 1, 1, none⟩ = some (.slice pv (E.length + 1) cv) := fun w' hx => hx.cell (.inr rfl) ((cell_blk HNX.out.bx 1).trans rfl)
        refine wp_lexN ((fun a => a.block = kb ∨ a.block = kb + 1)) [true, true, true, true, true, true, false, false] (by kernel_rfl) (by kernel_rfl) ?_
        repeat first
         | refine wpG_move' ?_
         | refine wpG_assign' ?_
         | refine wpG_val' ?_
         | refine wpG_no' ?_
        refine wpG_do (by rfl) (fun w6 hx6 K hK => ?_)
        go_wp2_with fail
        refine ⟨EOn.of_ext ((Ext.refl w6).alloc _), ?_⟩
        clear mk0 mx0 mx1
        have hx7 := hx6.alloc (.cells #[(.slice pR R.length cR), (.slice pv (E.length + 1) cv)] 57)
        have hnew := World.alloc_heap_new w6 (.cells #[(.slice pR R.length cR), (.slice pv (E.length + 1) cv)] 57)
        generalize w6.alloc (.cells #[(.slice pR R.length cR), (.slice pv (E.length + 1) cv)] 57) = w7 at hx7 hnew ⊢
        generalize w6.heap.size = gb at hnew ⊢
        obtain ⟨i1, hi1, hy0, hy1, hy3⟩ := hHL.out
        have HN7 := Lib.hid (HNX.out.ext hx7)
        refine wpG_push rfl (fun a w h => by cases h.1) (.tmp 94) (.tmp 96) 52 rfl 57 i1 (.agg #[.slice none 0 0, .slice none 0 0]) 2 48 Tryz.underlying52 hi1 hy0 hy1 hy3 rfl (by decide) rfl HN7.out.oL (by have := blk_lt HN7.out.be; omega) [(.slice pR R.length cR), (.slice pv (E.length + 1) cv)] gb 0 1 1 rfl rfl (fun j hj => by
         match j, hj with
         | 0, _ => exact (cell_blk hnew 0).trans rfl
         | 1, _ => exact (cell_blk hnew 1).trans rfl) (by intro u hu; simp at hu; rcases hu with rfl | rfl <;> rfl) (fun ad hS eq => by
         have := (HN7.out.oL.lt _ eq).1
         rcases hS with hS | hS <;> omega) (by have := HBD.out.2.2.2; omega) (by decide) ?_
        intro v2 w8 w9 hx8 g1 g2 g4
        obtain ⟨pw, cw, rfl⟩ := own_slice g1
        have HN8 := Lib.hid (HN7.out.ext hx8)
        obtain ⟨b0, b1, b2, b3⟩ := HN8.out.grown HN8.out.oL g2
        refine wpG_end (fun w10 hx10 => ?_)
        have HNL := Lib.hid (HN8.out.line g1 g2 g4 hx10)
        have kk0 : w10.cell? ⟨kb, 0, none⟩ = some (.slice pL D.length cL) := (cell_blk (hx10.blk (b1.trans HN8.out.bk)) 0).trans rfl
        have fk0 := frz_blk (hx10.blk (b1.trans HN8.out.bk)) 0
        have bx10 := hx10.blk (b2.trans HN8.out.bx)
        clear b0 b1 b2 b3 g1 g2 g4 hx6 hx7 hx8 hx10 hnew HN7 HN8
        go_wp2_with fail
        refine gQ_normal ⟨rfl, ?_⟩
        have hbx2 : (w10.setCell ⟨kb, 0, none⟩ (.slice pw (D.length + 1) cw)).heap[kb + 1]? = some (.cells #[(.slice pR R.length cR), (.slice pv (E.length + 1) cv)] 57 (0, 0)) := ((grown_cell w10 kb 0 (.slice pw (D.length + 1) cw)).block (kb + 1) (blk_lt bx10) (by intro e; have := Option.some.inj e; omega)).trans bx10
        have xx0 : (w10.setCell ⟨kb, 0, none⟩ (.slice pw (D.length + 1) cw)).cell? ⟨kb + 1, 0, none⟩ = some (.slice pR R.length cR) := (cell_blk hbx2 0).trans rfl
        have xx1 : (w10.setCell ⟨kb, 0, none⟩ (.slice pw (D.length + 1) cw)).cell? ⟨kb + 1, 1, none⟩ = some (.slice pv (E.length + 1) cv) := (cell_blk hbx2 1).trans rfl
        have fxx0 := frz_blk hbx2 0
        have fxx1 := frz_blk hbx2 1
        clear kk0 fk0
        go_wp2_with fail
        exact ⟨⟨i + 1, ⟨[], [], 0, false, false, e1, e2, 0⟩, D ++ [(R, (E ++ [(e1, e2, n)]))], n, _, _, _, _, by simp, by omega, rfl, rfl, rfl, rfl, Lib.hid ⟨by rw [List.append_assoc]; exact HPK.out.1, HPK.out.2.1, by rw [List.length_append]; have := HPK.out.2.2.1; simp; omega, Nat.zero_le _, Nat.zero_le _⟩, HNL⟩, by simp only [intOf]; omega⟩
     | false =>
      have HNX := HN
      go_wp2_with fail
      have mk0 : ∀ w', EOn (fun a => a.block = kb ∨ a.block = kb + 1) wr w' → w'.cell? ⟨kb, 0, none⟩ = some (.slice pL D.length cL) := fun w' hx => hx.cell (.inl rfl) ((cell_blk HNX.out.bk 0).trans rfl)
      have mx0 : ∀ w', EOn (fun a => a.block = kb ∨ a.block = kb + 1) wr w' → w'.cell? ⟨kb + 1, 0, none⟩ = some (.slice pR R.length cR) := fun w' hx => hx.cell (.inr rfl) ((cell_blk HNX.out.bx 0).trans rfl)
      have mx1 : ∀ w', EOn (fun a => a.block = kb ∨ a.block = kb + 1) wr w' → w'.cell? ⟨kb + 1, 1, none⟩ = some (.slice pE E.length cE) := fun w' hx => hx.cell (.inr rfl) ((cell_blk HNX.out.bx 1).trans rfl)
      refine wp_lexN ((fun a => a.block = kb ∨ a.block = kb + 1)) [true, true, true, true, true, true, false, false] (by kernel_rfl) (by kernel_rfl) ?_
      repeat first
       | refine wpG_move' ?_
       | refine wpG_assign' ?_
       | refine wpG_val' ?_
       | refine wpG_no' ?_
      refine wpG_do (by rfl) (fun w6 hx6 K hK => ?_)
      go_wp2_with fail
      refine ⟨EOn.of_ext ((Ext.refl w6).alloc _), ?_⟩
      clear mk0 mx0 mx1
      have hx7 := hx6.alloc (.cells #[(.slice pR R.length cR), (.slice pE E.length cE)] 57)
      have hnew := World.alloc_heap_new w6 (.cells #[(.slice pR R.length cR), (.slice pE E.length cE)] 57)
      generalize w6.alloc (.cells #[(.slice pR R.length cR), (.slice pE E.length cE)] 57) = w7 at hx7 hnew ⊢
      generalize w6.heap.size = gb at hnew ⊢
      obtain ⟨i1, hi1, hy0, hy1, hy3⟩ := hHL.out
      have HN7 := Lib.hid (HNX.out.ext hx7)
      refine wpG_push rfl (fun a w h => by cases h.1) (.tmp 94) (.tmp 96) 52 rfl 57 i1 (.agg #[.slice none 0 0, .slice none 0 0]) 2 48 Tryz.underlying52 hi1 hy0 hy1 hy3 rfl (by decide) rfl HN7.out.oL (by have := blk_lt HN7.out.be; omega) [(.slice pR R.length cR), (.slice pE E.length cE)] gb 0 1 1 rfl rfl (fun j hj => by
       match j, hj with
       | 0, _ => exact (cell_blk hnew 0).trans rfl
       | 1, _ => exact (cell_blk hnew 1).trans rfl) (by intro u hu; simp at hu; rcases hu with rfl | rfl <;> rfl) (fun ad hS eq => by
       have := (HN7.out.oL.lt _ eq).1
       rcases hS with hS | hS <;> omega) (by have := HBD.out.2.2.2; omega) (by decide) ?_
      intro v2 w8 w9 hx8 g1 g2 g4
      obtain ⟨pw, cw, rfl⟩ := own_slice g1
      have HN8 := Lib.hid (HN7.out.ext hx8)
      obtain ⟨b0, b1, b2, b3⟩ := HN8.out.grown HN8.out.oL g2
      refine wpG_end (fun w10 hx10 => ?_)
      have HNL := Lib.hid (HN8.out.line g1 g2 g4 hx10)
      have kk0 : w10.cell? ⟨kb, 0, none⟩ = some (.slice pL D.length cL) := (cell_blk (hx10.blk (b1.trans HN8.out.bk)) 0).trans rfl
      have fk0 := frz_blk (hx10.blk (b1.trans HN8.out.bk)) 0
      have bx10 := hx10.blk (b2.trans HN8.out.bx)
      clear b0 b1 b2 b3 g1 g2 g4 hx6 hx7 hx8 hx10 hnew HN7 HN8
      go_wp2_with fail
      refine gQ_normal ⟨rfl, ?_⟩
      have hbx2 : (w10.setCell ⟨kb, 0, none⟩ (.slice pw (D.length + 1) cw)).heap[kb + 1]? = some (.cells #[(.slice pR R.length cR), (.slice pE E.length cE)] 57 (0, 0)) := ((grown_cell w10 kb 0 (.slice pw (D.length + 1) cw)).block (kb + 1) (blk_lt bx10) (by intro e; have := Option.some.inj e; omega)).trans bx10
      have xx0 : (w10.setCell ⟨kb, 0, none⟩ (.slice pw (D.length + 1) cw)).cell? ⟨kb + 1, 0, none⟩ = some (.slice pR R.length cR) := (cell_blk hbx2 0).trans rfl
      have xx1 : (w10.setCell ⟨kb, 0, none⟩ (.slice pw (D.length + 1) cw)).cell? ⟨kb + 1, 1, none⟩ = some (.slice pE E.length cE) := (cell_blk hbx2 1).trans rfl
      have fxx0 := frz_blk hbx2 0
      have fxx1 := frz_blk hbx2 1
      clear kk0 fk0
      go_wp2_with fail
      exact ⟨⟨i + 1, ⟨[], [], 0, false, false, e1, e2, 0⟩, D ++ [(R, E)], e3, _, _, _, _, by simp, by omega, rfl, rfl, rfl, rfl, Lib.hid ⟨by rw [List.append_assoc]; exact HPK.out.1, HPK.out.2.1, by rw [List.length_append]; have := HPK.out.2.2.1; simp; omega, Nat.zero_le _, Nat.zero_le _⟩, HNL⟩, by simp only [intOf]; omega⟩
   ·rw [if_neg hsep] at hp1 hp2
    simp only [Bool.and_eq_true, decide_eq_true_eq] at hp2
    obtain ⟨⟨⟨h48, h123⟩, hdg⟩, hok⟩ := hp2
    have h1 : (((c : Nat) : Int) != 32) = true := bne_iff_ne.2 (fun e => hsep (by rw [show c = 32 by omega]; rfl))
    have h2 : (((c : Nat) : Int) != 59) = true := bne_iff_ne.2 (fun e => hsep (by rw [show c = 59 by omega]; rfl))
    have h3 : (((c : Nat) : Int) != 46) = true := bne_iff_ne.2 (fun e => hsep (by rw [show c = 46 by omega]; rfl))
    have h4 : (((c : Nat) : Int) != 10) = true := bne_iff_ne.2 (fun e => hsep (by rw [show c = 10 by omega]; rfl))
    have HPK := Lib.hid (And.intro hp1 (And.intro hok (And.intro hp3 (And.intro hp4 hp5))))
    obtain ⟨d, hdK⟩ : ∃ d, digK c = d := ⟨_, rfl⟩
    have hdI : ((d : Nat) : Int) ≤ 100 := by
     have : d ≤ 100 := by
      rw [← hdK]
      unfold digK
      split <;> omega
     omega
    have hnI : ((n : Nat) : Int) < 16777216 := by omega
    have HDG := Lib.hid (fun w => c_rdigit c h48 h123 w)
    rw [hdK] at HDG HPK
    clear hp1 hok hdK hn hsep h48 h123 hdg HP HB H0 hp3 hp4 hp5
    cases behind with
    | true =>
     go_wp2_with fail
     refine (HDG.out wr).mono ?_
     rintro e w9 ⟨rfl, e9⟩
     obtain rfl := e9.symm
     clear e9
     go_wp2_with fail
     have hv : (10 : Int) * (n : Nat) + (d : Nat) = ((10 * n + d : Nat) : Int) := by omega
     exact ⟨⟨i + 1, ⟨R, E, 10 * n + d, true, true, e1, e2, part⟩, D, e3, _, _, _, _, by simp, by omega, by rw [← hv], rfl, rfl, rfl, Lib.hid ⟨HPK.out.1, HPK.out.2.1, Nat.le_succ_of_le HPK.out.2.2.1, Nat.le_succ_of_le HPK.out.2.2.2.1, Nat.le_succ_of_le HPK.out.2.2.2.2⟩, Lib.hid HN.out⟩, by simp only [intOf]; omega⟩
    | false =>
     go_wp2_with fail
     refine (HDG.out wr).mono ?_
     rintro e w9 ⟨rfl, e9⟩
     obtain rfl := e9.symm
     clear e9
     go_wp2_with fail
     have hv : (16 : Int) * (n : Nat) + (d : Nat) = ((16 * n + d : Nat) : Int) := by omega
     exact ⟨⟨i + 1, ⟨R, E, 16 * n + d, true, false, e1, e2, part⟩, D, e3, _, _, _, _, by simp, by omega, by rw [← hv], rfl, rfl, rfl, Lib.hid ⟨HPK.out.1, HPK.out.2.1, Nat.le_succ_of_le HPK.out.2.2.1, Nat.le_succ_of_le HPK.out.2.2.2.1, Nat.le_succ_of_le HPK.out.2.2.2.2⟩, Lib.hid HN.out⟩, by simp only [intOf]; omega⟩
  ·have hd : decide (i < s.size) = false := decide_eq_false hlt
   have hI : ¬ ((i : Nat) : Int) < (s.size : Nat) := by omega
   have hdr : textB.drop i = [] := by
    rw [← HT.out.1]
    exact List.drop_eq_nil_of_le (by rw [byts_len]; omega)
   have hbk := HP.out.1
   rw [hdr, parseK, List.append_nil] at hbk
   have HBK := Lib.hid (show BkAt wr kb from ⟨lv, tB, HN.out.bk, by rw [hbk]; exact HN.out.ln.lrow HN.out.oL, HX1.out.2.mono HN.out.x⟩)
   have HXE := Lib.hid (HX1.out.1.trans HN.out.x)
   clear hdr hbk HP HN
   go_wp2_with fail
   exact ret_one rfl rfl rfl ⟨kb, rfl, HBK.out, HXE.out⟩
end Go.Proofs.YtokeamebcdhnpaaGreatDoor
end
