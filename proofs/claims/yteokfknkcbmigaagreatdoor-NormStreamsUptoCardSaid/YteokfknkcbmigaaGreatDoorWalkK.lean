/-
 May a text be cut there?
-/
import Derived.Test.YteokfknkcbmigaaGreatDoorWalkJ
import Derived.Test.YteokfknkcbmigaaGreatDoorChk
namespace Go.Proofs.YteokfknkcbmigaaGreatDoor
open Go.RowKit Go.Rp Go.Shelf Go.Maps

theorem sylE_range {r : Int} (h : 44032 ≤ r ∧ r ≤ 55203) : ∀ x ∈ sylE r, 0 ≤ x ∧ x < 16777216 := by
 intro x hx
 unfold sylE at hx
 split at hx <;> simp at hx <;> omega
theorem fal_range {A K : List (Int × List Int)} (hA : GoodT A) (hK : GoodT K) : ∀ (n : Nat) (k : Bool) (r : Int), 0 ≤ r → r < 16777216 → ∀ x ∈ fal A K n k r, 0 ≤ x ∧ x < 16777216 := by
 intro n
 induction n with
 | zero => intro k r h0 h1 x hx; simp [fal] at hx; omega
 | succ n ih =>
  intro k r h0 h1 x hx
  have hf : ∀ {l : List Int}, (∀ y ∈ l, 0 ≤ y ∧ y < 16777216) → x ∈ l.flatMap (fal A K n k) → 0 ≤ x ∧ x < 16777216 := fun hl hx => by
   obtain ⟨y, hy, hx⟩ := List.mem_flatMap.1 hx
   exact ih k y (hl y hy).1 (hl y hy).2 x hx
  unfold fal at hx
  split at hx
  ·rename_i h
   exact sylE_range h x hx
  ·split at hx
   ·rename_i l e
    exact hf (hA.1 _ (lookE_mem e)).2.2 hx
   ·split at hx
    ·split at hx
     ·rename_i l e
      exact hf (hK.1 _ (lookE_mem e)).2.2 hx
     ·simp at hx; omega
    ·simp at hx; omega
theorem c_fallT (nb tB : Nat) (f : Int) (r : Int) (w : World) (h0 : 0 ≤ r) (h1 : r < 16777216) (ht : NTab nb w tB) :
  Calls Tryz.prog 46 #[.pointer (some ⟨tB, 0, none⟩), .int .i32 r, .int .i64 f] w fun e w' => ∃ v, e = .returned v ∧ w'.ownsRow w.heap.size 21 1 v (faT (decide (f = 2 ∨ f = 3)) r).length (i32s (faT (decide (f = 2 ∨ f = 3)) r)) ∧ Ext w w' :=
 c_fall nb tB f _ rfl 5 (Nat.le_refl _) r w h0 h1 (deepT _ _) ht
/-- What is asked of the first rune. -/
noncomputable def firmT (f r : Int) : Bool := decide (odT ((faT (decide (f = 2 ∨ f = 3)) r).headD 0) = 0) && !(decide (f = 1 ∨ f = 3) && scT ((faT (decide (f = 2 ∨ f = 3)) r).headD 0))
set_option maxRecDepth 100000 in
set_option maxHeartbeats 4000000 in
theorem c_safe (nb tB : Nat) (s : ByteArray) (k f : Int) (b : Bool) (w : World) (ht : NTab nb w tB) (hT : Tabs w) (hs : s.size ≤ 1099511627776)
  (hb : b = true ↔ (0 ≤ k ∧ k ≤ (s.size : Nat) ∧ edge s.data.toList k.toNat) ∧ ((k = 0 ∨ k = (s.size : Nat) ∨ ¬ (0 ≤ f ∧ f ≤ 3)) ∨ (dec (s.data.toList.drop k.toNat) = (65533, 1)) ∨ firmT f (run (s.data.toList.drop k.toNat) : Nat) = true)) :
  Calls Tryz.prog 36 #[.pointer (some ⟨tB, 0, none⟩), .string s, .int .i64 k, .int .i64 f] w fun e w' => e = .returned (.bool b) ∧ Ext w w' := by
 by_cases he : 0 ≤ k ∧ k ≤ (s.size : Nat) ∧ edge s.data.toList k.toNat
 ·have hIs : ∀ w, Tabs w → Calls Tryz.prog 58 #[.string s, .int .i64 k] w fun e w' => e = .returned (.bool true) ∧ Ext w w' := fun w hT => c_IsI s k true w ⟨fun _ => he, fun _ => rfl⟩ hT hs
  have HIS := Lib.hid hIs
  clear hIs
  by_cases h1 : k = 0 ∨ k = (s.size : Nat) ∨ ¬ (0 ≤ f ∧ f ≤ 3)
  ·obtain rfl : b = true := hb.2 ⟨he, .inl h1⟩
   clear hb he
   rcases h1 with rfl | h1
   ·go_enter Tryz.func36, Tryz.ntmps36
    go_wp2_with fail
    refine (HIS.out _ hT).mono ?_
    rintro e w2 ⟨rfl, hx⟩
    go_wp2_with fail
    exact ret_one rfl rfl rfl ⟨rfl, hx⟩
   ·by_cases h2 : k = 0
    ·subst h2
     go_enter Tryz.func36, Tryz.ntmps36
     go_wp2_with fail
     refine (HIS.out _ hT).mono ?_
     rintro e w2 ⟨rfl, hx⟩
     go_wp2_with fail
     exact ret_one rfl rfl rfl ⟨rfl, hx⟩
    ·have e2 : (k == 0) = false := by simpa using h2
     by_cases h3 : k = (s.size : Nat)
     ·have e3 : (k == ((s.size : Nat) : Int)) = true := by simpa using h3
      have H3 := Lib.hid h3
      clear h3 h1
      go_enter Tryz.func36, Tryz.ntmps36
      go_wp2_with fail
      refine (HIS.out _ hT).mono ?_
      rintro e w2 ⟨rfl, hx⟩
      go_wp2_with fail
      exact ret_one rfl rfl rfl ⟨rfl, hx⟩
     ·have e3 : (k == ((s.size : Nat) : Int)) = false := by simpa using h3
      have HR : Hid (∀ w, Calls Tryz.prog 33 #[.int .i64 f] w fun e w' => e = .returned (.bool false) ∧ w' = w) := Lib.hid fun w => by
       have := c_right f w
       rw [decide_eq_false (h1.resolve_left h3)] at this
       exact this
      clear h1 h3
      go_enter Tryz.func36, Tryz.ntmps36
      go_wp2_with fail
      refine (HIS.out _ hT).mono ?_
      rintro e w2 ⟨rfl, hx⟩
      go_wp2_with fail
      refine (HR.out _).mono ?_
      rintro e w3 ⟨rfl, e3'⟩
      obtain rfl := e3'.symm
      go_wp2_with fail
      exact ret_one rfl rfl rfl ⟨rfl, hx⟩
  ·have e2 : (k == 0) = false := by simp; exact fun e => h1 (.inl e)
   have e3 : (k == ((s.size : Nat) : Int)) = false := by simp; exact fun e => h1 (.inr (.inl e))
   have hf : 0 ≤ f ∧ f ≤ 3 := Classical.byContradiction fun e => h1 (.inr (.inr e))
   obtain ⟨n, rfl⟩ : ∃ n : Nat, k = (n : Nat) := ⟨k.toNat, by omega⟩
   have hn : n < s.size := by
    have h4 : ¬ ((n : Nat) : Int) = (s.size : Nat) := fun e => h1 (.inr (.inl e))
    omega
   have HR : Hid (∀ w, Calls Tryz.prog 33 #[.int .i64 f] w fun e w' => e = .returned (.bool true) ∧ w' = w) := Lib.hid fun w => by
    have := c_right f w
    rw [decide_eq_true hf] at this
    exact this
   have hz : 0 < (s.extract n s.size).size := by rw [ByteArray.size_extract]; omega
   have hl : (s.extract n s.size).data.toList = s.data.toList.drop n := by
    rw [toList_extract, take_all (by rw [List.length_drop, len_eq]; exact Nat.le_refl _)]
   have HD := Lib.hid (show ∀ w, Tabs w → Calls Tryz.prog 59 #[.string (s.extract n s.size)] w fun e w' => e = .returned (.tuple #[.int .i32 (run (s.data.toList.drop n) : Nat), .int .i64 (wid (s.data.toList.drop n) : Nat)]) ∧ Ext w w' from fun w hT => by
    rw [← hl]; exact c_Decode _ w hT hz)
   have hb' : b = true ↔ (dec (s.data.toList.drop n) = (65533, 1)) ∨ firmT f (run (s.data.toList.drop n) : Nat) = true := by
    rw [hb]
    simp only [Int.toNat_natCast] at he ⊢
    constructor
    ·rintro ⟨_, h | h⟩
     ·exact absurd h h1
     ·exact h
    ·exact fun h => ⟨he, .inr h⟩
   have hrm := run_max (s.data.toList.drop n)
   obtain ⟨r, hr⟩ : ∃ r, run (s.data.toList.drop n) = r := ⟨_, rfl⟩
   obtain ⟨wd, hw⟩ : ∃ wd, wid (s.data.toList.drop n) = wd := ⟨_, rfl⟩
   have hdec : dec (s.data.toList.drop n) = (r, wd) := by rw [← hr, ← hw]; rfl
   rw [hr, hw] at HD
   rw [hr] at hrm
   rw [hdec, hr] at hb'
   have HB := Lib.hid hb'
   have hnI : ((n : Nat) : Int) < (s.size : Nat) := by omega
   clear hb hb' he h1 hl hz hr hw hdec
   by_cases hbad : wd = 1 ∧ r = 65533
   ·obtain ⟨rfl, rfl⟩ := hbad
    obtain rfl : b = true := HB.out.2 (.inl rfl)
    go_enter Tryz.func36, Tryz.ntmps36
    go_wp2_with fail
    refine (HIS.out _ hT).mono ?_
    rintro e w2 ⟨rfl, hx⟩
    go_wp2_with fail
    refine (HR.out _).mono ?_
    rintro e w3 ⟨rfl, e3'⟩
    obtain rfl := e3'.symm
    go_wp2_with fail
    refine (HD.out _ (hT.ext hx)).mono ?_
    rintro e w4 ⟨rfl, hx4⟩
    go_wp2_with fail
    exact ret_one rfl rfl rfl ⟨rfl, hx.trans hx4⟩
   ·have hbr : b = firmT f (r : Nat) := by
     rw [Bool.eq_iff_iff, HB.out]
     constructor
     ·rintro (h | h)
      ·cases h
       exact absurd ⟨rfl, rfl⟩ hbad
      ·exact h
     ·exact .inr
    have HBR := Lib.hid hbr
    obtain ⟨ri, hri⟩ : ∃ ri : Int, ((r : Nat) : Int) = ri := ⟨_, rfl⟩
    obtain ⟨wi, hwi⟩ : ∃ wi : Int, ((wd : Nat) : Int) = wi := ⟨_, rfl⟩
    have hr2 : 0 ≤ ri ∧ ri < 16777216 := by omega
    have HRG := Lib.hid hr2
    have hbb : ¬ (wi = 1 ∧ ri = 65533) := by omega
    rw [hri] at HBR HD
    rw [hwi] at HD
    clear hbad hrm hri hwi HB hr2
    have hfin : ∀ w4 : World, Ext w w4 → True := fun _ _ => trivial
    clear hfin
    by_cases h5 : wi = 1
    ·subst h5
     have h6 : (ri == 65533) = false := by simp; exact fun e => hbb ⟨rfl, e⟩
     clear hbb
     go_enter Tryz.func36, Tryz.ntmps36
     go_wp2_with fail
     refine (HIS.out _ hT).mono ?_
     rintro e w2 ⟨rfl, hx⟩
     go_wp2_with fail
     refine (HR.out _).mono ?_
     rintro e w3 ⟨rfl, e3'⟩
     obtain rfl := e3'.symm
     go_wp2_with fail
     refine (HD.out _ (hT.ext hx)).mono ?_
     rintro e w4 ⟨rfl, hx4⟩
     go_wp2_with fail
     refine (c_fallT nb tB f ri w4 HRG.out.1 HRG.out.2 (ht.ext (hx.trans hx4))).mono ?_
     rintro e w5 ⟨v, rfl, hrow, hx5⟩
     have hne : 1 ≤ (faT (decide (f = 2 ∨ f = 3)) ri).length := (fal_len goodTA goodTK 5 _ ri).1
     have hrg : ∀ x ∈ faT (decide (f = 2 ∨ f = 3)) ri, 0 ≤ x ∧ x < 16777216 := fal_range goodTA goodTK 5 _ ri HRG.out.1 HRG.out.2
     obtain ⟨L, hL⟩ : ∃ L, faT (decide (f = 2 ∨ f = 3)) ri = L := ⟨_, rfl⟩
     unfold firmT at HBR
     rw [hL] at HBR hne hrg hrow
     clear hL
     obtain ⟨z, t, rfl⟩ : ∃ z t, L = z :: t := by
      cases L with
      | nil => simp at hne
      | cons z t => exact ⟨z, t, rfl⟩
     obtain ⟨pE, capE, rfl⟩ := own_slice hrow
     obtain ⟨gE, rfl, _, _, hgc⟩ := own_at hrow (by simp)
     have c0 := hgc 0 (by simp)
     simp [i32s] at c0
     have hzr := hrg z (by simp)
     have hb : b = (decide (odT z = 0) && !(decide (f = 1 ∨ f = 3) && scT z)) := HBR.out
     have HB := Lib.hid hb
     have HZR := Lib.hid hzr
     have hI : (0 : Int) < ((z :: t).length : Nat) := by simp only [List.length_cons]; omega
     have hX5 := (hx.trans hx4).trans hx5
     clear hgc hrg hne hb hzr hrow HBR hx hx4 hx5
     have HJ : Hid (∀ w, Calls Tryz.prog 55 #[.int .i64 f] w fun e w' => e = .returned (.bool (decide (f = 1 ∨ f = 3))) ∧ w' = w) := Lib.hid (c_joining f)
     generalize decide (f = 1 ∨ f = 3) = jo at HJ HB
     by_cases ho : odT z = 0
     ·have HO := Lib.hid ho
      rw [decide_eq_true ho, Bool.true_and] at HB
      clear ho
      go_wp2_with fail
      refine (c_order nb tB z w5 (ht.ext hX5)).mono ?_
      rintro e w6 ⟨rfl, hx6⟩
      rw [HO.out]
      go_wp2_with fail
      refine (HJ.out w6).mono ?_
      rintro e w7 ⟨rfl, e7⟩
      obtain rfl := e7.symm
      cases jo with
      | false =>
       go_wp2_with fail
       exact ret_one rfl rfl rfl ⟨by rw [HB.out]; rfl, hX5.trans hx6⟩
      | true =>
       go_wp2_with fail
       refine (c_seconds nb tB z w6 (ht.ext (hX5.trans hx6)) HZR.out.1 HZR.out.2).mono ?_
       rintro e w8 ⟨rfl, hx8⟩
       have HB2 := Lib.hid (show b = !scT z from HB.out)
       generalize scT z = sc at HB2 ⊢
       cases sc with
       | false =>
        go_wp2_with fail
        exact ret_one rfl rfl rfl ⟨by rw [HB2.out]; rfl, (hX5.trans hx6).trans hx8⟩
       | true =>
        go_wp2_with fail
        exact ret_one rfl rfl rfl ⟨by rw [HB2.out]; rfl, (hX5.trans hx6).trans hx8⟩
     ·rw [decide_eq_false ho, Bool.false_and] at HB
      have h9 : (odT z == 0) = false := by simpa using ho
      obtain ⟨oz, hoz⟩ : ∃ oz, odT z = oz := ⟨_, rfl⟩
      rw [hoz] at h9
      have HOZ := Lib.hid hoz
      clear ho hoz
      go_wp2_with fail
      refine (c_order nb tB z w5 (ht.ext hX5)).mono ?_
      rintro e w6 ⟨rfl, hx6⟩
      rw [HOZ.out]
      go_wp2_with fail
      exact ret_one rfl rfl rfl ⟨by rw [HB.out]; rfl, hX5.trans hx6⟩
    ·have h6 : (wi == 1) = false := by simpa using h5
     clear hbb h5
     go_enter Tryz.func36, Tryz.ntmps36
     go_wp2_with fail
     refine (HIS.out _ hT).mono ?_
     rintro e w2 ⟨rfl, hx⟩
     go_wp2_with fail
     refine (HR.out _).mono ?_
     rintro e w3 ⟨rfl, e3'⟩
     obtain rfl := e3'.symm
     go_wp2_with fail
     refine (HD.out _ (hT.ext hx)).mono ?_
     rintro e w4 ⟨rfl, hx4⟩
     go_wp2_with fail
     refine (c_fallT nb tB f ri w4 HRG.out.1 HRG.out.2 (ht.ext (hx.trans hx4))).mono ?_
     rintro e w5 ⟨v, rfl, hrow, hx5⟩
     have hne : 1 ≤ (faT (decide (f = 2 ∨ f = 3)) ri).length := (fal_len goodTA goodTK 5 _ ri).1
     have hrg : ∀ x ∈ faT (decide (f = 2 ∨ f = 3)) ri, 0 ≤ x ∧ x < 16777216 := fal_range goodTA goodTK 5 _ ri HRG.out.1 HRG.out.2
     obtain ⟨L, hL⟩ : ∃ L, faT (decide (f = 2 ∨ f = 3)) ri = L := ⟨_, rfl⟩
     unfold firmT at HBR
     rw [hL] at HBR hne hrg hrow
     clear hL
     obtain ⟨z, t, rfl⟩ : ∃ z t, L = z :: t := by
      cases L with
      | nil => simp at hne
      | cons z t => exact ⟨z, t, rfl⟩
     obtain ⟨pE, capE, rfl⟩ := own_slice hrow
     obtain ⟨gE, rfl, _, _, hgc⟩ := own_at hrow (by simp)
     have c0 := hgc 0 (by simp)
     simp [i32s] at c0
     have hzr := hrg z (by simp)
     have hb : b = (decide (odT z = 0) && !(decide (f = 1 ∨ f = 3) && scT z)) := HBR.out
     have HB := Lib.hid hb
     have HZR := Lib.hid hzr
     have hI : (0 : Int) < ((z :: t).length : Nat) := by simp only [List.length_cons]; omega
     have hX5 := (hx.trans hx4).trans hx5
     clear hgc hrg hne hb hzr hrow HBR hx hx4 hx5
     have HJ : Hid (∀ w, Calls Tryz.prog 55 #[.int .i64 f] w fun e w' => e = .returned (.bool (decide (f = 1 ∨ f = 3))) ∧ w' = w) := Lib.hid (c_joining f)
     generalize decide (f = 1 ∨ f = 3) = jo at HJ HB
     by_cases ho : odT z = 0
     ·have HO := Lib.hid ho
      rw [decide_eq_true ho, Bool.true_and] at HB
      clear ho
      go_wp2_with fail
      refine (c_order nb tB z w5 (ht.ext hX5)).mono ?_
      rintro e w6 ⟨rfl, hx6⟩
      rw [HO.out]
      go_wp2_with fail
      refine (HJ.out w6).mono ?_
      rintro e w7 ⟨rfl, e7⟩
      obtain rfl := e7.symm
      cases jo with
      | false =>
       go_wp2_with fail
       exact ret_one rfl rfl rfl ⟨by rw [HB.out]; rfl, hX5.trans hx6⟩
      | true =>
       go_wp2_with fail
       refine (c_seconds nb tB z w6 (ht.ext (hX5.trans hx6)) HZR.out.1 HZR.out.2).mono ?_
       rintro e w8 ⟨rfl, hx8⟩
       have HB2 := Lib.hid (show b = !scT z from HB.out)
       generalize scT z = sc at HB2 ⊢
       cases sc with
       | false =>
        go_wp2_with fail
        exact ret_one rfl rfl rfl ⟨by rw [HB2.out]; rfl, (hX5.trans hx6).trans hx8⟩
       | true =>
        go_wp2_with fail
        exact ret_one rfl rfl rfl ⟨by rw [HB2.out]; rfl, (hX5.trans hx6).trans hx8⟩
     ·rw [decide_eq_false ho, Bool.false_and] at HB
      have h9 : (odT z == 0) = false := by simpa using ho
      obtain ⟨oz, hoz⟩ : ∃ oz, odT z = oz := ⟨_, rfl⟩
      rw [hoz] at h9
      have HOZ := Lib.hid hoz
      clear ho hoz
      go_wp2_with fail
      refine (c_order nb tB z w5 (ht.ext hX5)).mono ?_
      rintro e w6 ⟨rfl, hx6⟩
      rw [HOZ.out]
      go_wp2_with fail
      exact ret_one rfl rfl rfl ⟨by rw [HB.out]; rfl, hX5.trans hx6⟩
 ·obtain rfl : b = false := by
   cases b with
   | false => rfl
   | true => exact absurd (hb.1 rfl).1 he
  have HIS := Lib.hid (show ∀ w, Tabs w → Calls Tryz.prog 58 #[.string s, .int .i64 k] w fun e w' => e = .returned (.bool false) ∧ Ext w w' from fun w hT => c_IsI s k false w ⟨fun h => (by cases h), fun h => absurd h he⟩ hT hs)
  clear hb he
  go_enter Tryz.func36, Tryz.ntmps36
  go_wp2_with fail
  refine (HIS.out _ hT).mono ?_
  rintro e w2 ⟨rfl, hx⟩
  go_wp2_with fail
  exact ret_one rfl rfl rfl ⟨rfl, hx⟩
end Go.Proofs.YteokfknkcbmigaaGreatDoor
