/-
 Ranges of elements swapped and turned. Two ranges of elements turned.
-/
import Derived.Test.YtokeamebcdhnpaaGreatDoorWalkM
section
namespace Go.Proofs.YtokeamebcdhnpaaGreatDoor
open Go.RowKit Go.Rp Go.Shelf Go.Maps Go.Nm

theorem two_set {U V Z : List El} {x y : El} : ((U ++ x :: (V ++ y :: Z)).set U.length y).set (U.length + 1 + V.length) x = U ++ y :: (V ++ x :: Z) := by
 rw [List.set_append_right _ _ (by omega), List.set_append_right _ _ (by omega)]
 simp only [Nat.sub_self, List.set_cons_zero]
 rw [show U.length + 1 + V.length - U.length = V.length + 1 by omega, List.set_cons_succ, List.set_append_right _ _ (by omega)]
 simp
set_option maxRecDepth 100000 in
set_option maxHeartbeats 8000000 in
theorem c_swaps (g : Nat) (pre post : List Value) (R R' A X C Y D : List El) (a b k n cap : Nat) (fv : Value) (w : World) (h : Arr w g pre R post) (hR : R = A ++ (X ++ (C ++ (Y ++ D)))) (hR' : R' = A ++ (Y ++ (C ++ (X ++ D)))) (ha : a = A.length) (hb : b = A.length + X.length + C.length) (hX : X.length = k) (hY : Y.length = k) (hn : n = R.length) (hl : n ≤ 1000000000) :
  Calls Tryz.prog 157 #[.slice (some ⟨g, pre.length, none⟩) n cap, .int .i64 (a : Nat), .int .i64 (b : Nat), .int .i64 (k : Nat), fv] w fun e w' => e = .returned (.tuple #[]) ∧ Arr w' g pre R' post ∧ w.grownBy w' (some g) := by
 have HRR := Lib.hid hR'
 have hbn : a + k ≤ b ∧ b + k ≤ n := by rw [hn, hR, ha, hb]; simp; omega
 have HH := Lib.hid (And.intro ha (And.intro hb (And.intro hX (And.intro hY (And.intro hn hR)))))
 clear hR' hR ha hb hX hY hn
 go_enter Tryz.func157, Tryz.ntmps157
 go_wp2_with fail
 go_loopw [10] (fun iv W => ∃ i : Nat, iv = .int .i64 (i : Nat) ∧ i ≤ k ∧ Arr W g pre (A ++ ((Y.take i ++ X.drop i) ++ (C ++ ((X.take i ++ Y.drop i) ++ D)))) post ∧ w.grownBy W (some g)) (fun iv _ => k + 1 - (intOf iv).toNat)
 case atStart => exact ⟨0, rfl, by omega, by rw [HH.out.2.2.2.2.2] at h; simpa using h, World.grownBy.refl _ _⟩
 case round =>
  clear h
  obtain ⟨i, rfl, hi, hA, hg⟩ := hrel
  by_cases hlt : i < k
  ·have hltI : ((i : Nat) : Int) < (k : Nat) := by omega
   have hiX : i < X.length := by rw [HH.out.2.2.1]; exact hlt
   have hiY : i < Y.length := by rw [HH.out.2.2.2.1]; exact hlt
   obtain ⟨x, hx⟩ : ∃ x, X[i] = x := ⟨_, rfl⟩
   obtain ⟨y, hy⟩ : ∃ y, Y[i] = y := ⟨_, rfl⟩
   have hXd : X.drop i = x :: X.drop (i + 1) := by rw [← hx]; exact List.drop_eq_getElem_cons hiX
   have hYd : Y.drop i = y :: Y.drop (i + 1) := by rw [← hy]; exact List.drop_eq_getElem_cons hiY
   have hXt : X.take (i + 1) = X.take i ++ [x] := by rw [List.take_add_one, List.getElem?_eq_getElem hiX, hx]; rfl
   have hYt : Y.take (i + 1) = Y.take i ++ [y] := by rw [List.take_add_one, List.getElem?_eq_getElem hiY, hy]; rfl
   obtain ⟨U, hU⟩ : ∃ U, A ++ Y.take i = U := ⟨_, rfl⟩
   obtain ⟨V, hV⟩ : ∃ V, X.drop (i + 1) ++ (C ++ X.take i) = V := ⟨_, rfl⟩
   obtain ⟨Z, hZ⟩ : ∃ Z, Y.drop (i + 1) ++ D = Z := ⟨_, rfl⟩
   have e1 : A ++ ((Y.take i ++ X.drop i) ++ (C ++ ((X.take i ++ Y.drop i) ++ D))) = U ++ x :: (V ++ y :: Z) := by
    rw [hXd, hYd, ← hU, ← hV, ← hZ]; simp
   have e2 : A ++ ((Y.take (i + 1) ++ X.drop (i + 1)) ++ (C ++ ((X.take (i + 1) ++ Y.drop (i + 1)) ++ D))) = U ++ y :: (V ++ x :: Z) := by
    rw [hXt, hYt, ← hU, ← hV, ← hZ]; simp
   have HE2 := Lib.hid e2
   rw [e1] at hA
   have hh := HH.out
   have hUl : U.length = a + i := by rw [← hU, List.length_append, List.length_take]; omega
   have hVl : U.length + 1 + V.length = b + i := by rw [hUl, ← hV, List.length_append, List.length_append, List.length_drop, List.length_take]; omega
   have hln : (U ++ x :: (V ++ y :: Z)).length = n := by rw [← e1, hh.2.2.2.2.1, hh.2.2.2.2.2]; simp only [List.length_append, List.length_take, List.length_drop]; omega
   have haI : ((a : Nat) : Int) + (i : Nat) < (n : Nat) := by omega
   have hbI : ((b : Nat) : Int) + (i : Nat) < (n : Nat) := by omega
   clear e1 e2 hU hV hZ hXd hYd hXt hYt hx hy hiX hiY hh
   obtain ⟨hix, ex⟩ := mid_get (A := U) (x := x) (B := V ++ y :: Z) rfl
   obtain ⟨hiy, ey⟩ := mid_get (A := U ++ x :: V) (x := y) (B := Z) (L := U ++ x :: (V ++ y :: Z)) (by simp)
   have hUV : (U ++ x :: V).length = b + i := by rw [← hVl]; simp; omega
   obtain ⟨c0, c1, c2⟩ := hA.get hix
   obtain ⟨d0, d1, d2⟩ := hA.get hiy
   rw [ex] at c0 c1 c2
   rw [ey] at d0 d1 d2
   rw [hUl] at c0 c1 c2
   rw [hUV] at d0 d1 d2
   have HI := Lib.hid (And.intro hUl (And.intro hVl hln))
   obtain ⟨yo, hyo⟩ : ∃ z, y.ord = z := ⟨_, rfl⟩
   obtain ⟨xo, hxo⟩ : ∃ z, x.ord = z := ⟨_, rfl⟩
   obtain ⟨yr, hyr0⟩ : ∃ z, y.r = z := ⟨_, rfl⟩
   obtain ⟨xr, hxr0⟩ : ∃ z, x.r = z := ⟨_, rfl⟩
   obtain ⟨yz, hyz⟩ : ∃ z : Int, (if y.bad = true then 1 else 0) = z := ⟨_, rfl⟩
   obtain ⟨xz, hxz⟩ : ∃ z : Int, (if x.bad = true then 1 else 0) = z := ⟨_, rfl⟩
   have HV := Lib.hid (show Value.agg (elV y).toArray = .agg #[.int .i32 yr, .int .i64 yo, .int .i64 yz] ∧ Value.agg (elV x).toArray = .agg #[.int .i32 xr, .int .i64 xo, .int .i64 xz] by
    rw [← hyo, ← hxo, ← hyr0, ← hxr0, ← hyz, ← hxz]; exact ⟨rfl, rfl⟩)
   have HO := Lib.hid (And.intro hyo hxo)
   rw [hyr0] at d0
   rw [hyo] at d1
   rw [hyz] at d2
   rw [hxr0] at c0
   rw [hxo] at c1
   rw [hxz] at c2
   have y0 : ∀ w', EOn (fun _ => True) wr w' → w'.cell? _ = some (.int .i32 yr) := fun w' hx => hx.cell trivial d0
   have y1 : ∀ w', EOn (fun _ => True) wr w' → w'.cell? _ = some (.int .i64 yo) := fun w' hx => hx.cell trivial d1
   have y2 : ∀ w', EOn (fun _ => True) wr w' → w'.cell? _ = some (.int .i64 yz) := fun w' hx => hx.cell trivial d2
   have z0 : ∀ w', EOn (fun _ => True) wr w' → w'.cell? _ = some (.int .i32 xr) := fun w' hx => hx.cell trivial c0
   have z1 : ∀ w', EOn (fun _ => True) wr w' → w'.cell? _ = some (.int .i64 xo) := fun w' hx => hx.cell trivial c1
   have z2 : ∀ w', EOn (fun _ => True) wr w' → w'.cell? _ = some (.int .i64 xz) := fun w' hx => hx.cell trivial c2
   clear hyo hxo hyr0 hxr0 hyz hxz c0 c1 c2 d0 d1 d2
   clear hUl hVl hln hix ex hiy ey hUV
   go_wp2_with fail
   refine wp_reck (fun _ => True) [0, 1, 2, 3, 4, 5, 6, 7, 8, 9, 10, 11, 12, 14, 15, 16, 17, 18] [13, 19, 20, 21, 22, 23] [true, true] (by kernel_rfl) (by kernel_rfl) (by simp only [List.map_cons, List.map_nil, nth]; rfl) (by simp only [List.map_cons, List.map_nil, nth]; rfl) (fun wq hxq => ?_)
   repeat first
    | refine wpP_move' ?_
    | refine wpP_val' ?_
   refine wpP_end ?_
   replace y0 := fun w' hx => y0 w' (EOn.trans (EOn.of_ext hxq) hx)
   replace y1 := fun w' hx => y1 w' (EOn.trans (EOn.of_ext hxq) hx)
   replace y2 := fun w' hx => y2 w' (EOn.trans (EOn.of_ext hxq) hx)
   replace z0 := fun w' hx => z0 w' (EOn.trans (EOn.of_ext hxq) hx)
   replace z1 := fun w' hx => z1 w' (EOn.trans (EOn.of_ext hxq) hx)
   replace z2 := fun w' hx => z2 w' (EOn.trans (EOn.of_ext hxq) hx)
   replace hA := show Arr wq g pre _ post from hxq.blk hA
   replace hg := hg.trans (ext_grown hxq (some g))
   clear hxq
   repeat first
    | refine wpG_move' ?_
    | refine wpG_assign' ?_
    | refine wpG_val' ?_
    | refine wpG_no' ?_
   refine wpG_end (fun w6 hx6 => ?_)
   replace hA := show Arr w6 g pre _ post from hx6.blk hA
   replace hg := hg.trans (ext_grown hx6 (some g))
   clear hx6 y0 y1 y2 z0 z1 z2
   have hI1 : a + i < (U ++ x :: (V ++ y :: Z)).length := by rw [HI.out.2.2]; omega
   obtain ⟨hS1, hG1⟩ := hA.setE hI1 y
   have hI0 : b + i < ((U ++ x :: (V ++ y :: Z)).set (a + i) y).length := by rw [List.length_set, HI.out.2.2]; omega
   obtain ⟨hS2, hG2⟩ := hS1.setE hI0 x
   have hsw : ((U ++ x :: (V ++ y :: Z)).set (a + i) y).set (b + i) x = A ++ ((Y.take (i + 1) ++ X.drop (i + 1)) ++ (C ++ ((X.take (i + 1) ++ Y.drop (i + 1)) ++ D))) := by
    rw [HE2.out, ← HI.out.1, ← HI.out.2.1, two_set]
   rw [hsw] at hS2
   have HAA := Lib.hid hA
   have HS1 := Lib.hid hS1
   have HS2 := Lib.hid hS2
   have HG := Lib.hid ((hg.trans hG1).trans hG2)
   have hII := Lib.hid (And.intro hI1 hI0)
   clear hsw hg hA hS1 hS2 hI1 hI0 hG1 hG2
   go_wp2_with (first | (refine wpList_storeE rfl (.tmp 36) (.tmp 29) rfl (i := a + i) y rfl HV.out.1.symm rfl HAA.out hII.out.1 ?_; obtain ⟨W1, hW1⟩ : ∃ W, setE w6 g (pre.length + (a + i) * 3) y = W := ⟨_, rfl⟩; rw [hW1] at HS1 HS2 HG ⊢; clear hW1 HAA) | (refine wpList_storeE rfl (.tmp 37) (.tmp 35) rfl (i := b + i) x rfl HV.out.2.symm rfl HS1.out hII.out.2 ?_; obtain ⟨W2, hW2⟩ : ∃ W, setE W1 g (pre.length + (b + i) * 3) x = W := ⟨_, rfl⟩; rw [hW2] at HS2 HG ⊢; clear hW2 HS1))
   refine gQ_normal ?_
   go_wp2_with fail
   go_roundw
   case rel => exact ⟨i + 1, by simp, by omega, HS2.out, HG.out⟩
   case measure => simp [intOf]; omega
  ·have hltI : ¬ ((i : Nat) : Int) < (k : Nat) := by omega
   have HEND := Lib.hid (show Arr wr g pre R' post by
    have hh := HH.out
    obtain rfl : i = k := by omega
    rw [List.take_of_length_le (by omega), List.drop_of_length_le (by omega), List.take_of_length_le (by omega), List.drop_of_length_le (by omega)] at hA
    rw [HRR.out]
    simpa using hA)
   clear hA
   go_wp2_with fail
   refine bodyPost_end (results_none rfl _ _ _) rfl ?_
   exact ⟨rfl, HEND.out, hg⟩
end Go.Proofs.YtokeamebcdhnpaaGreatDoor
end

section
namespace Go.Proofs.YtokeamebcdhnpaaGreatDoor
open Go.RowKit Go.Rp Go.Shelf Go.Maps Go.Nm

set_option maxRecDepth 100000 in
set_option maxHeartbeats 8000000 in
theorem c_rotate (g : Nat) (pre post : List Value) (R R' A X Y B : List El) (a m b n cap : Nat) (fv : Value) (w : World) (h : Arr w g pre R post) (hR : R = A ++ (X ++ (Y ++ B))) (hR' : R' = A ++ (Y ++ (X ++ B))) (ha : a = A.length) (hm : m = A.length + X.length) (hb : b = A.length + X.length + Y.length) (hX : 1 ≤ X.length) (hY : 1 ≤ Y.length) (hn : n = R.length) (hl : n ≤ 1000000000) :
  Calls Tryz.prog 153 #[.slice (some ⟨g, pre.length, none⟩) n cap, .int .i64 (a : Nat), .int .i64 (m : Nat), .int .i64 (b : Nat), fv] w fun e w' => e = .returned (.tuple #[]) ∧ Arr w' g pre R' post ∧ w.grownBy w' (some g) := by
 have hbn : a < m ∧ m < b ∧ b ≤ n := by rw [hn, hR, ha, hb, hm]; simp; omega
 have HI := Lib.hid (show (m : Int) - (a : Nat) = ((m - a : Nat) : Int) ∧ (b : Int) - (m : Nat) = ((b - m : Nat) : Int) by omega)
 have HH := Lib.hid (show A.length + X.length = m ∧ X.length = m - a ∧ Y.length = b - m ∧ R = A ++ (X ++ (Y ++ B)) ∧ R' = A ++ (Y ++ (X ++ B)) ∧ n = R.length by
  refine ⟨hm.symm, by omega, by omega, hR, hR', hn⟩)
 clear hR' hR ha hm hb hX hY hn
 go_enter Tryz.func153, Tryz.ntmps153
 go_wp2_with fail
 rw [HI.out.1, HI.out.2]
 go_loopw [10, 11] (fun iv jv W => ∃ (i j : Nat) (A X Y B : List El), iv = .int .i64 (i : Nat) ∧ jv = .int .i64 (j : Nat) ∧ Hid (1 ≤ i ∧ 1 ≤ j ∧ X.length = i ∧ Y.length = j ∧ A.length + i = m ∧ m + j ≤ n ∧ R' = A ++ (Y ++ (X ++ B)) ∧ n = (A ++ (X ++ (Y ++ B))).length) ∧ Arr W g pre (A ++ (X ++ (Y ++ B))) post ∧ w.grownBy W (some g)) (fun iv jv _ => (intOf iv).toNat + (intOf jv).toNat)
 case atStart =>
  have hh := HH.out
  refine ⟨m - a, b - m, A, X, Y, B, rfl, rfl, Lib.hid ⟨by omega, by omega, hh.2.1, hh.2.2.1, by omega, by omega, hh.2.2.2.2.1, by rw [← hh.2.2.2.1]; exact hh.2.2.2.2.2⟩, by rw [← hh.2.2.2.1]; exact h, World.grownBy.refl _ _⟩
 case round =>
  clear h HH HI
  obtain ⟨i, j, A, X, Y, B, rfl, rfl, hh, hA, hg⟩ := hrel
  have h1 := hh.out
  have HS := Lib.hid (show (m : Int) - (i : Nat) = ((m - i : Nat) : Int) by omega)
  have hmi : ((i : Nat) : Int) ≤ (m : Nat) := by omega
  have hm9 : ((m : Nat) : Int) ≤ 1000000000 := by omega
  have hj9 : ((j : Nat) : Int) ≤ 1000000000 := by omega
  by_cases hij : i = j
  ·subst hij
   have hA' : Arr wr g pre (A ++ (X ++ ([] ++ (Y ++ B)))) post := by simpa using hA
   have HA := Lib.hid (And.intro hA' hg)
   clear hA hA' hg h1
   go_wp2_with fail
   rw [HS.out]
   have h1 := hh.out
   refine (c_swaps g pre post _ R' A X [] Y B (m - i) m i n cap _ wr HA.out.1 rfl (by rw [h1.2.2.2.2.2.2.1]; simp) (by omega) (by simp; omega) h1.2.2.1 h1.2.2.2.1 (by rw [h1.2.2.2.2.2.2.2]; simp) hl).mono ?_
   rintro e w2 ⟨rfl, hA2, hg2⟩
   have HA2 := Lib.hid (And.intro hA2 (HA.out.2.trans hg2))
   clear hA2 hg2 h1
   go_wp2_with fail
   refine bodyPost_end (results_none rfl _ _ _) rfl ?_
   exact ⟨rfl, HA2.out⟩
  ·have hne : (((i : Nat) : Int) != (j : Nat)) = true := by simp; omega
   by_cases hgt : j < i
   ·have hgI : ((j : Nat) : Int) < (i : Nat) := by omega
    obtain ⟨X1, X2, rfl, hX1⟩ : ∃ X1 X2, X = X1 ++ X2 ∧ X1.length = j := ⟨X.take j, X.drop j, (List.take_append_drop _ _).symm, by rw [List.length_take]; omega⟩
    have hA' : Arr wr g pre (A ++ (X1 ++ (X2 ++ (Y ++ B)))) post := by simpa using hA
    have HA := Lib.hid (And.intro hA' hg)
    have HX := Lib.hid hX1
    have HJ := Lib.hid (show (i : Int) - (j : Nat) = ((i - j : Nat) : Int) by omega)
    clear hA hA' hg h1 hij hX1
    go_wp2_with fail
    rw [HS.out]
    have h1 := hh.out
    rw [List.length_append] at h1
    refine (c_swaps g pre post _ (A ++ (Y ++ (X2 ++ (X1 ++ B)))) A X1 X2 Y B (m - i) m j n cap _ wr HA.out.1 rfl rfl (by omega) (by have := HX.out; omega) HX.out h1.2.2.2.1 (by rw [h1.2.2.2.2.2.2.2]; simp) hl).mono ?_
    rintro e w2 ⟨rfl, hA2, hg2⟩
    have HA2 := Lib.hid (And.intro hA2 (HA.out.2.trans hg2))
    clear hA2 hg2 h1
    go_wp2_with fail
    go_roundw
    case rel =>
     have h1 := hh.out
     have h2 := HX.out
     rw [List.length_append] at h1
     exact ⟨i - j, j, A ++ Y, X2, X1, B, by rw [HJ.out], rfl, Lib.hid ⟨by omega, by omega, by omega, h2, by rw [List.length_append]; omega, by omega, by rw [h1.2.2.2.2.2.2.1]; simp, by rw [h1.2.2.2.2.2.2.2]; simp; omega⟩, by simpa using HA2.out.1, HA2.out.2⟩
    case measure => have := hh.out; simp [intOf]; omega
   ·have hgI : ¬ ((j : Nat) : Int) < (i : Nat) := by omega
    obtain ⟨Y1, Y2, rfl, hY2⟩ : ∃ Y1 Y2, Y = Y1 ++ Y2 ∧ Y2.length = i := ⟨Y.take (j - i), Y.drop (j - i), (List.take_append_drop _ _).symm, by rw [List.length_drop]; omega⟩
    have hA' : Arr wr g pre (A ++ (X ++ (Y1 ++ (Y2 ++ B)))) post := by simpa using hA
    have HA := Lib.hid (And.intro hA' hg)
    have HX := Lib.hid hY2
    have HJ := Lib.hid (show (j : Int) - (i : Nat) = ((j - i : Nat) : Int) by omega)
    have HM := Lib.hid (show (m : Int) + (j : Nat) - (i : Nat) = ((m + j - i : Nat) : Int) by omega)
    have HLT := Lib.hid (show i < j by omega)
    clear hA hA' hg h1 hij hY2
    go_wp2_with fail
    rw [HS.out, HM.out]
    have h1 := hh.out
    rw [List.length_append] at h1
    refine (c_swaps g pre post _ (A ++ (Y2 ++ (Y1 ++ (X ++ B)))) A X Y1 Y2 B (m - i) (m + j - i) i n cap _ wr HA.out.1 rfl rfl (by omega) (by have := HX.out; have := h1.2.2.1; have := h1.2.2.2.1; omega) h1.2.2.1 HX.out (by rw [h1.2.2.2.2.2.2.2]; simp) hl).mono ?_
    rintro e w2 ⟨rfl, hA2, hg2⟩
    have HA2 := Lib.hid (And.intro hA2 (HA.out.2.trans hg2))
    clear hA2 hg2 h1
    go_wp2_with fail
    go_roundw
    case rel =>
     have h1 := hh.out
     have h2 := HX.out
     have h3 := HLT.out
     rw [List.length_append] at h1
     exact ⟨i, j - i, A, Y2, Y1, X ++ B, rfl, by rw [HJ.out], Lib.hid ⟨by omega, by omega, h2, by omega, by omega, by omega, by rw [h1.2.2.2.2.2.2.1]; simp, by rw [h1.2.2.2.2.2.2.2]; simp; omega⟩, HA2.out.1, HA2.out.2⟩
    case measure => have := hh.out; simp [intOf]; omega
end Go.Proofs.YtokeamebcdhnpaaGreatDoor
end
