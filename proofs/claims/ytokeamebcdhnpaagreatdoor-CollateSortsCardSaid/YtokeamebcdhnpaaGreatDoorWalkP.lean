/-
 Two sorted rows merged in place.
-/
import Derived.Test.YtokeamebcdhnpaaGreatDoorWalkPG
namespace Go.Proofs.YtokeamebcdhnpaaGreatDoor
open Go.RowKit Go.Rp Go.Shelf Go.Maps Go.Nm

set_option maxRecDepth 100000 in
set_option maxHeartbeats 8000000 in
theorem c_symMerge (g : Nat) (pre post : List Value) (n cap : Nat) (hl : n ≤ 1000000000) : ∀ (d : Nat) (R R' A X Y B : List El) (a m b : Nat) (w : World), X.length + Y.length ≤ d → Arr w g pre R post → R = A ++ (X ++ (Y ++ B)) → R' = A ++ (sortL (X ++ Y) ++ B) → a = A.length → m = A.length + X.length → b = A.length + X.length + Y.length → 1 ≤ X.length → 1 ≤ Y.length → n = R.length → Up X → Up Y → OrdOk R →
  Calls Tryz.prog 137 #[.slice (some ⟨g, pre.length, none⟩) n cap, .int .i64 (a : Nat), .int .i64 (m : Nat), .int .i64 (b : Nat), .func (.func 90) #[] #[]] w fun e w' => e = .returned (.tuple #[]) ∧ Arr w' g pre R' post ∧ w.grownBy w' (some g) := by
 intro d
 induction d with
 | zero => intro R R' A X Y B a m b w h0 _ _ _ _ _ _ h1 h2; omega
 | succ d ih =>
  intro R R' A X Y B a m b w hd h hR hR' ha hm hb hX hY hn hUX hUY ho
  have hbn : a < m ∧ m < b ∧ b ≤ n := by rw [hn, hR, ha, hb, hm]; simp; omega
  have HH := Lib.hid (And.intro hR (And.intro hR' (And.intro ha (And.intro hm (And.intro hb (And.intro hn (And.intro hUX (And.intro hUY ho))))))))
  have IH := Lib.hid ih
  have HDD := Lib.hid hd
  clear ih hR hR' ha hm hb hn hUX hUY ho hX hY hd
  have hnI : ((n : Nat) : Int) ≤ 1000000000 := by omega
  have ham : ((a : Nat) : Int) < (m : Nat) := by omega
  have hmb : ((m : Nat) : Int) < (b : Nat) := by omega
  have hbI : ((b : Nat) : Int) ≤ (n : Nat) := by omega
  by_cases hx1 : m = a + 1
  ·have e1 : (((m : Nat) : Int) - (a : Nat) == 1) = true := by simp; omega
   have HX1 := Lib.hid hx1
   clear hx1
   go_enter Tryz.func137, Tryz.ntmps137
   go_wp2_with fail
   go_loopw [10, 11] (fun iv jv W => ∃ i j : Nat, iv = .int .i64 (i : Nat) ∧ jv = .int .i64 (j : Nat) ∧ Hid (m ≤ i ∧ i ≤ j ∧ j ≤ b ∧ (i = m ∨ oAt R (i - 1) < oAt R a) ∧ (j = b ∨ oAt R a ≤ oAt R j)) ∧ Arr W g pre R post ∧ w.grownBy W (some g)) (fun iv jv _ => (intOf jv).toNat - (intOf iv).toNat)
   case atStart => exact ⟨m, b, rfl, rfl, Lib.hid ⟨by omega, by omega, by omega, .inl rfl, .inl rfl⟩, h, World.grownBy.refl _ _⟩
   case round =>
    clear h
    obtain ⟨i, j, rfl, rfl, hij, hA, hg⟩ := hrel
    by_cases hlt : i < j
    ·have hltI : ((i : Nat) : Int) < (j : Nat) := by omega
     have HM := Lib.hid (show ((i : Nat) : Int) + (j : Nat) ≤ 2000000000 by have := hij.out; omega)
     have hm2 := HM.out
     go_wp2_with fail
     clear hm2
     obtain ⟨c, hc⟩ : ∃ c : Nat, (i + j) / 2 = c := ⟨_, rfl⟩
     have hcI : (((i : Nat) : Int) + (j : Nat)) / 2 = (c : Nat) := by omega
     rw [hcI]
     have HC := Lib.hid (show i ≤ c ∧ c < j by omega)
     have hn := HH.out.2.2.2.2.2.1
     have hjn : c < R.length ∧ a < R.length := by have := hij.out; have := HC.out; omega
     have hcn : ((c : Nat) : Int) < (n : Nat) := by omega
     have han : ((a : Nat) : Int) < (n : Nat) := by omega
     obtain ⟨hiy, hix⟩ := hjn
     obtain ⟨y, ey⟩ : ∃ y, R[c] = y := ⟨_, rfl⟩
     obtain ⟨x, ex⟩ : ∃ x, R[a] = x := ⟨_, rfl⟩
     have hoy := HH.out.2.2.2.2.2.2.2.2 y (by rw [← ey]; exact List.getElem_mem hiy)
     have hox := HH.out.2.2.2.2.2.2.2.2 x (by rw [← ex]; exact List.getElem_mem hix)
     have HOA := Lib.hid (show oAt R c = y.ord ∧ oAt R a = x.ord from ⟨oAt_of hiy ey, oAt_of hix ex⟩)
     obtain ⟨d0, d1, d2⟩ := hA.get hiy
     obtain ⟨c0, c1, c2⟩ := hA.get hix
     rw [ey] at d0 d1 d2
     rw [ex] at c0 c1 c2
     clear hn hiy hix ey ex hc hcI
     obtain ⟨yo, hyo⟩ : ∃ z, y.ord = z := ⟨_, rfl⟩
     obtain ⟨xo, hxo⟩ : ∃ z, x.ord = z := ⟨_, rfl⟩
     obtain ⟨yr, hyr0⟩ : ∃ z, y.r = z := ⟨_, rfl⟩
     obtain ⟨xr, hxr0⟩ : ∃ z, x.r = z := ⟨_, rfl⟩
     obtain ⟨yz, hyz⟩ : ∃ z : Int, (if y.bad = true then 1 else 0) = z := ⟨_, rfl⟩
     obtain ⟨xz, hxz⟩ : ∃ z : Int, (if x.bad = true then 1 else 0) = z := ⟨_, rfl⟩
     have HV := Lib.hid (show Value.agg (elV y).toArray = .agg #[.int .i32 yr, .int .i64 yo, .int .i64 yz] ∧ Value.agg (elV x).toArray = .agg #[.int .i32 xr, .int .i64 xo, .int .i64 xz] by
      rw [← hyo, ← hxo, ← hyr0, ← hxr0, ← hyz, ← hxz]; exact ⟨rfl, rfl⟩)
     have HO := Lib.hid (And.intro hyo hxo)
     rw [hyr0] at d0
     rw [hyo] at d1
     rw [hyz] at d2
     rw [hxr0] at c0
     rw [hxo] at c1
     rw [hxz] at c2
     have y0 : ∀ w', EOn (fun _ => True) wr w' → w'.cell? _ = some (.int .i32 yr) := fun w' hx => hx.cell trivial d0
     have y1 : ∀ w', EOn (fun _ => True) wr w' → w'.cell? _ = some (.int .i64 yo) := fun w' hx => hx.cell trivial d1
     have y2 : ∀ w', EOn (fun _ => True) wr w' → w'.cell? _ = some (.int .i64 yz) := fun w' hx => hx.cell trivial d2
     have z0 : ∀ w', EOn (fun _ => True) wr w' → w'.cell? _ = some (.int .i32 xr) := fun w' hx => hx.cell trivial c0
     have z1 : ∀ w', EOn (fun _ => True) wr w' → w'.cell? _ = some (.int .i64 xo) := fun w' hx => hx.cell trivial c1
     have z2 : ∀ w', EOn (fun _ => True) wr w' → w'.cell? _ = some (.int .i64 xz) := fun w' hx => hx.cell trivial c2
     clear hyo hxo hyr0 hxr0 hyz hxz c0 c1 c2 d0 d1 d2
     have HCC := Lib.hid (show ∀ w', Calls Tryz.prog 90 #[.agg #[.int .i32 yr, .int .i64 yo, .int .i64 yz], .agg #[.int .i32 xr, .int .i64 xo, .int .i64 xz]] w' fun e w'' => e = .returned (.int .i64 (yo - xo)) ∧ Ext w' w'' from fun w' => c_cmp _ _ _ _ _ _ w' (by have := HO.out.1; omega) (by have := HO.out.2; omega))
     clear hoy hox
     refine wp_lex (fun _ => True) [true, true, true, true, true, true, true, true, true, true, true] (by kernel_rfl) (by kernel_rfl) ?_
     repeat first
      | refine wpG_move' ?_
      | refine wpG_assign' ?_
      | refine wpG_val' ?_
      | refine wpG_no' ?_
     refine wpG_call (by rfl) (fun w' hx => (by go_simp <;> first | exact rfl | exact ⟨rfl, rfl⟩)) (fun w' hx => HCC.out w') (by simp only [Act.put, List.setIfInBounds_toArray, List.set_cons_succ, List.set_cons_zero]; rfl) ?_
     by_cases hlt2 : yo < xo
     ·have hlt3 : yo - xo < 0 := by omega
      have hd3 := decide_eq_true hlt3
      repeat first
       | refine wpG_move' ?_
       | refine wpG_assign' ?_
       | refine wpG_val' ?_
       | refine wpG_no' ?_
      refine wpG_end (fun w5 hx5 => ?_)
      replace hA := show Arr w5 g pre _ post from hx5.blk hA
      replace hg := hg.trans (ext_grown hx5 (some g))
      clear hx5 y0 y1 y2 z0 z1 z2
      go_wp2_with fail
      refine gQ_normal ?_
      go_wp2_with fail
      go_roundw
      case rel => exact ⟨c + 1, j, by simp, rfl, Lib.hid ⟨by have := hij.out; have := HC.out; omega, by have := HC.out; omega, hij.out.2.2.1, .inr (by have := HOA.out; have := HO.out; simp only [Nat.add_sub_cancel]; omega), hij.out.2.2.2.2⟩, hA, hg⟩
      case measure => have := HC.out; simp [intOf]; omega
     ·have hlt3 : ¬ yo - xo < 0 := by omega
      have hd3 := decide_eq_false hlt3
      repeat first
       | refine wpG_move' ?_
       | refine wpG_assign' ?_
       | refine wpG_val' ?_
       | refine wpG_no' ?_
      refine wpG_end (fun w5 hx5 => ?_)
      replace hA := show Arr w5 g pre _ post from hx5.blk hA
      replace hg := hg.trans (ext_grown hx5 (some g))
      clear hx5 y0 y1 y2 z0 z1 z2
      go_wp2_with fail
      refine gQ_normal ?_
      go_wp2_with fail
      go_roundw
      case rel => exact ⟨i, c, rfl, rfl, Lib.hid ⟨hij.out.1, HC.out.1, by have := hij.out; have := HC.out; omega, hij.out.2.2.2.1, .inr (by have := HOA.out; have := HO.out; omega)⟩, hA, hg⟩
      case measure => have := HC.out; simp [intOf]; omega
    ·have hltI : ¬ ((i : Nat) : Int) < (j : Nat) := by omega
     obtain ⟨x, hXx⟩ : ∃ x, X = [x] := by
      have h1 := HH.out.2.2.2.1
      have h0 := HH.out.2.2.1
      have h2 := HX1.out
      have hX1 : X.length = 1 := by omega
      match X, hX1 with
      | [x], _ => exact ⟨x, rfl⟩
     obtain ⟨Y1, hY1⟩ : ∃ Y1, Y.take (i - m) = Y1 := ⟨_, rfl⟩
     obtain ⟨Y2, hY2⟩ : ∃ Y2, Y.drop (i - m) = Y2 := ⟨_, rfl⟩
     have HK := Lib.hid (show X = [x] ∧ Y = Y1 ++ Y2 ∧ a + 1 + Y1.length = i ∧ a = A.length ∧ m = a + 1 by
      have h1 := HH.out
      have h2 := HX1.out
      have h3 := hij.out
      have h4 : X.length = 1 := by rw [hXx]; rfl
      refine ⟨hXx, by rw [← hY1, ← hY2, List.take_append_drop], ?_, h1.2.2.1, h2⟩
      rw [← hY1, List.length_take]
      omega)
     have HFIN := Lib.hid (show Y1 ++ x :: Y2 = sortL (X ++ Y) by
      have h1 := HH.out
      have h3 := hij.out
      have h4 := HK.out
      have hR := h1.1
      rw [h4.1, h4.2.1] at hR
      have hpos : ∀ z ∈ x :: (Y1 ++ Y2), 0 < z.ord := fun z hz => (h1.2.2.2.2.2.2.2.2 z (by rw [hR]; simp at hz ⊢; rcases hz with h | h | h <;> simp [h])).1
      have oa : oAt R a = x.ord := by rw [hR, h4.2.2.2.1]; exact oAt_mid A _ x
      have hUY := h1.2.2.2.2.2.2.2.1
      rw [h4.2.1] at hUY
      rw [h4.1, h4.2.1]
      refine merge_left hpos hUY (fun u y e => ?_) (fun y t e => ?_)
      ·rcases h3.2.2.2.1 with h | h
       ·have := congrArg List.length e
        simp at this
        omega
       ·rw [oa] at h
        have : oAt R (i - 1) = y.ord := by
         have hl : (A ++ [x] ++ u).length = i - 1 := by
          have := congrArg List.length e
          simp at this ⊢
          omega
         have hR2 : R = (A ++ [x] ++ u) ++ y :: (Y2 ++ B) := by rw [hR, e]; simp
         rw [hR2, ← hl, oAt_mid]
        omega
      ·rcases h3.2.2.2.2 with h | h
       ·have h5 := h1.2.2.2.2.1
        rw [h4.1, h4.2.1, e] at h5
        simp only [List.length_append, List.length_cons, List.length_nil] at h5
        omega
       ·rw [oa] at h
        have : oAt R j = y.ord := by
         have hl : (A ++ [x] ++ Y1).length = j := by simp; omega
         have hR2 : R = (A ++ [x] ++ Y1) ++ y :: (t ++ B) := by rw [hR, e]; simp
         rw [hR2, ← hl, oAt_mid]
        omega)
     have hA0 : Arr wr g pre (A ++ (x :: (Y1 ++ (Y2 ++ B)))) post := by
      have h1 := HH.out.1
      rw [HK.out.1, HK.out.2.1] at h1
      rw [h1] at hA
      simpa using hA
     have hi1 : ((i : Nat) : Int) - 1 ≤ 1000000000 := by have := hij.out; omega
     have hi2 : (1 : Int) ≤ (i : Nat) := by have := hij.out; omega
     have HIJ := Lib.hid hij.out
     clear hY1 hY2 hXx hA hij
     obtain ⟨Wo, rfl⟩ : ∃ Wo, Wo = wr := ⟨wr, rfl⟩
     go_wp2_with fail
     go_loopw [13] (fun kv W => ∃ c q : Nat, kv = .int .i64 (c : Nat) ∧ Hid (c = a + q ∧ q ≤ Y1.length) ∧ Arr W g pre (A ++ (Y1.take q ++ x :: (Y1.drop q ++ (Y2 ++ B)))) post ∧ w.grownBy W (some g)) (fun kv _ => i + 1 - (intOf kv).toNat)
     case atStart => exact ⟨a, 0, rfl, Lib.hid ⟨rfl, by omega⟩, by simpa using hA0, hg⟩
     case round =>
      clear hA0 hg
      obtain ⟨c, q, rfl, hc, hA, hg⟩ := hrel
      by_cases hlt5 : q < Y1.length
      ·have hkI : ((c : Nat) : Int) < (i : Nat) - 1 := by have := hc.out; have := HK.out; omega
       obtain ⟨y, hy⟩ : ∃ y, Y1[q] = y := ⟨_, rfl⟩
       have hYd : Y1.drop q = y :: Y1.drop (q + 1) := by rw [← hy]; exact List.drop_eq_getElem_cons hlt5
       have hYt : Y1.take (q + 1) = Y1.take q ++ [y] := by rw [List.take_add_one, List.getElem?_eq_getElem hlt5, hy]; rfl
       obtain ⟨U, hU⟩ : ∃ U, A ++ Y1.take q = U := ⟨_, rfl⟩
       obtain ⟨Z, hZ⟩ : ∃ Z, Y1.drop (q + 1) ++ (Y2 ++ B) = Z := ⟨_, rfl⟩
       have e1 : A ++ (Y1.take q ++ x :: (Y1.drop q ++ (Y2 ++ B))) = U ++ x :: ([] ++ y :: Z) := by
        rw [hYd, ← hU, ← hZ]; simp
       have e2 : A ++ (Y1.take (q + 1) ++ x :: (Y1.drop (q + 1) ++ (Y2 ++ B))) = U ++ y :: ([] ++ x :: Z) := by
        rw [hYt, ← hU, ← hZ]; simp
       have HE2 := Lib.hid e2
       rw [e1] at hA
       have hUl : U.length = c := by have := hc.out; have := HK.out; rw [← hU, List.length_append, List.length_take]; omega
       have hln : (U ++ x :: ([] ++ y :: Z)).length = n := by
        have h1 := HH.out
        have h2 := HK.out
        have h3 := h1.1
        rw [h2.1, h2.2.1] at h3
        rw [← e1, h1.2.2.2.2.2.1, h3]
        simp only [List.length_append, List.length_take, List.length_drop, List.length_cons, List.length_nil]
        omega
       have hcn : ((c : Nat) : Int) < (n : Nat) := by rw [← hln]; simp; omega
       have hcn1 : ((c : Nat) : Int) + 1 < (n : Nat) := by rw [← hln]; simp; omega
       clear e1 e2 hU hZ hYd hYt hy
       obtain ⟨hix, ex⟩ := mid_get (A := U) (x := x) (B := [] ++ y :: Z) rfl
       obtain ⟨hiy, ey⟩ := mid_get (A := U ++ x :: []) (x := y) (B := Z) (L := U ++ x :: ([] ++ y :: Z)) (by simp)
       have hUV : (U ++ x :: []).length = c + 1 := by rw [← hUl]; simp
       obtain ⟨c0, c1, c2⟩ := hA.get hix
       obtain ⟨d0, d1, d2⟩ := hA.get hiy
       rw [ex] at c0 c1 c2
       rw [ey] at d0 d1 d2
       rw [hUl] at c0 c1 c2
       rw [hUV] at d0 d1 d2
       have HI := Lib.hid (And.intro hUl hln)
       have HLT := Lib.hid hlt5
       obtain ⟨yo, hyo⟩ : ∃ z, y.ord = z := ⟨_, rfl⟩
       obtain ⟨xo, hxo⟩ : ∃ z, x.ord = z := ⟨_, rfl⟩
       obtain ⟨yr, hyr0⟩ : ∃ z, y.r = z := ⟨_, rfl⟩
       obtain ⟨xr, hxr0⟩ : ∃ z, x.r = z := ⟨_, rfl⟩
       obtain ⟨yz, hyz⟩ : ∃ z : Int, (if y.bad = true then 1 else 0) = z := ⟨_, rfl⟩
       obtain ⟨xz, hxz⟩ : ∃ z : Int, (if x.bad = true then 1 else 0) = z := ⟨_, rfl⟩
       have HV := Lib.hid (show Value.agg (elV y).toArray = .agg #[.int .i32 yr, .int .i64 yo, .int .i64 yz] ∧ Value.agg (elV x).toArray = .agg #[.int .i32 xr, .int .i64 xo, .int .i64 xz] by
        rw [← hyo, ← hxo, ← hyr0, ← hxr0, ← hyz, ← hxz]; exact ⟨rfl, rfl⟩)
       have HO := Lib.hid (And.intro hyo hxo)
       rw [hyr0] at d0
       rw [hyo] at d1
       rw [hyz] at d2
       rw [hxr0] at c0
       rw [hxo] at c1
       rw [hxz] at c2
       have y0 : ∀ w', EOn (fun _ => True) wr w' → w'.cell? _ = some (.int .i32 yr) := fun w' hx => hx.cell trivial d0
       have y1 : ∀ w', EOn (fun _ => True) wr w' → w'.cell? _ = some (.int .i64 yo) := fun w' hx => hx.cell trivial d1
       have y2 : ∀ w', EOn (fun _ => True) wr w' → w'.cell? _ = some (.int .i64 yz) := fun w' hx => hx.cell trivial d2
       have z0 : ∀ w', EOn (fun _ => True) wr w' → w'.cell? _ = some (.int .i32 xr) := fun w' hx => hx.cell trivial c0
       have z1 : ∀ w', EOn (fun _ => True) wr w' → w'.cell? _ = some (.int .i64 xo) := fun w' hx => hx.cell trivial c1
       have z2 : ∀ w', EOn (fun _ => True) wr w' → w'.cell? _ = some (.int .i64 xz) := fun w' hx => hx.cell trivial c2
       clear hyo hxo hyr0 hxr0 hyz hxz c0 c1 c2 d0 d1 d2
       clear hUl hln hix ex hiy ey hUV hlt5
       go_wp2_with fail
       refine wp_reck (fun _ => True) [0, 1, 2, 3, 4, 5, 6, 7, 8, 10, 11, 12] [9, 13, 14, 15, 16, 17] [true, true] (by kernel_rfl) (by kernel_rfl) (by simp only [List.map_cons, List.map_nil, nth]; rfl) (by simp only [List.map_cons, List.map_nil, nth]; rfl) (fun wq hxq => ?_)
       repeat first
        | refine wpP_move' ?_
        | refine wpP_val' ?_
       refine wpP_end ?_
       replace y0 := fun w' hx => y0 w' (EOn.trans (EOn.of_ext hxq) hx)
       replace y1 := fun w' hx => y1 w' (EOn.trans (EOn.of_ext hxq) hx)
       replace y2 := fun w' hx => y2 w' (EOn.trans (EOn.of_ext hxq) hx)
       replace z0 := fun w' hx => z0 w' (EOn.trans (EOn.of_ext hxq) hx)
       replace z1 := fun w' hx => z1 w' (EOn.trans (EOn.of_ext hxq) hx)
       replace z2 := fun w' hx => z2 w' (EOn.trans (EOn.of_ext hxq) hx)
       replace hA := show Arr wq g pre _ post from hxq.blk hA
       replace hg := hg.trans (ext_grown hxq (some g))
       clear hxq
       repeat first
        | refine wpG_move' ?_
        | refine wpG_assign' ?_
        | refine wpG_val' ?_
        | refine wpG_no' ?_
       refine wpG_end (fun w6 hx6 => ?_)
       replace hA := show Arr w6 g pre _ post from hx6.blk hA
       replace hg := hg.trans (ext_grown hx6 (some g))
       clear hx6 y0 y1 y2 z0 z1 z2
       have hI1 : c < (U ++ x :: ([] ++ y :: Z)).length := by rw [HI.out.2]; omega
       obtain ⟨hS1, hG1⟩ := hA.setE hI1 y
       have hI0 : c + 1 < ((U ++ x :: ([] ++ y :: Z)).set c y).length := by rw [List.length_set, HI.out.2]; omega
       obtain ⟨hS2, hG2⟩ := hS1.setE hI0 x
       have hsw : ((U ++ x :: ([] ++ y :: Z)).set c y).set (c + 1) x = A ++ (Y1.take (q + 1) ++ x :: (Y1.drop (q + 1) ++ (Y2 ++ B))) := by
        have := two_set (U := U) (V := []) (Z := Z) (x := x) (y := y)
        rw [HE2.out, ← this, ← HI.out.1]
        rfl
       rw [hsw] at hS2
       have HAA := Lib.hid hA
       have HS1 := Lib.hid hS1
       have HS2 := Lib.hid hS2
       have HG := Lib.hid ((hg.trans hG1).trans hG2)
       have hII := Lib.hid (And.intro hI1 hI0)
       clear hsw hg hA hS1 hS2 hI1 hI0 hG1 hG2
       go_wp2_with (first | (refine wpList_storeE rfl (.tmp 75) (.tmp 70) rfl (i := c) y rfl HV.out.1.symm rfl HAA.out hII.out.1 ?_; obtain ⟨W1, hW1⟩ : ∃ W, setE w6 g (pre.length + c * 3) y = W := ⟨_, rfl⟩; rw [hW1] at HS1 HS2 HG ⊢; clear hW1 HAA) | (refine wpList_storeE rfl (.tmp 76) (.tmp 74) rfl (i := c + 1) x rfl HV.out.2.symm rfl HS1.out hII.out.2 ?_; obtain ⟨W2, hW2⟩ : ∃ W, setE W1 g (pre.length + (c + 1) * 3) x = W := ⟨_, rfl⟩; rw [hW2] at HS2 HG ⊢; clear hW2 HS1))
       refine gQ_normal ?_
       go_wp2_with fail
       go_roundw
       case rel => exact ⟨c + 1, q + 1, by simp, Lib.hid ⟨by have := hc.out; omega, HLT.out⟩, HS2.out, HG.out⟩
       case measure => have := hc.out; have := HK.out; have := HLT.out; simp [intOf]; omega
      ·have hkI : ¬ ((c : Nat) : Int) < (i : Nat) - 1 := by have := hc.out; have := HK.out; omega
       have HEND := Lib.hid (show Arr wr g pre R' post by
        have h1 := hc.out
        rw [List.take_of_length_le (by omega), List.drop_of_length_le (by omega)] at hA
        rw [HH.out.2.1, ← HFIN.out]
        simpa using hA)
       clear hA
       go_wp2_with fail
       refine bodyPost_ret (results_none rfl _ _ _) rfl ?_
       exact ⟨rfl, HEND.out, hg⟩
  ·have e1 : (((m : Nat) : Int) - (a : Nat) == 1) = false := by simp; omega
   by_cases hy1 : b = m + 1
   ·have e2 : (((b : Nat) : Int) - (m : Nat) == 1) = true := by simp; omega
    have HX1 := Lib.hid (And.intro hx1 hy1)
    clear hx1 hy1
    go_enter Tryz.func137, Tryz.ntmps137
    go_wp2_with fail
    go_loopw [14, 15] (fun iv jv W => ∃ i j : Nat, iv = .int .i64 (i : Nat) ∧ jv = .int .i64 (j : Nat) ∧ Hid (a ≤ i ∧ i ≤ j ∧ j ≤ m ∧ (i = a ∨ oAt R (i - 1) ≤ oAt R m) ∧ (j = m ∨ oAt R m < oAt R j)) ∧ Arr W g pre R post ∧ w.grownBy W (some g)) (fun iv jv _ => (intOf jv).toNat - (intOf iv).toNat)
    case atStart => exact ⟨a, m, rfl, rfl, Lib.hid ⟨by omega, by omega, by omega, .inl rfl, .inl rfl⟩, h, World.grownBy.refl _ _⟩
    case round =>
     clear h
     obtain ⟨i, j, rfl, rfl, hij, hA, hg⟩ := hrel
     by_cases hlt : i < j
     ·have hltI : ((i : Nat) : Int) < (j : Nat) := by omega
      have HM := Lib.hid (show ((i : Nat) : Int) + (j : Nat) ≤ 2000000000 by have := hij.out; omega)
      have hm2 := HM.out
      go_wp2_with fail
      clear hm2
      obtain ⟨c, hc⟩ : ∃ c : Nat, (i + j) / 2 = c := ⟨_, rfl⟩
      have hcI : (((i : Nat) : Int) + (j : Nat)) / 2 = (c : Nat) := by omega
      rw [hcI]
      have HC := Lib.hid (show i ≤ c ∧ c < j by omega)
      have hn := HH.out.2.2.2.2.2.1
      have hjn : c < R.length ∧ m < R.length := by have := hij.out; have := HC.out; omega
      have hcn : ((c : Nat) : Int) < (n : Nat) := by omega
      have han : ((m : Nat) : Int) < (n : Nat) := by omega
      obtain ⟨hiy, hix⟩ := hjn
      obtain ⟨y, ey⟩ : ∃ y, R[c] = y := ⟨_, rfl⟩
      obtain ⟨x, ex⟩ : ∃ x, R[m] = x := ⟨_, rfl⟩
      have hoy := HH.out.2.2.2.2.2.2.2.2 y (by rw [← ey]; exact List.getElem_mem hiy)
      have hox := HH.out.2.2.2.2.2.2.2.2 x (by rw [← ex]; exact List.getElem_mem hix)
      have HOA := Lib.hid (show oAt R c = y.ord ∧ oAt R m = x.ord from ⟨oAt_of hiy ey, oAt_of hix ex⟩)
      obtain ⟨d0, d1, d2⟩ := hA.get hiy
      obtain ⟨c0, c1, c2⟩ := hA.get hix
      rw [ey] at d0 d1 d2
      rw [ex] at c0 c1 c2
      clear hn hiy hix ey ex hc hcI
      obtain ⟨yo, hyo⟩ : ∃ z, y.ord = z := ⟨_, rfl⟩
      obtain ⟨xo, hxo⟩ : ∃ z, x.ord = z := ⟨_, rfl⟩
      obtain ⟨yr, hyr0⟩ : ∃ z, y.r = z := ⟨_, rfl⟩
      obtain ⟨xr, hxr0⟩ : ∃ z, x.r = z := ⟨_, rfl⟩
      obtain ⟨yz, hyz⟩ : ∃ z : Int, (if y.bad = true then 1 else 0) = z := ⟨_, rfl⟩
      obtain ⟨xz, hxz⟩ : ∃ z : Int, (if x.bad = true then 1 else 0) = z := ⟨_, rfl⟩
      have HV := Lib.hid (show Value.agg (elV y).toArray = .agg #[.int .i32 yr, .int .i64 yo, .int .i64 yz] ∧ Value.agg (elV x).toArray = .agg #[.int .i32 xr, .int .i64 xo, .int .i64 xz] by
       rw [← hyo, ← hxo, ← hyr0, ← hxr0, ← hyz, ← hxz]; exact ⟨rfl, rfl⟩)
      have HO := Lib.hid (And.intro hyo hxo)
      rw [hyr0] at d0
      rw [hyo] at d1
      rw [hyz] at d2
      rw [hxr0] at c0
      rw [hxo] at c1
      rw [hxz] at c2
      have y0 : ∀ w', EOn (fun _ => True) wr w' → w'.cell? _ = some (.int .i32 yr) := fun w' hx => hx.cell trivial d0
      have y1 : ∀ w', EOn (fun _ => True) wr w' → w'.cell? _ = some (.int .i64 yo) := fun w' hx => hx.cell trivial d1
      have y2 : ∀ w', EOn (fun _ => True) wr w' → w'.cell? _ = some (.int .i64 yz) := fun w' hx => hx.cell trivial d2
      have z0 : ∀ w', EOn (fun _ => True) wr w' → w'.cell? _ = some (.int .i32 xr) := fun w' hx => hx.cell trivial c0
      have z1 : ∀ w', EOn (fun _ => True) wr w' → w'.cell? _ = some (.int .i64 xo) := fun w' hx => hx.cell trivial c1
      have z2 : ∀ w', EOn (fun _ => True) wr w' → w'.cell? _ = some (.int .i64 xz) := fun w' hx => hx.cell trivial c2
      clear hyo hxo hyr0 hxr0 hyz hxz c0 c1 c2 d0 d1 d2
      have HCC := Lib.hid (show ∀ w', Calls Tryz.prog 90 #[.agg #[.int .i32 xr, .int .i64 xo, .int .i64 xz], .agg #[.int .i32 yr, .int .i64 yo, .int .i64 yz]] w' fun e w'' => e = .returned (.int .i64 (xo - yo)) ∧ Ext w' w'' from fun w' => c_cmp _ _ _ _ _ _ w' (by have := HO.out.2; omega) (by have := HO.out.1; omega))
      clear hoy hox
      refine wp_lex (fun _ => True) [true, true, true, true, true, true, true, true, true, true, true, true] (by kernel_rfl) (by kernel_rfl) ?_
      repeat first
       | refine wpG_move' ?_
       | refine wpG_assign' ?_
       | refine wpG_val' ?_
       | refine wpG_no' ?_
      refine wpG_call (by rfl) (fun w' hx => (by go_simp <;> first | exact rfl | exact ⟨rfl, rfl⟩)) (fun w' hx => HCC.out w') (by simp only [Act.put, List.setIfInBounds_toArray, List.set_cons_succ, List.set_cons_zero]; rfl) ?_
      by_cases hlt2 : yo ≤ xo
      ·have hlt3 : ¬ xo - yo < 0 := by omega
       have hd3 := decide_eq_false hlt3
       repeat first
        | refine wpG_move' ?_
        | refine wpG_assign' ?_
        | refine wpG_val' ?_
        | refine wpG_no' ?_
       refine wpG_end (fun w5 hx5 => ?_)
       replace hA := show Arr w5 g pre _ post from hx5.blk hA
       replace hg := hg.trans (ext_grown hx5 (some g))
       clear hx5 y0 y1 y2 z0 z1 z2
       go_wp2_with fail
       refine gQ_normal ?_
       go_wp2_with fail
       go_roundw
       case rel => exact ⟨c + 1, j, by simp, rfl, Lib.hid ⟨by have := hij.out; have := HC.out; omega, by have := HC.out; omega, hij.out.2.2.1, .inr (by have := HOA.out; have := HO.out; simp only [Nat.add_sub_cancel]; omega), hij.out.2.2.2.2⟩, hA, hg⟩
       case measure => have := HC.out; simp [intOf]; omega
      ·have hlt3 : xo - yo < 0 := by omega
       have hd3 := decide_eq_true hlt3
       repeat first
        | refine wpG_move' ?_
        | refine wpG_assign' ?_
        | refine wpG_val' ?_
        | refine wpG_no' ?_
       refine wpG_end (fun w5 hx5 => ?_)
       replace hA := show Arr w5 g pre _ post from hx5.blk hA
       replace hg := hg.trans (ext_grown hx5 (some g))
       clear hx5 y0 y1 y2 z0 z1 z2
       go_wp2_with fail
       refine gQ_normal ?_
       go_wp2_with fail
       go_roundw
       case rel => exact ⟨i, c, rfl, rfl, Lib.hid ⟨hij.out.1, HC.out.1, by have := hij.out; have := HC.out; omega, hij.out.2.2.2.1, .inr (by have := HOA.out; have := HO.out; omega)⟩, hA, hg⟩
       case measure => have := HC.out; simp [intOf]; omega
     ·have hltI : ¬ ((i : Nat) : Int) < (j : Nat) := by omega
      obtain ⟨y, hYy⟩ : ∃ y, Y = [y] := by
       have h1 := HH.out.2.2.2.2.1
       have h0 := HH.out.2.2.2.1
       have h2 := HX1.out
       have hY1 : Y.length = 1 := by omega
       match Y, hY1 with
       | [y], _ => exact ⟨y, rfl⟩
      obtain ⟨X1, hX1⟩ : ∃ X1, X.take (i - a) = X1 := ⟨_, rfl⟩
      obtain ⟨X2, hX2⟩ : ∃ X2, X.drop (i - a) = X2 := ⟨_, rfl⟩
      have HK := Lib.hid (show Y = [y] ∧ X = X1 ++ X2 ∧ a + X1.length = i ∧ a = A.length ∧ i + X2.length = m by
       have h1 := HH.out
       have h3 := hij.out
       refine ⟨hYy, by rw [← hX1, ← hX2, List.take_append_drop], ?_, h1.2.2.1, ?_⟩
       ·rw [← hX1, List.length_take]; omega
       ·rw [← hX2, List.length_drop]; omega)
      have HFIN := Lib.hid (show X1 ++ y :: X2 = sortL (X ++ Y) by
       have h1 := HH.out
       have h3 := hij.out
       have h4 := HK.out
       have hR := h1.1
       rw [h4.1, h4.2.1] at hR
       have hpos : ∀ z ∈ (X1 ++ X2) ++ [y], 0 < z.ord := fun z hz => (h1.2.2.2.2.2.2.2.2 z (by rw [hR]; simp at hz ⊢; rcases hz with h | h | h <;> simp [h])).1
       have om : oAt R m = y.ord := by
        have hl : (A ++ X1 ++ X2).length = m := by simp only [List.length_append]; omega
        have hR2 : R = (A ++ X1 ++ X2) ++ y :: B := by rw [hR]; simp
        rw [hR2, ← hl, oAt_mid]
       have hUX := h1.2.2.2.2.2.2.1
       rw [h4.2.1] at hUX
       rw [h4.1, h4.2.1]
       refine merge_right hpos hUX (fun u x e => ?_) (fun x t e => ?_)
       ·rcases h3.2.2.2.1 with h | h
        ·have := congrArg List.length e
         simp at this
         omega
        ·rw [om] at h
         have : oAt R (i - 1) = x.ord := by
          have hl : (A ++ u).length = i - 1 := by
           have := congrArg List.length e
           simp at this ⊢
           omega
          have hR2 : R = (A ++ u) ++ x :: (X2 ++ ([y] ++ B)) := by rw [hR, e]; simp
          rw [hR2, ← hl, oAt_mid]
         omega
       ·rcases h3.2.2.2.2 with h | h
        ·have h6 := congrArg List.length e
         simp at h6
         omega
        ·rw [om] at h
         have : oAt R j = x.ord := by
          have hl : (A ++ X1).length = j := by simp; omega
          have hR2 : R = (A ++ X1) ++ x :: (t ++ ([y] ++ B)) := by rw [hR, e]; simp
          rw [hR2, ← hl, oAt_mid]
         omega)
      have hA0 : Arr wr g pre (A ++ (X1 ++ (X2 ++ y :: B))) post := by
       have h1 := HH.out.1
       rw [HK.out.1, HK.out.2.1] at h1
       rw [h1] at hA
       simpa using hA
      have HIJ := Lib.hid hij.out
      clear hX1 hX2 hYy hA hij
      obtain ⟨Wo, rfl⟩ : ∃ Wo, Wo = wr := ⟨wr, rfl⟩
      go_wp2_with fail
      go_loopw [17] (fun kv W => ∃ c q : Nat, kv = .int .i64 (c : Nat) ∧ Hid (c = i + q ∧ q ≤ X2.length) ∧ Arr W g pre (A ++ (X1 ++ (X2.take q ++ y :: (X2.drop q ++ B)))) post ∧ w.grownBy W (some g)) (fun kv _ => (intOf kv).toNat)
      case atStart => exact ⟨m, X2.length, rfl, Lib.hid ⟨HK.out.2.2.2.2.symm, by omega⟩, by simpa using hA0, hg⟩
      case round =>
       clear hA0 hg
       obtain ⟨c, q, rfl, hc, hA, hg⟩ := hrel
       by_cases hq0 : q = 0
       ·have hkI : ¬ ((i : Nat) : Int) < (c : Nat) := by have := hc.out; omega
        have HEND := Lib.hid (show Arr wr g pre R' post by
         rw [hq0] at hA
         rw [HH.out.2.1, ← HFIN.out]
         simpa using hA)
        clear hA hq0
        go_wp2_with fail
        refine bodyPost_ret (results_none rfl _ _ _) rfl ?_
        exact ⟨rfl, HEND.out, hg⟩
       ·obtain ⟨q1, rfl⟩ : ∃ q1, q = q1 + 1 := ⟨q - 1, by omega⟩
        obtain ⟨kn, rfl⟩ : ∃ kn, c = kn + 1 := ⟨c - 1, by have := hc.out; omega⟩
        have hgt : ((i : Nat) : Int) < (kn : Nat) + 1 := by have := hc.out; omega
        have hlt5 : q1 < X2.length := by have := hc.out; omega
        obtain ⟨x, hx⟩ : ∃ x, X2[q1] = x := ⟨_, rfl⟩
        have hXd : X2.drop q1 = x :: X2.drop (q1 + 1) := by rw [← hx]; exact List.drop_eq_getElem_cons hlt5
        have hXt : X2.take (q1 + 1) = X2.take q1 ++ [x] := by rw [List.take_add_one, List.getElem?_eq_getElem hlt5, hx]; rfl
        obtain ⟨U, hU⟩ : ∃ U, A ++ (X1 ++ X2.take q1) = U := ⟨_, rfl⟩
        obtain ⟨Z, hZ⟩ : ∃ Z, X2.drop (q1 + 1) ++ B = Z := ⟨_, rfl⟩
        have e1 : A ++ (X1 ++ (X2.take (q1 + 1) ++ y :: (X2.drop (q1 + 1) ++ B))) = U ++ x :: y :: Z := by
         rw [hXt, ← hU, ← hZ]; simp
        have e2 : A ++ (X1 ++ (X2.take q1 ++ y :: (X2.drop q1 ++ B))) = U ++ y :: x :: Z := by
         rw [hXd, ← hU, ← hZ]; simp
        have HE2 := Lib.hid e2
        rw [e1] at hA
        have hUl : U.length = kn := by have := hc.out; have := HK.out; rw [← hU, List.length_append, List.length_append, List.length_take]; omega
        have hln : (U ++ x :: y :: Z).length = n := by
         have h1 := HH.out
         have h2 := HK.out
         have h3 := h1.1
         rw [h2.1, h2.2.1] at h3
         rw [← e1, h1.2.2.2.2.2.1, h3]
         simp only [List.length_append, List.length_take, List.length_drop, List.length_cons, List.length_nil]
         omega
        have hn0 : ((kn : Nat) : Int) < (n : Nat) := by rw [← hln]; simp; omega
        have hn1 : ((kn : Nat) : Int) + 1 < (n : Nat) := by rw [← hln]; simp; omega
        clear e1 e2 hU hZ hXd hXt hx
        obtain ⟨hix, ex⟩ := mid_get (A := U) (x := x) (B := y :: Z) rfl
        obtain ⟨hiy, ey⟩ := mid_get (A := U ++ [x]) (x := y) (B := Z) (L := U ++ x :: y :: Z) (by simp)
        have hUV : (U ++ [x]).length = kn + 1 := by rw [← hUl]; simp
        obtain ⟨c0, c1, c2⟩ := hA.get hix
        obtain ⟨d0, d1, d2⟩ := hA.get hiy
        rw [ex] at c0 c1 c2
        rw [ey] at d0 d1 d2
        rw [hUl] at c0 c1 c2
        rw [hUV] at d0 d1 d2
        have HI := Lib.hid (And.intro hUl hln)
        have HLT := Lib.hid hlt5
        have HQ := Lib.hid hc.out
        obtain ⟨yo, hyo⟩ : ∃ z, y.ord = z := ⟨_, rfl⟩
        obtain ⟨xo, hxo⟩ : ∃ z, x.ord = z := ⟨_, rfl⟩
        obtain ⟨yr, hyr0⟩ : ∃ z, y.r = z := ⟨_, rfl⟩
        obtain ⟨xr, hxr0⟩ : ∃ z, x.r = z := ⟨_, rfl⟩
        obtain ⟨yz, hyz⟩ : ∃ z : Int, (if y.bad = true then 1 else 0) = z := ⟨_, rfl⟩
        obtain ⟨xz, hxz⟩ : ∃ z : Int, (if x.bad = true then 1 else 0) = z := ⟨_, rfl⟩
        have HV := Lib.hid (show Value.agg (elV y).toArray = .agg #[.int .i32 yr, .int .i64 yo, .int .i64 yz] ∧ Value.agg (elV x).toArray = .agg #[.int .i32 xr, .int .i64 xo, .int .i64 xz] by
         rw [← hyo, ← hxo, ← hyr0, ← hxr0, ← hyz, ← hxz]; exact ⟨rfl, rfl⟩)
        have HO := Lib.hid (And.intro hyo hxo)
        rw [hyr0] at d0
        rw [hyo] at d1
        rw [hyz] at d2
        rw [hxr0] at c0
        rw [hxo] at c1
        rw [hxz] at c2
        have y0 : ∀ w', EOn (fun _ => True) wr w' → w'.cell? _ = some (.int .i32 yr) := fun w' hx => hx.cell trivial d0
        have y1 : ∀ w', EOn (fun _ => True) wr w' → w'.cell? _ = some (.int .i64 yo) := fun w' hx => hx.cell trivial d1
        have y2 : ∀ w', EOn (fun _ => True) wr w' → w'.cell? _ = some (.int .i64 yz) := fun w' hx => hx.cell trivial d2
        have z0 : ∀ w', EOn (fun _ => True) wr w' → w'.cell? _ = some (.int .i32 xr) := fun w' hx => hx.cell trivial c0
        have z1 : ∀ w', EOn (fun _ => True) wr w' → w'.cell? _ = some (.int .i64 xo) := fun w' hx => hx.cell trivial c1
        have z2 : ∀ w', EOn (fun _ => True) wr w' → w'.cell? _ = some (.int .i64 xz) := fun w' hx => hx.cell trivial c2
        clear hyo hxo hyr0 hxr0 hyz hxz c0 c1 c2 d0 d1 d2
        clear hUl hln hix ex hiy ey hUV hlt5 hc hq0
        go_wp2_with fail
        refine wp_reck (fun _ => True) [0, 1, 2, 3, 4, 5, 6, 7, 8, 10, 11, 12] [9, 13, 14, 15, 16, 17] [true, true] (by kernel_rfl) (by kernel_rfl) (by simp only [List.map_cons, List.map_nil, nth]; rfl) (by simp only [List.map_cons, List.map_nil, nth]; rfl) (fun wq hxq => ?_)
        repeat first
         | refine wpP_move' ?_
         | refine wpP_val' ?_
        refine wpP_end ?_
        replace y0 := fun w' hx => y0 w' (EOn.trans (EOn.of_ext hxq) hx)
        replace y1 := fun w' hx => y1 w' (EOn.trans (EOn.of_ext hxq) hx)
        replace y2 := fun w' hx => y2 w' (EOn.trans (EOn.of_ext hxq) hx)
        replace z0 := fun w' hx => z0 w' (EOn.trans (EOn.of_ext hxq) hx)
        replace z1 := fun w' hx => z1 w' (EOn.trans (EOn.of_ext hxq) hx)
        replace z2 := fun w' hx => z2 w' (EOn.trans (EOn.of_ext hxq) hx)
        replace hA := show Arr wq g pre _ post from hxq.blk hA
        replace hg := hg.trans (ext_grown hxq (some g))
        clear hxq
        repeat first
         | refine wpG_move' ?_
         | refine wpG_assign' ?_
         | refine wpG_val' ?_
         | refine wpG_no' ?_
        refine wpG_end (fun w6 hx6 => ?_)
        replace hA := show Arr w6 g pre _ post from hx6.blk hA
        replace hg := hg.trans (ext_grown hx6 (some g))
        clear hx6 y0 y1 y2 z0 z1 z2
        have hI1 : kn + 1 < (U ++ x :: y :: Z).length := by rw [HI.out.2]; omega
        obtain ⟨hS1, hG1⟩ := hA.setE hI1 x
        have hI0 : kn < ((U ++ x :: y :: Z).set (kn + 1) x).length := by rw [List.length_set, HI.out.2]; omega
        obtain ⟨hS2, hG2⟩ := hS1.setE hI0 y
        have hsw : ((U ++ x :: y :: Z).set (kn + 1) x).set kn y = A ++ (X1 ++ (X2.take q1 ++ y :: (X2.drop q1 ++ B))) := by
         rw [HE2.out, ← HI.out.1, mid_swap]
        rw [hsw] at hS2
        have HAA := Lib.hid hA
        have HS1 := Lib.hid hS1
        have HS2 := Lib.hid hS2
        have HG := Lib.hid ((hg.trans hG1).trans hG2)
        have hII := Lib.hid (And.intro hI1 hI0)
        clear hsw hg hA hS1 hS2 hI1 hI0 hG1 hG2
        go_wp2_with (first | (refine wpList_storeE rfl (.tmp 127) (.tmp 122) rfl (i := kn + 1) x rfl HV.out.2.symm rfl HAA.out hII.out.1 ?_; obtain ⟨W1, hW1⟩ : ∃ W, setE w6 g (pre.length + (kn + 1) * 3) x = W := ⟨_, rfl⟩; rw [hW1] at HS1 HS2 HG ⊢; clear hW1 HAA) | (refine wpList_storeE rfl (.tmp 128) (.tmp 126) rfl (i := kn) y rfl HV.out.1.symm rfl HS1.out hII.out.2 ?_; obtain ⟨W2, hW2⟩ : ∃ W, setE W1 g (pre.length + kn * 3) y = W := ⟨_, rfl⟩; rw [hW2] at HS2 HG ⊢; clear hW2 HS1))
        refine gQ_normal ?_
        go_wp2_with fail
        go_roundw
        case rel => exact ⟨kn, q1, by simp, Lib.hid ⟨by have := HQ.out; omega, by have := HLT.out; omega⟩, HS2.out, HG.out⟩
        case measure => simp [intOf]
   ·have hh := HH.out
    exact c_symGen g pre post n cap hl d IH.out R R' A X Y B a m b w HDD.out h hh.1 hh.2.1 hh.2.2.1 hh.2.2.2.1 hh.2.2.2.2.1 (by omega) (by omega) hh.2.2.2.2.2.1 hh.2.2.2.2.2.2.1 hh.2.2.2.2.2.2.2.1 hh.2.2.2.2.2.2.2.2
end Go.Proofs.YtokeamebcdhnpaaGreatDoor
