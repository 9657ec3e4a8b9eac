/-
 Two sorted rows merged in place: both of two elements at least.
-/
import Derived.Test.YtokeamebcdhnpaaGreatDoorWalkNO
namespace Go.Proofs.YtokeamebcdhnpaaGreatDoor
open Go.RowKit Go.Rp Go.Shelf Go.Maps Go.Nm

/-- The order of what stands at a place. -/
def oAt (R : List El) (i : Nat) : Int := (R[i]?.map El.ord).getD 0
theorem oAt_of {R : List El} {i : Nat} (h : i < R.length) {x : El} (e : R[i] = x) : oAt R i = x.ord := by
 unfold oAt
 rw [List.getElem?_eq_getElem h, e]
 rfl
theorem oAt_mid (A B : List El) (x : El) : oAt (A ++ x :: B) A.length = x.ord := oAt_of (by simp) (by simp)

theorem sortL_id {L : List El} (h : ∀ y ∈ L, 0 < y.ord) (hu : Up L) : sortL L = L := (sortL_of h hu (Same.refl L)).symm
/-- What a merge of two rows of at most d elements does. -/
def SymOk (g : Nat) (pre post : List Value) (n cap d : Nat) : Prop := ∀ (R R' A X Y B : List El) (a m b : Nat) (w : World), X.length + Y.length ≤ d → Arr w g pre R post → R = A ++ (X ++ (Y ++ B)) → R' = A ++ (sortL (X ++ Y) ++ B) → a = A.length → m = A.length + X.length → b = A.length + X.length + Y.length → 1 ≤ X.length → 1 ≤ Y.length → n = R.length → Up X → Up Y → OrdOk R →
  Calls Tryz.prog 137 #[.slice (some ⟨g, pre.length, none⟩) n cap, .int .i64 (a : Nat), .int .i64 (m : Nat), .int .i64 (b : Nat), .func (.func 90) #[] #[]] w fun e w' => e = .returned (.tuple #[]) ∧ Arr w' g pre R' post ∧ w.grownBy w' (some g)
/-- The four parts that the search finds. -/
theorem sym_parts {R A X Y B : List El} {a m b s e mid : Nat} (hR : R = A ++ (X ++ (Y ++ B))) (ha : a = A.length) (hm : m = A.length + X.length) (hb : b = A.length + X.length + Y.length) (hUX : Up X) (hUY : Up Y) (ho : OrdOk R)
  (h1 : a ≤ s ∧ s ≤ m ∧ m ≤ e ∧ e ≤ b ∧ e + s = mid + m)
  (h2 : s = m ∨ e = m ∨ oAt R (e - 1) < oAt R s) (h3 : s = a ∨ e = b ∨ oAt R (s - 1) ≤ oAt R e) :
  ∃ X1 X2 Y1 Y2, R = A ++ (X1 ++ (X2 ++ (Y1 ++ (Y2 ++ B)))) ∧ X = X1 ++ X2 ∧ Y = Y1 ++ Y2 ∧ X1.length = s - a ∧ X2.length = m - s ∧ Y1.length = e - m ∧ Y2.length = b - e ∧ sortL (X1 ++ Y1) ++ sortL (X2 ++ Y2) = sortL (X ++ Y) ∧ Up X1 ∧ Up X2 ∧ Up Y1 ∧ Up Y2 ∧ (∀ z ∈ (X1 ++ X2) ++ (Y1 ++ Y2), 0 < z.ord) := by
 obtain ⟨X1, X2, rfl, hX1⟩ : ∃ X1 X2, X = X1 ++ X2 ∧ X1.length = s - a := ⟨X.take (s - a), X.drop (s - a), (List.take_append_drop _ _).symm, by rw [List.length_take]; omega⟩
 obtain ⟨Y1, Y2, rfl, hY1⟩ : ∃ Y1 Y2, Y = Y1 ++ Y2 ∧ Y1.length = e - m := ⟨Y.take (e - m), Y.drop (e - m), (List.take_append_drop _ _).symm, by rw [List.length_take]; omega⟩
 simp only [List.length_append] at hm hb
 have hp : ∀ z ∈ (X1 ++ X2) ++ (Y1 ++ Y2), 0 < z.ord := fun z hz => (ho z (by rw [hR]; simp at hz ⊢; rcases hz with h | h | h | h <;> simp [h])).1
 refine ⟨X1, X2, Y1, Y2, by rw [hR]; simp, rfl, rfl, hX1, by omega, hY1, by omega, ?_, (List.pairwise_append.1 hUX).1, (List.pairwise_append.1 hUX).2.1, (List.pairwise_append.1 hUY).1, (List.pairwise_append.1 hUY).2.1, hp⟩
 refine (sym_split hp hUX hUY (fun x t u y e1 e2 => ?_) (fun u x y t e1 e2 => ?_)).1
 ·have l1 : 1 ≤ X2.length := by rw [e1]; simp
  have l2 : 1 ≤ Y1.length := by rw [e2]; simp
  rcases h2 with h | h | h
  ·omega
  ·omega
  ·have o1 : oAt R s = x.ord := by
    have hl : (A ++ X1).length = s := by simp; omega
    have hR2 : R = (A ++ X1) ++ x :: (t ++ ((Y1 ++ Y2) ++ B)) := by rw [hR, e1]; simp
    rw [hR2, ← hl, oAt_mid]
   have o2 : oAt R (e - 1) = y.ord := by
    have hul : u.length + 1 = Y1.length := by rw [e2]; simp
    have hl : (A ++ (X1 ++ (X2 ++ u))).length = e - 1 := by simp; omega
    have hR2 : R = (A ++ (X1 ++ (X2 ++ u))) ++ y :: (Y2 ++ B) := by rw [hR, e2]; simp
    rw [hR2, ← hl, oAt_mid]
   omega
 ·have l1 : 1 ≤ X1.length := by rw [e1]; simp
  have l2 : 1 ≤ Y2.length := by rw [e2]; simp
  rcases h3 with h | h | h
  ·omega
  ·omega
  ·have o1 : oAt R (s - 1) = x.ord := by
    have hul : u.length + 1 = X1.length := by rw [e1]; simp
    have hl : (A ++ u).length = s - 1 := by simp; omega
    have hR2 : R = (A ++ u) ++ x :: (X2 ++ ((Y1 ++ Y2) ++ B)) := by rw [hR, e1]; simp
    rw [hR2, ← hl, oAt_mid]
   have o2 : oAt R e = y.ord := by
    have hl : (A ++ (X1 ++ (X2 ++ Y1))).length = e := by simp; omega
    have hR2 : R = (A ++ (X1 ++ (X2 ++ Y1))) ++ y :: (t ++ B) := by rw [hR, e2]; simp
    rw [hR2, ← hl, oAt_mid]
   omega
set_option maxRecDepth 100000 in
set_option maxHeartbeats 8000000 in
theorem c_symGen (g : Nat) (pre post : List Value) (n cap : Nat) (hl : n ≤ 1000000000) (d : Nat) (ih : SymOk g pre post n cap d) (R R' A X Y B : List El) (a m b : Nat) (w : World) (hd : X.length + Y.length ≤ d + 1) (h : Arr w g pre R post) (hR : R = A ++ (X ++ (Y ++ B))) (hR' : R' = A ++ (sortL (X ++ Y) ++ B)) (ha : a = A.length) (hm : m = A.length + X.length) (hb : b = A.length + X.length + Y.length) (hX : 2 ≤ X.length) (hY : 2 ≤ Y.length) (hn : n = R.length) (hUX : Up X) (hUY : Up Y) (ho : OrdOk R) :
  Calls Tryz.prog 137 #[.slice (some ⟨g, pre.length, none⟩) n cap, .int .i64 (a : Nat), .int .i64 (m : Nat), .int .i64 (b : Nat), .func (.func 90) #[] #[]] w fun e w' => e = .returned (.tuple #[]) ∧ Arr w' g pre R' post ∧ w.grownBy w' (some g) := by
 have hbn : a < m ∧ m < b ∧ b ≤ n := by rw [hn, hR, ha, hb, hm]; simp; omega
 have hx1 : m ≠ a + 1 := by omega
 have hy1 : b ≠ m + 1 := by omega
 have HH := Lib.hid (And.intro hR (And.intro hR' (And.intro ha (And.intro hm (And.intro hb (And.intro hn (And.intro hUX (And.intro hUY ho))))))))
 have IH := Lib.hid ih
 have HDD := Lib.hid hd
 clear ih hR hR' ha hm hb hn hUX hUY ho hX hY hd
 have hnI : ((n : Nat) : Int) ≤ 1000000000 := by omega
 have ham : ((a : Nat) : Int) < (m : Nat) := by omega
 have hmb : ((m : Nat) : Int) < (b : Nat) := by omega
 have hbI : ((b : Nat) : Int) ≤ (n : Nat) := by omega
 have e1 : (((m : Nat) : Int) - (a : Nat) == 1) = false := by simp; omega
 have e2 : (((b : Nat) : Int) - (m : Nat) == 1) = false := by simp; omega
 have HX1 := Lib.hid (And.intro hx1 hy1)
 clear hx1 hy1
 obtain ⟨mid, hmid⟩ : ∃ mid : Nat, (a + b) / 2 = mid := ⟨_, rfl⟩
 have hmidI : (((a : Nat) : Int) + (b : Nat)) / 2 = (mid : Nat) := by omega
 have HMI := Lib.hid (show a < mid ∧ mid < b ∧ 2 * mid ≤ a + b ∧ a + b ≤ 2 * mid + 1 by have := HX1.out; omega)
 obtain ⟨p, hp⟩ : ∃ p : Nat, mid + m = p + 1 := ⟨mid + m - 1, by omega⟩
 have hpI : ((mid : Nat) : Int) + (m : Nat) - 1 = (p : Nat) := by omega
 have HP := Lib.hid hp
 by_cases hgt : mid < m
 case' pos =>
  obtain ⟨s0, hs0⟩ : ∃ s0 : Nat, mid + m = s0 + b := ⟨mid + m - b, by have := HMI.out; omega⟩
  have hs0I : ((mid : Nat) : Int) + (m : Nat) - (b : Nat) = (s0 : Nat) := by omega
  have hgtI : ((mid : Nat) : Int) < (m : Nat) := by omega
  have HS := Lib.hid (And.intro hs0I (And.intro hpI hmidI))
  have hgt3 : (((a : Nat) : Int) + (b : Nat)) / 2 < (m : Nat) := by omega
  obtain ⟨sz, hsz⟩ : ∃ x, x = s0 := ⟨_, rfl⟩
  obtain ⟨rz, hrz⟩ : ∃ x, x = mid := ⟨_, rfl⟩
  have HB := Lib.hid (show a ≤ sz ∧ sz ≤ rz ∧ rz ≤ m ∧ rz ≤ mid ∧ mid + m ≤ sz + b ∧ mid + m = p + 1 ∧ (sz = a ∨ mid + m = sz + b) ∧ (rz = m ∨ rz = mid) ∧ b ≤ n ∧ n ≤ 1000000000 ∧ a < mid ∧ mid < b by have := HMI.out; omega)
  have HZZ := Lib.hid (And.intro hsz hrz)
  clear hmid hmidI hp hpI hs0 hs0I hgt hsz hrz
  go_enter Tryz.func137, Tryz.ntmps137
  go_wp2_with fail
  simp only [HS.out.2.2]
  simp only [HS.out.1, HS.out.2.1]
 case' neg =>
  have hgtI : ¬ ((mid : Nat) : Int) < (m : Nat) := by omega
  have HS := Lib.hid (And.intro hpI hmidI)
  have hgt3 : ¬ (((a : Nat) : Int) + (b : Nat)) / 2 < (m : Nat) := by omega
  obtain ⟨sz, hsz⟩ : ∃ x, x = a := ⟨_, rfl⟩
  obtain ⟨rz, hrz⟩ : ∃ x, x = m := ⟨_, rfl⟩
  have HB := Lib.hid (show a ≤ sz ∧ sz ≤ rz ∧ rz ≤ m ∧ rz ≤ mid ∧ mid + m ≤ sz + b ∧ mid + m = p + 1 ∧ (sz = a ∨ mid + m = sz + b) ∧ (rz = m ∨ rz = mid) ∧ b ≤ n ∧ n ≤ 1000000000 ∧ a < mid ∧ mid < b by have := HMI.out; omega)
  have HZZ := Lib.hid (And.intro hsz hrz)
  clear hmid hmidI hp hpI hgt hsz hrz
  go_enter Tryz.func137, Tryz.ntmps137
  go_wp2_with fail
  simp only [HS.out.2]
  simp only [HS.out.1]
 iterate 2
  ·go_loopw [20, 21] (fun iv jv W => ∃ i j : Nat, iv = .int .i64 (i : Nat) ∧ jv = .int .i64 (j : Nat) ∧ Hid (sz ≤ i ∧ i ≤ j ∧ j ≤ rz ∧ (i = sz ∨ oAt R (i - 1) ≤ oAt R (p - (i - 1))) ∧ (j = rz ∨ oAt R (p - j) < oAt R j)) ∧ Arr W g pre R post ∧ w.grownBy W (some g)) (fun iv jv _ => (intOf jv).toNat - (intOf iv).toNat)
   case atStart => exact ⟨sz, rz, by rw [HZZ.out.1], by rw [HZZ.out.2], Lib.hid ⟨by have := HB.out; omega, by have := HB.out; omega, by have := HB.out; omega, .inl rfl, .inl rfl⟩, h, World.grownBy.refl _ _⟩
   case round =>
    clear h
    obtain ⟨i, j, rfl, rfl, hij, hA, hg⟩ := hrel
    by_cases hlt : i < j
    ·have hltI : ((i : Nat) : Int) < (j : Nat) := by omega
     have HM := Lib.hid (show ((i : Nat) : Int) + (j : Nat) ≤ 2000000000 by have := hij.out; have := HB.out; omega)
     have hm2 := HM.out
     go_wp2_with fail
     clear hm2
     obtain ⟨c, hc⟩ : ∃ c : Nat, (i + j) / 2 = c := ⟨_, rfl⟩
     have hcI : (((i : Nat) : Int) + (j : Nat)) / 2 = (c : Nat) := by omega
     rw [hcI]
     have HC := Lib.hid (show i ≤ c ∧ c < j by omega)
     have hn := HH.out.2.2.2.2.2.1
     have hjn : c < R.length ∧ p - c < R.length ∧ c ≤ p ∧ p - c < n := by have := hij.out; have := HC.out; have := HB.out; omega
     have hcn : ((c : Nat) : Int) < (n : Nat) := by omega
     have han : ((p : Nat) : Int) - (c : Nat) < (n : Nat) := by omega
     have hap : ((c : Nat) : Int) ≤ (p : Nat) := by omega
     have hp9 : ((p : Nat) : Int) ≤ 2000000000 := by have := HB.out; omega
     obtain ⟨hiy, hix, -, -⟩ := hjn
     obtain ⟨y, ey⟩ : ∃ y, R[c] = y := ⟨_, rfl⟩
     obtain ⟨x, ex⟩ : ∃ x, R[p - c] = x := ⟨_, rfl⟩
     have hoy := HH.out.2.2.2.2.2.2.2.2 y (by rw [← ey]; exact List.getElem_mem hiy)
     have hox := HH.out.2.2.2.2.2.2.2.2 x (by rw [← ex]; exact List.getElem_mem hix)
     have HOA := Lib.hid (show oAt R c = y.ord ∧ oAt R (p - c) = x.ord from ⟨oAt_of hiy ey, oAt_of hix ex⟩)
     obtain ⟨d0, d1, d2⟩ := hA.get hiy
     obtain ⟨c0, c1, c2⟩ := hA.get hix
     rw [ey] at d0 d1 d2
     rw [ex] at c0 c1 c2
     clear hn hiy hix ey ex hc hcI
     obtain ⟨yo, hyo⟩ : ∃ z, y.ord = z := ⟨_, rfl⟩
     obtain ⟨xo, hxo⟩ : ∃ z, x.ord = z := ⟨_, rfl⟩
     obtain ⟨yr, hyr0⟩ : ∃ z, y.r = z := ⟨_, rfl⟩
     obtain ⟨xr, hxr0⟩ : ∃ z, x.r = z := ⟨_, rfl⟩
     obtain ⟨yz, hyz⟩ : ∃ z : Int, (if y.bad = true then 1 else 0) = z := ⟨_, rfl⟩
     obtain ⟨xz, hxz⟩ : ∃ z : Int, (if x.bad = true then 1 else 0) = z := ⟨_, rfl⟩
     have HV := Lib.hid (show Value.agg (elV y).toArray = .agg #[.int .i32 yr, .int .i64 yo, .int .i64 yz] ∧ Value.agg (elV x).toArray = .agg #[.int .i32 xr, .int .i64 xo, .int .i64 xz] by
      rw [← hyo, ← hxo, ← hyr0, ← hxr0, ← hyz, ← hxz]; exact ⟨rfl, rfl⟩)
     have HO := Lib.hid (And.intro hyo hxo)
     rw [hyr0] at d0
     rw [hyo] at d1
     rw [hyz] at d2
     rw [hxr0] at c0
     rw [hxo] at c1
     rw [hxz] at c2
     have y0 : ∀ w', EOn (fun _ => True) wr w' → w'.cell? _ = some (.int .i32 yr) := fun w' hx => hx.cell trivial d0
     have y1 : ∀ w', EOn (fun _ => True) wr w' → w'.cell? _ = some (.int .i64 yo) := fun w' hx => hx.cell trivial d1
     have y2 : ∀ w', EOn (fun _ => True) wr w' → w'.cell? _ = some (.int .i64 yz) := fun w' hx => hx.cell trivial d2
     have z0 : ∀ w', EOn (fun _ => True) wr w' → w'.cell? _ = some (.int .i32 xr) := fun w' hx => hx.cell trivial c0
     have z1 : ∀ w', EOn (fun _ => True) wr w' → w'.cell? _ = some (.int .i64 xo) := fun w' hx => hx.cell trivial c1
     have z2 : ∀ w', EOn (fun _ => True) wr w' → w'.cell? _ = some (.int .i64 xz) := fun w' hx => hx.cell trivial c2
     clear hyo hxo hyr0 hxr0 hyz hxz c0 c1 c2 d0 d1 d2
     have HCC := Lib.hid (show ∀ w', Calls Tryz.prog 90 #[.agg #[.int .i32 xr, .int .i64 xo, .int .i64 xz], .agg #[.int .i32 yr, .int .i64 yo, .int .i64 yz]] w' fun e w'' => e = .returned (.int .i64 (xo - yo)) ∧ Ext w' w'' from fun w' => c_cmp _ _ _ _ _ _ w' (by have := HO.out.2; omega) (by have := HO.out.1; omega))
     clear hoy hox
     refine wp_lex (fun _ => True) [true, true, true, true, true, true, true, true, true, true, true, true, true, true] (by kernel_rfl) (by kernel_rfl) ?_
     repeat first
      | refine wpG_move' ?_
      | refine wpG_assign' ?_
      | refine wpG_val' ?_
      | refine wpG_no' ?_
     refine wpG_call (by rfl) (fun w' hx => (by go_simp <;> first | exact rfl | exact ⟨rfl, rfl⟩)) (fun w' hx => HCC.out w') (by simp only [Act.put, List.setIfInBounds_toArray, List.set_cons_succ, List.set_cons_zero]; rfl) ?_
     by_cases hlt2 : yo ≤ xo
     ·have hlt3 : ¬ xo - yo < 0 := by omega
      have hd3 := decide_eq_false hlt3
      repeat first
       | refine wpG_move' ?_
       | refine wpG_assign' ?_
       | refine wpG_val' ?_
       | refine wpG_no' ?_
      refine wpG_end (fun w5 hx5 => ?_)
      replace hA := show Arr w5 g pre _ post from hx5.blk hA
      replace hg := hg.trans (ext_grown hx5 (some g))
      clear hx5 y0 y1 y2 z0 z1 z2
      go_wp2_with fail
      refine gQ_normal ?_
      go_wp2_with fail
      go_roundw
      case rel => exact ⟨c + 1, j, by simp, rfl, Lib.hid ⟨by have := hij.out; have := HC.out; omega, by have := HC.out; omega, hij.out.2.2.1, .inr (by have := HOA.out; have := HO.out; simp only [Nat.add_sub_cancel]; omega), hij.out.2.2.2.2⟩, hA, hg⟩
      case measure => have := HC.out; simp [intOf]; omega
     ·have hlt3 : xo - yo < 0 := by omega
      have hd3 := decide_eq_true hlt3
      repeat first
       | refine wpG_move' ?_
       | refine wpG_assign' ?_
       | refine wpG_val' ?_
       | refine wpG_no' ?_
      refine wpG_end (fun w5 hx5 => ?_)
      replace hA := show Arr w5 g pre _ post from hx5.blk hA
      replace hg := hg.trans (ext_grown hx5 (some g))
      clear hx5 y0 y1 y2 z0 z1 z2
      go_wp2_with fail
      refine gQ_normal ?_
      go_wp2_with fail
      go_roundw
      case rel => exact ⟨i, c, rfl, rfl, Lib.hid ⟨hij.out.1, HC.out.1, by have := hij.out; have := HC.out; omega, hij.out.2.2.2.1, .inr (by have := HOA.out; have := HO.out; omega)⟩, hA, hg⟩
      case measure => have := HC.out; simp [intOf]; omega
    ·have hltI : ¬ ((i : Nat) : Int) < (j : Nat) := by omega
     obtain ⟨e, he⟩ : ∃ e, mid + m = e + i := ⟨mid + m - i, by have := hij.out; have := HB.out; omega⟩
     have HE := Lib.hid (show ((mid : Nat) : Int) + (m : Nat) - (i : Nat) = (e : Nat) by omega)
     have HQ := Lib.hid (show a ≤ i ∧ i ≤ m ∧ m ≤ e ∧ e ≤ b ∧ e + i = mid + m ∧ i ≤ mid ∧ mid ≤ e by have := hij.out; have := HB.out; omega)
     obtain ⟨X1, X2, Y1, Y2, hp⟩ := sym_parts HH.out.1 HH.out.2.2.1 HH.out.2.2.2.1 HH.out.2.2.2.2.1 HH.out.2.2.2.2.2.2.1 HH.out.2.2.2.2.2.2.2.1 HH.out.2.2.2.2.2.2.2.2 (s := i) (e := e) (mid := mid) (by have := HQ.out; omega)
      (by
       have h1 := hij.out
       have h2 := HB.out
       obtain rfl : i = j := by omega
       rcases h1.2.2.2.2 with h | h
       ·rcases h2.2.2.2.2.2.2.2.1 with h3 | h3
        ·left; omega
        ·right; left; omega
       ·right; right
        rw [show e - 1 = p - i by omega]
        exact h)
      (by
       have h1 := hij.out
       have h2 := HB.out
       rcases h1.2.2.2.1 with h | h
       ·rcases h2.2.2.2.2.2.2.1 with h3 | h3
        ·left; omega
        ·right; left; omega
       ·by_cases h0 : i = a
        ·exact .inl h0
        ·right; right
         rw [show e = p - (i - 1) by omega]
         exact h)
     have HPP := Lib.hid hp
     have HAA := Lib.hid (And.intro hA hg)
     have hm9 : ((mid : Nat) : Int) + (m : Nat) ≤ 2000000000 := by have := HB.out; omega
     have hm8 : ((i : Nat) : Int) ≤ (mid : Nat) := by have := HQ.out; omega
     clear he hp hij hlt hA hg
     by_cases hrot : i < m ∧ m < e
     ·have q1 : ((i : Nat) : Int) < (m : Nat) := by omega
      have q2 : ((m : Nat) : Int) < (mid : Nat) + (m : Nat) - (i : Nat) := by have := HE.out; omega
      have HR := Lib.hid hrot
      clear hrot
      go_wp2_with fail
      rw [HE.out]
      have hA := HAA.out.1
      rw [HPP.out.1] at hA
      refine (c_rotate g pre post _ (A ++ (X1 ++ (Y1 ++ (X2 ++ (Y2 ++ B))))) (A ++ X1) X2 Y1 (Y2 ++ B) i m e n cap _ wr hA (by simp) (by simp) (by have := HPP.out.2.2.2.1; have := HQ.out; have := HH.out.2.2.1; rw [List.length_append]; omega) (by have := HPP.out.2.2.2; have := HQ.out; have := HH.out.2.2.1; rw [List.length_append]; omega) (by have := HPP.out.2.2.2; have := HQ.out; have := HH.out.2.2.1; rw [List.length_append]; omega) (by have := HPP.out.2.2.2; have := HR.out; omega) (by have := HPP.out.2.2.2; have := HR.out; omega) (by rw [← HPP.out.1]; exact HH.out.2.2.2.2.2.1) hl).mono ?_
      rintro ev w2 ⟨rfl, hA2, hg2⟩
      have HA2 := Lib.hid (And.intro hA2 (HAA.out.2.trans hg2))
      clear hA hA2 hg2 q1 q2
      by_cases s1 : a < i ∧ i < mid
      ·have s2 : ((a : Nat) : Int) < (i : Nat) := by omega
       have s3 : ((i : Nat) : Int) < (mid : Nat) := by omega
       have HS1 := Lib.hid s1
       clear s1
       go_wp2_with fail
       have hA := HA2.out.1
       rw [show A ++ (X1 ++ (Y1 ++ (X2 ++ (Y2 ++ B)))) = A ++ (X1 ++ (Y1 ++ (X2 ++ (Y2 ++ B)))) by rfl] at hA
       refine (IH.out _ (A ++ (sortL (X1 ++ Y1) ++ (X2 ++ (Y2 ++ B)))) A X1 Y1 (X2 ++ (Y2 ++ B)) a i mid w2 (by have := HPP.out.2.2.2; have := HS1.out; have := HB.out; have := HDD.out; have := HH.out; have := HQ.out; omega) hA rfl rfl HH.out.2.2.1 (by have := HPP.out.2.2.2; have := HQ.out; have := HH.out.2.2.1; omega) (by have := HPP.out.2.2.2; have := HQ.out; have := HH.out.2.2.1; omega) (by have := HPP.out.2.2.2; have := HS1.out; omega) (by have := HPP.out.2.2.2; have := HS1.out; have := HQ.out; omega) (by have hh := HH.out.2.2.2.2.2.1; rw [hh, HPP.out.1]; simp only [List.length_append]; omega) HPP.out.2.2.2.2.2.2.2.2.1 HPP.out.2.2.2.2.2.2.2.2.2.2.1 (fun z hz => HH.out.2.2.2.2.2.2.2.2 z (by rw [HPP.out.1]; simp only [List.mem_append] at hz ⊢; rcases hz with h | h | h | h | h | h <;> simp [h]))).mono ?_
       rintro ev w3 ⟨rfl, hA3, hg3⟩
       have HA3 := Lib.hid (And.intro hA3 (HA2.out.2.trans hg3))
       clear hA hA3 hg3
       by_cases t2 : mid < e ∧ e < b
       ·have t3 : ((mid : Nat) : Int) < (mid : Nat) + (m : Nat) - (i : Nat) := by have := HE.out; omega
        have t4 : ((mid : Nat) : Int) + (m : Nat) - (i : Nat) < (b : Nat) := by have := HE.out; omega
        have t5 : ((mid : Nat) : Int) < (e : Nat) := by omega
        have t6 : ((e : Nat) : Int) < (b : Nat) := by omega
        have HT2 := Lib.hid t2
        clear t2
        go_wp2_with fail
        all_goals try rw [HE.out]
        all_goals have hA := HA3.out.1
        all_goals rw [show A ++ (sortL (X1 ++ Y1) ++ (X2 ++ (Y2 ++ B))) = (A ++ sortL (X1 ++ Y1)) ++ (X2 ++ (Y2 ++ B)) by simp] at hA
        all_goals refine (IH.out _ R' (A ++ sortL (X1 ++ Y1)) X2 Y2 B mid e b w3 (by have := HPP.out.2.2.2; have := HT2.out; have := HB.out; have := HDD.out; have := HH.out; have := HQ.out; omega) hA rfl (by rw [HH.out.2.1, ← HPP.out.2.2.2.2.2.2.2.1]; simp) (by have := HPP.out.2.2.2; have := HQ.out; have := HH.out.2.2.1; simp only [List.length_append, sortL_len]; omega) (by have := HPP.out.2.2.2; have := HQ.out; have := HH.out.2.2.1; simp only [List.length_append, sortL_len]; omega) (by have := HPP.out.2.2.2; have := HQ.out; have := HH.out.2.2.1; simp only [List.length_append, sortL_len]; omega) (by have := HPP.out.2.2.2; have := HT2.out; have := HQ.out; omega) (by have := HPP.out.2.2.2; have := HT2.out; omega) (by have hh := HH.out.2.2.2.2.2.1; rw [hh, HPP.out.1]; simp only [List.length_append, sortL_len]; omega) HPP.out.2.2.2.2.2.2.2.2.2.1 HPP.out.2.2.2.2.2.2.2.2.2.2.2.1 (fun z hz => HH.out.2.2.2.2.2.2.2.2 z (by rw [HPP.out.1]; simp only [List.mem_append, sortL_mem] at hz ⊢; rcases hz with (h | h | h) | h | h | h <;> simp [h]))).mono ?_
        all_goals rintro ev w4 ⟨rfl, hA4, hg4⟩
        all_goals have HA4 := Lib.hid (And.intro hA4 (HA3.out.2.trans hg4))
        all_goals clear hA hA4 hg4 t3 t4 t5 t6
        all_goals go_wp2_with fail
        all_goals (refine bodyPost_end (results_none rfl _ _ _) rfl ?_; exact ⟨rfl, HA4.out⟩)
       ·have HA4 := Lib.hid (show Arr w3 g pre R' post ∧ w.grownBy w3 (some g) by
         refine ⟨?_, HA3.out.2⟩
         have hA := HA3.out.1
         have hs : sortL (X2 ++ Y2) = X2 ++ Y2 := by
          have h1 := HPP.out
          have h2 := HQ.out
          refine sortL_id (fun y hy => h1.2.2.2.2.2.2.2.2.2.2.2.2 y (by simp only [List.mem_append] at hy ⊢; rcases hy with h | h <;> simp [h])) ?_
          by_cases h : mid < e
          ·have : Y2 = [] := List.length_eq_zero_iff.1 (by omega)
           rw [this, List.append_nil]; exact h1.2.2.2.2.2.2.2.2.2.1
          ·have : X2 = [] := List.length_eq_zero_iff.1 (by omega)
           rw [this, List.nil_append]; exact h1.2.2.2.2.2.2.2.2.2.2.2.1
         rw [HH.out.2.1, ← HPP.out.2.2.2.2.2.2.2.1, hs]
         simpa using hA)
        by_cases t3 : mid < e
        ·have t4 : ((mid : Nat) : Int) < (mid : Nat) + (m : Nat) - (i : Nat) := by have := HE.out; omega
         have t5 : ¬ ((mid : Nat) : Int) + (m : Nat) - (i : Nat) < (b : Nat) := by have := HE.out; omega
         have t6 : ((mid : Nat) : Int) < (e : Nat) := by omega
         have t7 : ¬ ((e : Nat) : Int) < (b : Nat) := by omega
         clear t2 t3
         go_wp2_with fail
         all_goals (refine bodyPost_end (results_none rfl _ _ _) rfl ?_; exact ⟨rfl, HA4.out⟩)
        ·have t4 : ¬ ((mid : Nat) : Int) < (mid : Nat) + (m : Nat) - (i : Nat) := by have := HE.out; omega
         have t6 : ¬ ((mid : Nat) : Int) < (e : Nat) := by omega
         clear t2 t3
         go_wp2_with fail
         all_goals (refine bodyPost_end (results_none rfl _ _ _) rfl ?_; exact ⟨rfl, HA4.out⟩)
      ·have HA3 := Lib.hid (show Arr w2 g pre (A ++ (sortL (X1 ++ Y1) ++ (X2 ++ (Y2 ++ B)))) post ∧ w.grownBy w2 (some g) by
        refine ⟨?_, HA2.out.2⟩
        have hA := HA2.out.1
        have hs : sortL (X1 ++ Y1) = X1 ++ Y1 := by
         have h1 := HPP.out
         have h2 := HQ.out
         refine sortL_id (fun y hy => h1.2.2.2.2.2.2.2.2.2.2.2.2 y (by simp only [List.mem_append] at hy ⊢; rcases hy with h | h <;> simp [h])) ?_
         by_cases h : a < i
         ·have : Y1 = [] := List.length_eq_zero_iff.1 (by omega)
          rw [this, List.append_nil]; exact h1.2.2.2.2.2.2.2.2.1
         ·have : X1 = [] := List.length_eq_zero_iff.1 (by omega)
          rw [this, List.nil_append]; exact h1.2.2.2.2.2.2.2.2.2.2.1
        rw [hs]
        simpa using hA)
       by_cases s2 : a < i
       case' pos =>
        have s3 : ((a : Nat) : Int) < (i : Nat) := by omega
        have s4 : ¬ ((i : Nat) : Int) < (mid : Nat) := by omega
        clear s1 s2
       case' neg =>
        have s3 : ¬ ((a : Nat) : Int) < (i : Nat) := by omega
        clear s1 s2
       iterate 2
        ·by_cases t2 : mid < e ∧ e < b
         ·have t3 : ((mid : Nat) : Int) < (mid : Nat) + (m : Nat) - (i : Nat) := by have := HE.out; omega
          have t4 : ((mid : Nat) : Int) + (m : Nat) - (i : Nat) < (b : Nat) := by have := HE.out; omega
          have t5 : ((mid : Nat) : Int) < (e : Nat) := by omega
          have t6 : ((e : Nat) : Int) < (b : Nat) := by omega
          have HT2 := Lib.hid t2
          clear t2
          go_wp2_with fail
          all_goals try rw [HE.out]
          all_goals have hA := HA3.out.1
          all_goals rw [show A ++ (sortL (X1 ++ Y1) ++ (X2 ++ (Y2 ++ B))) = (A ++ sortL (X1 ++ Y1)) ++ (X2 ++ (Y2 ++ B)) by simp] at hA
          all_goals refine (IH.out _ R' (A ++ sortL (X1 ++ Y1)) X2 Y2 B mid e b w2 (by have := HPP.out.2.2.2; have := HT2.out; have := HB.out; have := HDD.out; have := HH.out; have := HQ.out; omega) hA rfl (by rw [HH.out.2.1, ← HPP.out.2.2.2.2.2.2.2.1]; simp) (by have := HPP.out.2.2.2; have := HQ.out; have := HH.out.2.2.1; simp only [List.length_append, sortL_len]; omega) (by have := HPP.out.2.2.2; have := HQ.out; have := HH.out.2.2.1; simp only [List.length_append, sortL_len]; omega) (by have := HPP.out.2.2.2; have := HQ.out; have := HH.out.2.2.1; simp only [List.length_append, sortL_len]; omega) (by have := HPP.out.2.2.2; have := HT2.out; have := HQ.out; omega) (by have := HPP.out.2.2.2; have := HT2.out; omega) (by have hh := HH.out.2.2.2.2.2.1; rw [hh, HPP.out.1]; simp only [List.length_append, sortL_len]; omega) HPP.out.2.2.2.2.2.2.2.2.2.1 HPP.out.2.2.2.2.2.2.2.2.2.2.2.1 (fun z hz => HH.out.2.2.2.2.2.2.2.2 z (by rw [HPP.out.1]; simp only [List.mem_append, sortL_mem] at hz ⊢; rcases hz with (h | h | h) | h | h | h <;> simp [h]))).mono ?_
          all_goals rintro ev w4 ⟨rfl, hA4, hg4⟩
          all_goals have HA4 := Lib.hid (And.intro hA4 (HA3.out.2.trans hg4))
          all_goals clear hA hA4 hg4 t3 t4 t5 t6
          all_goals go_wp2_with fail
          all_goals (refine bodyPost_end (results_none rfl _ _ _) rfl ?_; exact ⟨rfl, HA4.out⟩)
         ·have HA4 := Lib.hid (show Arr w2 g pre R' post ∧ w.grownBy w2 (some g) by
           refine ⟨?_, HA3.out.2⟩
           have hA := HA3.out.1
           have hs : sortL (X2 ++ Y2) = X2 ++ Y2 := by
            have h1 := HPP.out
            have h2 := HQ.out
            refine sortL_id (fun y hy => h1.2.2.2.2.2.2.2.2.2.2.2.2 y (by simp only [List.mem_append] at hy ⊢; rcases hy with h | h <;> simp [h])) ?_
            by_cases h : mid < e
            ·have : Y2 = [] := List.length_eq_zero_iff.1 (by omega)
             rw [this, List.append_nil]; exact h1.2.2.2.2.2.2.2.2.2.1
            ·have : X2 = [] := List.length_eq_zero_iff.1 (by omega)
             rw [this, List.nil_append]; exact h1.2.2.2.2.2.2.2.2.2.2.2.1
           rw [HH.out.2.1, ← HPP.out.2.2.2.2.2.2.2.1, hs]
           simpa using hA)
          by_cases t3 : mid < e
          ·have t4 : ((mid : Nat) : Int) < (mid : Nat) + (m : Nat) - (i : Nat) := by have := HE.out; omega
           have t5 : ¬ ((mid : Nat) : Int) + (m : Nat) - (i : Nat) < (b : Nat) := by have := HE.out; omega
           have t6 : ((mid : Nat) : Int) < (e : Nat) := by omega
           have t7 : ¬ ((e : Nat) : Int) < (b : Nat) := by omega
           clear t2 t3
           go_wp2_with fail
           all_goals (refine bodyPost_end (results_none rfl _ _ _) rfl ?_; exact ⟨rfl, HA4.out⟩)
          ·have t4 : ¬ ((mid : Nat) : Int) < (mid : Nat) + (m : Nat) - (i : Nat) := by have := HE.out; omega
           have t6 : ¬ ((mid : Nat) : Int) < (e : Nat) := by omega
           clear t2 t3
           go_wp2_with fail
           all_goals (refine bodyPost_end (results_none rfl _ _ _) rfl ?_; exact ⟨rfl, HA4.out⟩)
     ·have HA2 := Lib.hid (show Arr wr g pre (A ++ (X1 ++ (Y1 ++ (X2 ++ (Y2 ++ B))))) post ∧ w.grownBy wr (some g) by
       refine ⟨?_, HAA.out.2⟩
       have hA := HAA.out.1
       rw [HPP.out.1] at hA
       have hcase : X2 = [] ∨ Y1 = [] := by
        have := HPP.out.2.2.2
        have := HQ.out
        by_cases h : i < m
        ·right; exact List.length_eq_zero_iff.1 (by omega)
        ·left; exact List.length_eq_zero_iff.1 (by omega)
       rcases hcase with h | h
       ·subst h; simpa using hA
       ·subst h; simpa using hA)
      by_cases q0 : i < m
      case' pos =>
       have q1 : ((i : Nat) : Int) < (m : Nat) := by omega
       have q2 : ¬ ((m : Nat) : Int) < (mid : Nat) + (m : Nat) - (i : Nat) := by have := HE.out; omega
       clear hrot q0
      case' neg =>
       have q1 : ¬ ((i : Nat) : Int) < (m : Nat) := by omega
       clear hrot q0
      iterate 2
       ·by_cases s1 : a < i ∧ i < mid
        ·have s2 : ((a : Nat) : Int) < (i : Nat) := by omega
         have s3 : ((i : Nat) : Int) < (mid : Nat) := by omega
         have HS1 := Lib.hid s1
         clear s1
         go_wp2_with fail
         have hA := HA2.out.1
         rw [show A ++ (X1 ++ (Y1 ++ (X2 ++ (Y2 ++ B)))) = A ++ (X1 ++ (Y1 ++ (X2 ++ (Y2 ++ B)))) by rfl] at hA
         refine (IH.out _ (A ++ (sortL (X1 ++ Y1) ++ (X2 ++ (Y2 ++ B)))) A X1 Y1 (X2 ++ (Y2 ++ B)) a i mid wr (by have := HPP.out.2.2.2; have := HS1.out; have := HB.out; have := HDD.out; have := HH.out; have := HQ.out; omega) hA rfl rfl HH.out.2.2.1 (by have := HPP.out.2.2.2; have := HQ.out; have := HH.out.2.2.1; omega) (by have := HPP.out.2.2.2; have := HQ.out; have := HH.out.2.2.1; omega) (by have := HPP.out.2.2.2; have := HS1.out; omega) (by have := HPP.out.2.2.2; have := HS1.out; have := HQ.out; omega) (by have hh := HH.out.2.2.2.2.2.1; rw [hh, HPP.out.1]; simp only [List.length_append]; omega) HPP.out.2.2.2.2.2.2.2.2.1 HPP.out.2.2.2.2.2.2.2.2.2.2.1 (fun z hz => HH.out.2.2.2.2.2.2.2.2 z (by rw [HPP.out.1]; simp only [List.mem_append] at hz ⊢; rcases hz with h | h | h | h | h | h <;> simp [h]))).mono ?_
         rintro ev w3 ⟨rfl, hA3, hg3⟩
         have HA3 := Lib.hid (And.intro hA3 (HA2.out.2.trans hg3))
         clear hA hA3 hg3
         by_cases t2 : mid < e ∧ e < b
         ·have t3 : ((mid : Nat) : Int) < (mid : Nat) + (m : Nat) - (i : Nat) := by have := HE.out; omega
          have t4 : ((mid : Nat) : Int) + (m : Nat) - (i : Nat) < (b : Nat) := by have := HE.out; omega
          have t5 : ((mid : Nat) : Int) < (e : Nat) := by omega
          have t6 : ((e : Nat) : Int) < (b : Nat) := by omega
          have HT2 := Lib.hid t2
          clear t2
          go_wp2_with fail
          all_goals try rw [HE.out]
          all_goals have hA := HA3.out.1
          all_goals rw [show A ++ (sortL (X1 ++ Y1) ++ (X2 ++ (Y2 ++ B))) = (A ++ sortL (X1 ++ Y1)) ++ (X2 ++ (Y2 ++ B)) by simp] at hA
          all_goals refine (IH.out _ R' (A ++ sortL (X1 ++ Y1)) X2 Y2 B mid e b w3 (by have := HPP.out.2.2.2; have := HT2.out; have := HB.out; have := HDD.out; have := HH.out; have := HQ.out; omega) hA rfl (by rw [HH.out.2.1, ← HPP.out.2.2.2.2.2.2.2.1]; simp) (by have := HPP.out.2.2.2; have := HQ.out; have := HH.out.2.2.1; simp only [List.length_append, sortL_len]; omega) (by have := HPP.out.2.2.2; have := HQ.out; have := HH.out.2.2.1; simp only [List.length_append, sortL_len]; omega) (by have := HPP.out.2.2.2; have := HQ.out; have := HH.out.2.2.1; simp only [List.length_append, sortL_len]; omega) (by have := HPP.out.2.2.2; have := HT2.out; have := HQ.out; omega) (by have := HPP.out.2.2.2; have := HT2.out; omega) (by have hh := HH.out.2.2.2.2.2.1; rw [hh, HPP.out.1]; simp only [List.length_append, sortL_len]; omega) HPP.out.2.2.2.2.2.2.2.2.2.1 HPP.out.2.2.2.2.2.2.2.2.2.2.2.1 (fun z hz => HH.out.2.2.2.2.2.2.2.2 z (by rw [HPP.out.1]; simp only [List.mem_append, sortL_mem] at hz ⊢; rcases hz with (h | h | h) | h | h | h <;> simp [h]))).mono ?_
          all_goals rintro ev w4 ⟨rfl, hA4, hg4⟩
          all_goals have HA4 := Lib.hid (And.intro hA4 (HA3.out.2.trans hg4))
          all_goals clear hA hA4 hg4 t3 t4 t5 t6
          all_goals go_wp2_with fail
          all_goals (refine bodyPost_end (results_none rfl _ _ _) rfl ?_; exact ⟨rfl, HA4.out⟩)
         ·have HA4 := Lib.hid (show Arr w3 g pre R' post ∧ w.grownBy w3 (some g) by
           refine ⟨?_, HA3.out.2⟩
           have hA := HA3.out.1
           have hs : sortL (X2 ++ Y2) = X2 ++ Y2 := by
            have h1 := HPP.out
            have h2 := HQ.out
            refine sortL_id (fun y hy => h1.2.2.2.2.2.2.2.2.2.2.2.2 y (by simp only [List.mem_append] at hy ⊢; rcases hy with h | h <;> simp [h])) ?_
            by_cases h : mid < e
            ·have : Y2 = [] := List.length_eq_zero_iff.1 (by omega)
             rw [this, List.append_nil]; exact h1.2.2.2.2.2.2.2.2.2.1
            ·have : X2 = [] := List.length_eq_zero_iff.1 (by omega)
             rw [this, List.nil_append]; exact h1.2.2.2.2.2.2.2.2.2.2.2.1
           rw [HH.out.2.1, ← HPP.out.2.2.2.2.2.2.2.1, hs]
           simpa using hA)
          by_cases t3 : mid < e
          ·have t4 : ((mid : Nat) : Int) < (mid : Nat) + (m : Nat) - (i : Nat) := by have := HE.out; omega
           have t5 : ¬ ((mid : Nat) : Int) + (m : Nat) - (i : Nat) < (b : Nat) := by have := HE.out; omega
           have t6 : ((mid : Nat) : Int) < (e : Nat) := by omega
           have t7 : ¬ ((e : Nat) : Int) < (b : Nat) := by omega
           clear t2 t3
           go_wp2_with fail
           all_goals (refine bodyPost_end (results_none rfl _ _ _) rfl ?_; exact ⟨rfl, HA4.out⟩)
          ·have t4 : ¬ ((mid : Nat) : Int) < (mid : Nat) + (m : Nat) - (i : Nat) := by have := HE.out; omega
           have t6 : ¬ ((mid : Nat) : Int) < (e : Nat) := by omega
           clear t2 t3
           go_wp2_with fail
           all_goals (refine bodyPost_end (results_none rfl _ _ _) rfl ?_; exact ⟨rfl, HA4.out⟩)
        ·have HA3 := Lib.hid (show Arr wr g pre (A ++ (sortL (X1 ++ Y1) ++ (X2 ++ (Y2 ++ B)))) post ∧ w.grownBy wr (some g) by
          refine ⟨?_, HA2.out.2⟩
          have hA := HA2.out.1
          have hs : sortL (X1 ++ Y1) = X1 ++ Y1 := by
           have h1 := HPP.out
           have h2 := HQ.out
           refine sortL_id (fun y hy => h1.2.2.2.2.2.2.2.2.2.2.2.2 y (by simp only [List.mem_append] at hy ⊢; rcases hy with h | h <;> simp [h])) ?_
           by_cases h : a < i
           ·have : Y1 = [] := List.length_eq_zero_iff.1 (by omega)
            rw [this, List.append_nil]; exact h1.2.2.2.2.2.2.2.2.1
           ·have : X1 = [] := List.length_eq_zero_iff.1 (by omega)
            rw [this, List.nil_append]; exact h1.2.2.2.2.2.2.2.2.2.2.1
          rw [hs]
          simpa using hA)
         by_cases s2 : a < i
         case' pos =>
          have s3 : ((a : Nat) : Int) < (i : Nat) := by omega
          have s4 : ¬ ((i : Nat) : Int) < (mid : Nat) := by omega
          clear s1 s2
         case' neg =>
          have s3 : ¬ ((a : Nat) : Int) < (i : Nat) := by omega
          clear s1 s2
         iterate 2
          ·by_cases t2 : mid < e ∧ e < b
           ·have t3 : ((mid : Nat) : Int) < (mid : Nat) + (m : Nat) - (i : Nat) := by have := HE.out; omega
            have t4 : ((mid : Nat) : Int) + (m : Nat) - (i : Nat) < (b : Nat) := by have := HE.out; omega
            have t5 : ((mid : Nat) : Int) < (e : Nat) := by omega
            have t6 : ((e : Nat) : Int) < (b : Nat) := by omega
            have HT2 := Lib.hid t2
            clear t2
            go_wp2_with fail
            all_goals try rw [HE.out]
            all_goals have hA := HA3.out.1
            all_goals rw [show A ++ (sortL (X1 ++ Y1) ++ (X2 ++ (Y2 ++ B))) = (A ++ sortL (X1 ++ Y1)) ++ (X2 ++ (Y2 ++ B)) by simp] at hA
            all_goals refine (IH.out _ R' (A ++ sortL (X1 ++ Y1)) X2 Y2 B mid e b wr (by have := HPP.out.2.2.2; have := HT2.out; have := HB.out; have := HDD.out; have := HH.out; have := HQ.out; omega) hA rfl (by rw [HH.out.2.1, ← HPP.out.2.2.2.2.2.2.2.1]; simp) (by have := HPP.out.2.2.2; have := HQ.out; have := HH.out.2.2.1; simp only [List.length_append, sortL_len]; omega) (by have := HPP.out.2.2.2; have := HQ.out; have := HH.out.2.2.1; simp only [List.length_append, sortL_len]; omega) (by have := HPP.out.2.2.2; have := HQ.out; have := HH.out.2.2.1; simp only [List.length_append, sortL_len]; omega) (by have := HPP.out.2.2.2; have := HT2.out; have := HQ.out; omega) (by have := HPP.out.2.2.2; have := HT2.out; omega) (by have hh := HH.out.2.2.2.2.2.1; rw [hh, HPP.out.1]; simp only [List.length_append, sortL_len]; omega) HPP.out.2.2.2.2.2.2.2.2.2.1 HPP.out.2.2.2.2.2.2.2.2.2.2.2.1 (fun z hz => HH.out.2.2.2.2.2.2.2.2 z (by rw [HPP.out.1]; simp only [List.mem_append, sortL_mem] at hz ⊢; rcases hz with (h | h | h) | h | h | h <;> simp [h]))).mono ?_
            all_goals rintro ev w4 ⟨rfl, hA4, hg4⟩
            all_goals have HA4 := Lib.hid (And.intro hA4 (HA3.out.2.trans hg4))
            all_goals clear hA hA4 hg4 t3 t4 t5 t6
            all_goals go_wp2_with fail
            all_goals (refine bodyPost_end (results_none rfl _ _ _) rfl ?_; exact ⟨rfl, HA4.out⟩)
           ·have HA4 := Lib.hid (show Arr wr g pre R' post ∧ w.grownBy wr (some g) by
             refine ⟨?_, HA3.out.2⟩
             have hA := HA3.out.1
             have hs : sortL (X2 ++ Y2) = X2 ++ Y2 := by
              have h1 := HPP.out
              have h2 := HQ.out
              refine sortL_id (fun y hy => h1.2.2.2.2.2.2.2.2.2.2.2.2 y (by simp only [List.mem_append] at hy ⊢; rcases hy with h | h <;> simp [h])) ?_
              by_cases h : mid < e
              ·have : Y2 = [] := List.length_eq_zero_iff.1 (by omega)
               rw [this, List.append_nil]; exact h1.2.2.2.2.2.2.2.2.2.1
              ·have : X2 = [] := List.length_eq_zero_iff.1 (by omega)
               rw [this, List.nil_append]; exact h1.2.2.2.2.2.2.2.2.2.2.2.1
             rw [HH.out.2.1, ← HPP.out.2.2.2.2.2.2.2.1, hs]
             simpa using hA)
            by_cases t3 : mid < e
            ·have t4 : ((mid : Nat) : Int) < (mid : Nat) + (m : Nat) - (i : Nat) := by have := HE.out; omega
             have t5 : ¬ ((mid : Nat) : Int) + (m : Nat) - (i : Nat) < (b : Nat) := by have := HE.out; omega
             have t6 : ((mid : Nat) : Int) < (e : Nat) := by omega
             have t7 : ¬ ((e : Nat) : Int) < (b : Nat) := by omega
             clear t2 t3
             go_wp2_with fail
             all_goals (refine bodyPost_end (results_none rfl _ _ _) rfl ?_; exact ⟨rfl, HA4.out⟩)
            ·have t4 : ¬ ((mid : Nat) : Int) < (mid : Nat) + (m : Nat) - (i : Nat) := by have := HE.out; omega
             have t6 : ¬ ((mid : Nat) : Int) < (e : Nat) := by omega
             clear t2 t3
             go_wp2_with fail
             all_goals (refine bodyPost_end (results_none rfl _ _ _) rfl ?_; exact ⟨rfl, HA4.out⟩)
end Go.Proofs.YtokeamebcdhnpaaGreatDoor
