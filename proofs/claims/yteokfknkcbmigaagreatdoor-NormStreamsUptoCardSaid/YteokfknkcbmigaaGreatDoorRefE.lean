/-
 The reference: is a rune the second one of two that join? The reference: where a text may be cut.
-/
import Derived.Test.YteokfknkcbmigaaGreatDoorRE
import Derived.Test.YteokfknkcbmigaaGreatDoorRefD
section
namespace Go.Proofs.YteokfknkcbmigaaGreatDoor
open Go.RowKit Go.Rp Go.Shelf Go.Maps Go.Nm

def scB (X : List (List Nat)) (r : Int) (x : List Nat) : Bool := decide (x.tail.length = 2 ∧ ((x.tail.getD 1 0 : Nat) : Int) = r ∧ lookL X ((x.headD 0 : Nat) : Int) = none)
def scR (X : List (List Nat)) (L : List (List Nat)) (r : Int) : Bool := L.any (scB X r)
theorem scR_drop {X L : List (List Nat)} {r : Int} {i : Nat} (h : i < L.length) : scR X (L.drop i) r = (scB X r L[i] || scR X (L.drop (i + 1)) r) := by
 unfold scR
 rw [List.drop_eq_getElem_cons h, List.any_cons]
theorem scR_joins (r : Int) : scR rX rA r = joinsT.any (fun q => decide (q.1.2 = r)) := by
 unfold joinsT
 rw [apartT_up, ← rA_AN, outs_eq, List.map_map]
 generalize rA = L
 unfold scR
 induction L with
 | nil => rfl
 | cons x t ih =>
  rw [List.any_cons, List.map_cons, List.filterMap_cons]
  have e : ((fun e : Nat × List Nat => (((e.1 : Nat) : Int), up e.2)) ∘ fun x : List Nat => (x.headD 0, x.tail)) x = (((x.headD 0 : Nat) : Int), up x.tail) := rfl
  rw [e]
  unfold scB
  obtain ⟨hd, hhd⟩ : ∃ h : Int, ((x.headD 0 : Nat) : Int) = h := ⟨_, rfl⟩
  obtain ⟨tl, htl⟩ : ∃ l, x.tail = l := ⟨_, rfl⟩
  rw [hhd, htl]
  by_cases h2 : tl.length = 2
  ·obtain ⟨p, q, rfl⟩ : ∃ p q : Nat, tl = [p, q] := by
    match tl, h2 with
    | [p, q], _ => exact ⟨p, q, rfl⟩
   by_cases ho : lookL rX hd = none
   ·have hj : jnE (rX.map fun x => ((x.headD 0 : Nat) : Int)) (hd, up [p, q]) = some ((((p : Nat) : Int), ((q : Nat) : Int)), hd) := by
     unfold jnE up
     simp only [List.map_cons, List.map_nil]
     rw [if_neg ((lookL_in rX hd).1 ho)]
    rw [hj]
    simp only [List.any_cons]
    rw [← ih]
    congr 1
    rw [decide_eq_decide]
    simp [ho]
   ·have hj : jnE (rX.map fun x => ((x.headD 0 : Nat) : Int)) (hd, up [p, q]) = none := by
     unfold jnE up
     simp only [List.map_cons, List.map_nil]
     rw [if_pos (Decidable.not_not.1 (fun h => ho ((lookL_in rX hd).2 h)))]
    rw [hj, ← ih, decide_eq_false (fun h => ho h.2.2), Bool.false_or]
    rfl
  ·have hj : jnE (rX.map fun x => ((x.headD 0 : Nat) : Int)) (hd, up tl) = none := by
    unfold jnE up
    match tl, h2 with
    | [], _ => rfl
    | [x], _ => rfl
    | [p, q], h => exact absurd rfl h
    | x :: y :: z :: t, _ => rfl
   rw [hj, ← ih, decide_eq_false (fun h => h2 h.1), Bool.false_or]
   rfl
set_option maxRecDepth 100000 in
set_option maxHeartbeats 16000000 in
theorem c_rsecond (tB : Nat) (r : Int) (w : World) (h : RTab w tB) :
  Calls Tryz.prog 40 #[.pointer (some ⟨tB, 0, none⟩), .int .i32 r] w fun e w' => e = .returned (.bool (scT r)) ∧ Ext w w' := by
 obtain ⟨vA, vK, vX, vO, hb, hA, -, hX, -⟩ := h.ex
 have y0 : w.cell? ⟨tB, 0, none⟩ = some vA := (cell_blk hb 0).trans rfl
 have y2 : w.cell? ⟨tB, 2, none⟩ = some vX := (cell_blk hb 2).trans rfl
 have HFX := Lib.hid (fun r w2 (hx : Ext w w2) => c_rfind vX rX r w2 (hX.mono hx) (by have := rLen.2.2.1; omega))
 obtain ⟨pX, cX, rfl, -⟩ := hX
 obtain ⟨p, cap, rfl, hc⟩ := hA
 have hrl := rLen.1
 have HJ := Lib.hid (scR_joins r)
 have HC := Lib.hid hc
 clear hb hc h
 obtain ⟨L, hL⟩ : ∃ L, rA = L := ⟨_, rfl⟩
 rw [hL] at HJ HC hrl y0
 clear hL
 obtain ⟨X, hX⟩ : ∃ L, rX = L := ⟨_, rfl⟩
 rw [hX] at HJ HFX y2
 clear hX
 by_cases h1 : 4449 ≤ r ∧ r ≤ 4469
 ·have hj : scT r = true := by unfold scT; rw [decide_eq_true h1.1, decide_eq_true h1.2]; simp
  rw [hj]
  obtain ⟨a1, a2⟩ := h1
  have e1 := decide_eq_true a2
  clear hj HC HFX
  go_enter Tryz.func40, Tryz.ntmps40
  go_wp2_with fail
  exact ret_one rfl rfl rfl ⟨rfl, Ext.refl _⟩
 ·by_cases h2 : 4519 < r ∧ r ≤ 4546
  ·have hj : scT r = true := by unfold scT; rw [decide_eq_true h2.1, decide_eq_true h2.2]; simp
   rw [hj]
   obtain ⟨a1, a2⟩ := h2
   have n1 : (4449 : Int) ≤ r := by omega
   have n2 : ¬ r ≤ 4469 := by omega
   have n3 : (4520 : Int) ≤ r := by omega
   have e1 := decide_eq_false n2
   have e2 := decide_eq_true n3
   have e3 := decide_eq_true a2
   clear hj HC HFX h1
   go_enter Tryz.func40, Tryz.ntmps40
   go_wp2_with fail
   exact ret_one rfl rfl rfl ⟨rfl, Ext.refl _⟩
  ·have hj : scT r = scR X L r := by
    rw [HJ.out]
    unfold scT
    have e1 : (decide (4449 ≤ r) && decide (r ≤ 4469)) = false := by
     rw [← Bool.decide_and]; exact decide_eq_false h1
    have e2 : (decide (4519 < r) && decide (r ≤ 4546)) = false := by
     rw [← Bool.decide_and]; exact decide_eq_false h2
    rw [e1, e2, Bool.or_false, Bool.or_false]
   rw [hj]
   clear hj
   by_cases c1 : 4449 ≤ r
   ·have c2 : ¬ r ≤ 4469 := by omega
    have e2 := decide_eq_false c2
    by_cases c3 : 4520 ≤ r
    ·have c4 : ¬ r ≤ 4546 := by omega
     have e3 := decide_eq_true c3
     have e4 := decide_eq_false c4
     clear h1 h2
     go_enter Tryz.func40, Tryz.ntmps40
     go_wp2_with fail
     go_loopw [5] (fun iv W => ∃ i : Nat, iv = .int .i64 (i : Nat) ∧ i ≤ L.length ∧ Hid (scR X L r = scR X (L.drop i) r) ∧ Ext w W) (fun iv _ => L.length + 1 - (intOf iv).toNat)
     case atStart => exact ⟨0, rfl, by omega, Lib.hid rfl, Ext.refl _⟩
     case round =>
      obtain ⟨i, rfl, hi, HG, hx⟩ := hrel
      have z0 := hx.cell y0
      have z2 := hx.cell y2
      by_cases hlt : i < L.length
      ·have hd : decide (i < L.length) = true := decide_eq_true hlt
       have hI : ((i : Nat) : Int) < (L.length : Nat) := by omega
       obtain ⟨bb, rfl, hcell⟩ := HC.out (by intro e; subst e; simp at hlt)
       obtain ⟨x, k1, k2, k3⟩ := hcell i hlt
       replace k1 := hx.cell k1
       replace k2 := hx.cell k2
       replace k3 := k3.mono hx
       have hg := HG.out
       rw [scR_drop hlt] at hg
       unfold scB at hg
       obtain ⟨n, hn⟩ : ∃ n : Nat, L[i].headD 0 = n := ⟨_, rfl⟩
       obtain ⟨T, hT⟩ : ∃ T, L[i].tail = T := ⟨_, rfl⟩
       rw [hn] at k1
       rw [hn, hT] at hg
       rw [hT] at k3
       obtain ⟨qq, cc, rfl, k4⟩ := k3
       obtain ⟨o, ho⟩ : ∃ o, lookL X ((n : Nat) : Int) = o := ⟨_, rfl⟩
       rw [ho] at hg
       have HO := Lib.hid ho
       clear hcell hn hT HG ho
       by_cases hl2 : T.length = 2
       ·obtain ⟨u, v, rfl⟩ : ∃ u v : Nat, T = [u, v] := by
         match T, hl2 with
         | [u, v], _ => exact ⟨u, v, rfl⟩
        obtain ⟨g, rfl, k5⟩ := k4 (by simp)
        have m1 := Lib.hid (k5 1 (by simp))
        simp only [List.length_cons, List.length_nil, Nat.zero_add, List.getElem_cons_zero, List.getElem_cons_succ, Nat.reduceAdd, List.getD_cons_succ, List.getD_cons_zero] at hg m1 k2
        clear k4 k5 hl2
        by_cases hv : ((v : Nat) : Int) = r
        ·have ev : (((v : Nat) : Int) == r) = true := by rw [hv]; simp
         cases o with
         | none =>
          rw [decide_eq_true ⟨trivial, hv, rfl⟩, Bool.true_or] at hg
          have HG2 := Lib.hid hg
          clear hg hv
          go_wp2_with fail
          have hbO := World.alloc_heap_new wr (.cells #[.int .i32 (n : Nat), .slice (some ⟨g, 1, none⟩) 2 cc] 77)
          have hxO := (Ext.refl wr).alloc (.cells #[.int .i32 (n : Nat), .slice (some ⟨g, 1, none⟩) 2 cc] 77)
          generalize wr.alloc (.cells #[.int .i32 (n : Nat), .slice (some ⟨g, 1, none⟩) 2 cc] 77) = wO at hbO hxO ⊢
          generalize wr.heap.size = xB at hbO ⊢
          have HXO := Lib.hid (hx.trans hxO)
          have d2 : ∀ w', EOn (fun _ => True) wO w' → w'.cell? ⟨tB, 2, none⟩ = some (.slice pX X.length cX) := fun w' hx' => hx'.cell trivial (hxO.cell z2)
          have dx : ∀ w', EOn (fun _ => True) wO w' → w'.cell? ⟨xB, 0, none⟩ = some (.int .i32 (n : Nat)) := fun w' hx' => hx'.cell trivial ((cell_blk hbO 0).trans rfl)
          have HBO := Lib.hid (And.intro hbO hxO)
          clear hbO hxO
          refine wp_lex (fun _ => True) [true, true, true, true, true, true, false, true, true, true, true, true] (by kernel_rfl) (by kernel_rfl) ?_
          repeat first
           | refine wpG_move' ?_
           | refine wpG_assign' ?_
           | refine wpG_val' ?_
           | refine wpG_no' ?_
          clear d2 dx
          refine wpG_do (by rfl) (fun w8 hx8 K hK => ?_)
          go_wp2_with fail
          refine (HFX.out _ _ (HXO.out.trans hx8)).mono ?_
          rintro e w9 ⟨x, rfl, hrd, e9⟩
          obtain rfl := e9.symm
          clear e9
          obtain ⟨q3, c3, rfl, -⟩ := hrd
          rw [HO.out]
          refine hK _ _ ⟨EOn.refl _ _, ?_⟩
          clear hK
          repeat first
           | refine wpG_move' ?_
           | refine wpG_assign' ?_
           | refine wpG_val' ?_
           | refine wpG_no' ?_
          refine wpG_end (fun w10 hx10 => ?_)
          have HX9 := Lib.hid (HXO.out.trans (hx8.trans hx10))
          have HXR := Lib.hid (HBO.out.2.trans (hx8.trans hx10))
          have ex := (hx8.trans hx10).cell ((cell_blk HBO.out.1 1).trans rfl)
          have m1' := HXR.out.cell m1.out
          clear hx8 hx10
          go_wp2_with fail
          refine gQ_normal ?_
          go_wp2_with fail
          go_ret
          exact ⟨by rw [HG2.out]; rfl, HX9.out⟩
         | some z =>
          rw [decide_eq_false (fun h => by cases h.2.2), Bool.false_or] at hg
          have HG2 := Lib.hid hg
          clear hg hv
          go_wp2_with fail
          have hbO := World.alloc_heap_new wr (.cells #[.int .i32 (n : Nat), .slice (some ⟨g, 1, none⟩) 2 cc] 77)
          have hxO := (Ext.refl wr).alloc (.cells #[.int .i32 (n : Nat), .slice (some ⟨g, 1, none⟩) 2 cc] 77)
          generalize wr.alloc (.cells #[.int .i32 (n : Nat), .slice (some ⟨g, 1, none⟩) 2 cc] 77) = wO at hbO hxO ⊢
          generalize wr.heap.size = xB at hbO ⊢
          have HXO := Lib.hid (hx.trans hxO)
          have d2 : ∀ w', EOn (fun _ => True) wO w' → w'.cell? ⟨tB, 2, none⟩ = some (.slice pX X.length cX) := fun w' hx' => hx'.cell trivial (hxO.cell z2)
          have dx : ∀ w', EOn (fun _ => True) wO w' → w'.cell? ⟨xB, 0, none⟩ = some (.int .i32 (n : Nat)) := fun w' hx' => hx'.cell trivial ((cell_blk hbO 0).trans rfl)
          have HBO := Lib.hid (And.intro hbO hxO)
          clear hbO hxO
          refine wp_lex (fun _ => True) [true, true, true, true, true, true, false, true, true, true, true, true] (by kernel_rfl) (by kernel_rfl) ?_
          repeat first
           | refine wpG_move' ?_
           | refine wpG_assign' ?_
           | refine wpG_val' ?_
           | refine wpG_no' ?_
          clear d2 dx
          refine wpG_do (by rfl) (fun w8 hx8 K hK => ?_)
          go_wp2_with fail
          refine (HFX.out _ _ (HXO.out.trans hx8)).mono ?_
          rintro e w9 ⟨x, rfl, hrd, e9⟩
          obtain rfl := e9.symm
          clear e9
          obtain ⟨q3, c3, rfl, -⟩ := hrd
          rw [HO.out]
          refine hK _ _ ⟨EOn.refl _ _, ?_⟩
          clear hK
          repeat first
           | refine wpG_move' ?_
           | refine wpG_assign' ?_
           | refine wpG_val' ?_
           | refine wpG_no' ?_
          refine wpG_end (fun w10 hx10 => ?_)
          have HX9 := Lib.hid (HXO.out.trans (hx8.trans hx10))
          have HXR := Lib.hid (HBO.out.2.trans (hx8.trans hx10))
          have ex := (hx8.trans hx10).cell ((cell_blk HBO.out.1 1).trans rfl)
          have m1' := HXR.out.cell m1.out
          clear hx8 hx10
          go_wp2_with fail
          refine gQ_normal ?_
          go_wp2_with fail
          exact ⟨⟨i + 1, by simp, by omega, HG2, HX9.out⟩, by simp [intOf]; omega⟩
        ·have ev : (((v : Nat) : Int) == r) = false := beq_false_of_ne hv
         rw [decide_eq_false (fun h => hv h.2.1), Bool.false_or] at hg
         have HG2 := Lib.hid hg
         clear hg hv
         go_wp2_with fail
         have hbO := World.alloc_heap_new wr (.cells #[.int .i32 (n : Nat), .slice (some ⟨g, 1, none⟩) 2 cc] 77)
         have hxO := (Ext.refl wr).alloc (.cells #[.int .i32 (n : Nat), .slice (some ⟨g, 1, none⟩) 2 cc] 77)
         generalize wr.alloc (.cells #[.int .i32 (n : Nat), .slice (some ⟨g, 1, none⟩) 2 cc] 77) = wO at hbO hxO ⊢
         generalize wr.heap.size = xB at hbO ⊢
         have HXO := Lib.hid (hx.trans hxO)
         have d2 : ∀ w', EOn (fun _ => True) wO w' → w'.cell? ⟨tB, 2, none⟩ = some (.slice pX X.length cX) := fun w' hx' => hx'.cell trivial (hxO.cell z2)
         have dx : ∀ w', EOn (fun _ => True) wO w' → w'.cell? ⟨xB, 0, none⟩ = some (.int .i32 (n : Nat)) := fun w' hx' => hx'.cell trivial ((cell_blk hbO 0).trans rfl)
         have HBO := Lib.hid (And.intro hbO hxO)
         clear hbO hxO
         refine wp_lex (fun _ => True) [true, true, true, true, true, true, false, true, true, true, true, true] (by kernel_rfl) (by kernel_rfl) ?_
         repeat first
          | refine wpG_move' ?_
          | refine wpG_assign' ?_
          | refine wpG_val' ?_
          | refine wpG_no' ?_
         clear d2 dx
         refine wpG_do (by rfl) (fun w8 hx8 K hK => ?_)
         go_wp2_with fail
         refine (HFX.out _ _ (HXO.out.trans hx8)).mono ?_
         rintro e w9 ⟨x, rfl, hrd, e9⟩
         obtain rfl := e9.symm
         clear e9
         obtain ⟨q3, c3, rfl, -⟩ := hrd
         rw [HO.out]
         refine hK _ _ ⟨EOn.refl _ _, ?_⟩
         clear hK
         repeat first
          | refine wpG_move' ?_
          | refine wpG_assign' ?_
          | refine wpG_val' ?_
          | refine wpG_no' ?_
         refine wpG_end (fun w10 hx10 => ?_)
         have HX9 := Lib.hid (HXO.out.trans (hx8.trans hx10))
         have HXR := Lib.hid (HBO.out.2.trans (hx8.trans hx10))
         have ex := (hx8.trans hx10).cell ((cell_blk HBO.out.1 1).trans rfl)
         have m1' := HXR.out.cell m1.out
         clear hx8 hx10
         go_wp2_with fail
         refine gQ_normal ?_
         go_wp2_with fail
         exact ⟨⟨i + 1, by simp, by omega, HG2, HX9.out⟩, by simp [intOf]; omega⟩
       ·have el2 : (((T.length : Nat) : Int) == 2) = false := beq_false_of_ne (by omega)
        rw [decide_eq_false (fun h => hl2 h.1), Bool.false_or] at hg
        have HG2 := Lib.hid hg
        clear k4 hl2 hg
        go_wp2_with fail
        have hbO := World.alloc_heap_new wr (.cells #[.int .i32 (n : Nat), .slice qq T.length cc] 77)
        have hxO := (Ext.refl wr).alloc (.cells #[.int .i32 (n : Nat), .slice qq T.length cc] 77)
        generalize wr.alloc (.cells #[.int .i32 (n : Nat), .slice qq T.length cc] 77) = wO at hbO hxO ⊢
        generalize wr.heap.size = xB at hbO ⊢
        have HXO := Lib.hid (hx.trans hxO)
        have d2 : ∀ w', EOn (fun _ => True) wO w' → w'.cell? ⟨tB, 2, none⟩ = some (.slice pX X.length cX) := fun w' hx' => hx'.cell trivial (hxO.cell z2)
        have dx : ∀ w', EOn (fun _ => True) wO w' → w'.cell? ⟨xB, 0, none⟩ = some (.int .i32 (n : Nat)) := fun w' hx' => hx'.cell trivial ((cell_blk hbO 0).trans rfl)
        have HBO := Lib.hid (And.intro hbO hxO)
        clear hbO hxO
        refine wp_lex (fun _ => True) [true, true, true, true, true, true, false, true, true, true, true, true] (by kernel_rfl) (by kernel_rfl) ?_
        repeat first
         | refine wpG_move' ?_
         | refine wpG_assign' ?_
         | refine wpG_val' ?_
         | refine wpG_no' ?_
        clear d2 dx
        refine wpG_do (by rfl) (fun w8 hx8 K hK => ?_)
        go_wp2_with fail
        refine (HFX.out _ _ (HXO.out.trans hx8)).mono ?_
        rintro e w9 ⟨x, rfl, hrd, e9⟩
        obtain rfl := e9.symm
        clear e9
        obtain ⟨q3, c3, rfl, -⟩ := hrd
        rw [HO.out]
        refine hK _ _ ⟨EOn.refl _ _, ?_⟩
        clear hK
        repeat first
         | refine wpG_move' ?_
         | refine wpG_assign' ?_
         | refine wpG_val' ?_
         | refine wpG_no' ?_
        refine wpG_end (fun w10 hx10 => ?_)
        have HX9 := Lib.hid (HXO.out.trans (hx8.trans hx10))
        have HXR := Lib.hid (HBO.out.2.trans (hx8.trans hx10))
        have ex := (hx8.trans hx10).cell ((cell_blk HBO.out.1 1).trans rfl)
        clear hx8 hx10
        go_wp2_with fail
        refine gQ_normal ?_
        go_wp2_with fail
        exact ⟨⟨i + 1, by simp, by omega, HG2, HX9.out⟩, by simp [intOf]; omega⟩
      ·have hd : decide (i < L.length) = false := decide_eq_false hlt
       have hI : ¬ ((i : Nat) : Int) < (L.length : Nat) := by omega
       have hg := HG.out
       rw [List.drop_eq_nil_of_le (by omega)] at hg
       have HG2 := Lib.hid (show scR X L r = false from hg)
       clear hg HG
       go_wp2_with fail
       go_ret
       exact ⟨by rw [HG2.out]; rfl, hx⟩
    ·have e3 := decide_eq_false c3
     clear h1 h2
     go_enter Tryz.func40, Tryz.ntmps40
     go_wp2_with fail
     go_loopw [5] (fun iv W => ∃ i : Nat, iv = .int .i64 (i : Nat) ∧ i ≤ L.length ∧ Hid (scR X L r = scR X (L.drop i) r) ∧ Ext w W) (fun iv _ => L.length + 1 - (intOf iv).toNat)
     case atStart => exact ⟨0, rfl, by omega, Lib.hid rfl, Ext.refl _⟩
     case round =>
      obtain ⟨i, rfl, hi, HG, hx⟩ := hrel
      have z0 := hx.cell y0
      have z2 := hx.cell y2
      by_cases hlt : i < L.length
      ·have hd : decide (i < L.length) = true := decide_eq_true hlt
       have hI : ((i : Nat) : Int) < (L.length : Nat) := by omega
       obtain ⟨bb, rfl, hcell⟩ := HC.out (by intro e; subst e; simp at hlt)
       obtain ⟨x, k1, k2, k3⟩ := hcell i hlt
       replace k1 := hx.cell k1
       replace k2 := hx.cell k2
       replace k3 := k3.mono hx
       have hg := HG.out
       rw [scR_drop hlt] at hg
       unfold scB at hg
       obtain ⟨n, hn⟩ : ∃ n : Nat, L[i].headD 0 = n := ⟨_, rfl⟩
       obtain ⟨T, hT⟩ : ∃ T, L[i].tail = T := ⟨_, rfl⟩
       rw [hn] at k1
       rw [hn, hT] at hg
       rw [hT] at k3
       obtain ⟨qq, cc, rfl, k4⟩ := k3
       obtain ⟨o, ho⟩ : ∃ o, lookL X ((n : Nat) : Int) = o := ⟨_, rfl⟩
       rw [ho] at hg
       have HO := Lib.hid ho
       clear hcell hn hT HG ho
       by_cases hl2 : T.length = 2
       ·obtain ⟨u, v, rfl⟩ : ∃ u v : Nat, T = [u, v] := by
         match T, hl2 with
         | [u, v], _ => exact ⟨u, v, rfl⟩
        obtain ⟨g, rfl, k5⟩ := k4 (by simp)
        have m1 := Lib.hid (k5 1 (by simp))
        simp only [List.length_cons, List.length_nil, Nat.zero_add, List.getElem_cons_zero, List.getElem_cons_succ, Nat.reduceAdd, List.getD_cons_succ, List.getD_cons_zero] at hg m1 k2
        clear k4 k5 hl2
        by_cases hv : ((v : Nat) : Int) = r
        ·have ev : (((v : Nat) : Int) == r) = true := by rw [hv]; simp
         cases o with
         | none =>
          rw [decide_eq_true ⟨trivial, hv, rfl⟩, Bool.true_or] at hg
          have HG2 := Lib.hid hg
          clear hg hv
          go_wp2_with fail
          have hbO := World.alloc_heap_new wr (.cells #[.int .i32 (n : Nat), .slice (some ⟨g, 1, none⟩) 2 cc] 77)
          have hxO := (Ext.refl wr).alloc (.cells #[.int .i32 (n : Nat), .slice (some ⟨g, 1, none⟩) 2 cc] 77)
          generalize wr.alloc (.cells #[.int .i32 (n : Nat), .slice (some ⟨g, 1, none⟩) 2 cc] 77) = wO at hbO hxO ⊢
          generalize wr.heap.size = xB at hbO ⊢
          have HXO := Lib.hid (hx.trans hxO)
          have d2 : ∀ w', EOn (fun _ => True) wO w' → w'.cell? ⟨tB, 2, none⟩ = some (.slice pX X.length cX) := fun w' hx' => hx'.cell trivial (hxO.cell z2)
          have dx : ∀ w', EOn (fun _ => True) wO w' → w'.cell? ⟨xB, 0, none⟩ = some (.int .i32 (n : Nat)) := fun w' hx' => hx'.cell trivial ((cell_blk hbO 0).trans rfl)
          have HBO := Lib.hid (And.intro hbO hxO)
          clear hbO hxO
          refine wp_lex (fun _ => True) [true, true, true, true, true, true, false, true, true, true, true, true] (by kernel_rfl) (by kernel_rfl) ?_
          repeat first
           | refine wpG_move' ?_
           | refine wpG_assign' ?_
           | refine wpG_val' ?_
           | refine wpG_no' ?_
          clear d2 dx
          refine wpG_do (by rfl) (fun w8 hx8 K hK => ?_)
          go_wp2_with fail
          refine (HFX.out _ _ (HXO.out.trans hx8)).mono ?_
          rintro e w9 ⟨x, rfl, hrd, e9⟩
          obtain rfl := e9.symm
          clear e9
          obtain ⟨q3, c3, rfl, -⟩ := hrd
          rw [HO.out]
          refine hK _ _ ⟨EOn.refl _ _, ?_⟩
          clear hK
          repeat first
           | refine wpG_move' ?_
           | refine wpG_assign' ?_
           | refine wpG_val' ?_
           | refine wpG_no' ?_
          refine wpG_end (fun w10 hx10 => ?_)
          have HX9 := Lib.hid (HXO.out.trans (hx8.trans hx10))
          have HXR := Lib.hid (HBO.out.2.trans (hx8.trans hx10))
          have ex := (hx8.trans hx10).cell ((cell_blk HBO.out.1 1).trans rfl)
          have m1' := HXR.out.cell m1.out
          clear hx8 hx10
          go_wp2_with fail
          refine gQ_normal ?_
          go_wp2_with fail
          go_ret
          exact ⟨by rw [HG2.out]; rfl, HX9.out⟩
         | some z =>
          rw [decide_eq_false (fun h => by cases h.2.2), Bool.false_or] at hg
          have HG2 := Lib.hid hg
          clear hg hv
          go_wp2_with fail
          have hbO := World.alloc_heap_new wr (.cells #[.int .i32 (n : Nat), .slice (some ⟨g, 1, none⟩) 2 cc] 77)
          have hxO := (Ext.refl wr).alloc (.cells #[.int .i32 (n : Nat), .slice (some ⟨g, 1, none⟩) 2 cc] 77)
          generalize wr.alloc (.cells #[.int .i32 (n : Nat), .slice (some ⟨g, 1, none⟩) 2 cc] 77) = wO at hbO hxO ⊢
          generalize wr.heap.size = xB at hbO ⊢
          have HXO := Lib.hid (hx.trans hxO)
          have d2 : ∀ w', EOn (fun _ => True) wO w' → w'.cell? ⟨tB, 2, none⟩ = some (.slice pX X.length cX) := fun w' hx' => hx'.cell trivial (hxO.cell z2)
          have dx : ∀ w', EOn (fun _ => True) wO w' → w'.cell? ⟨xB, 0, none⟩ = some (.int .i32 (n : Nat)) := fun w' hx' => hx'.cell trivial ((cell_blk hbO 0).trans rfl)
          have HBO := Lib.hid (And.intro hbO hxO)
          clear hbO hxO
          refine wp_lex (fun _ => True) [true, true, true, true, true, true, false, true, true, true, true, true] (by kernel_rfl) (by kernel_rfl) ?_
          repeat first
           | refine wpG_move' ?_
           | refine wpG_assign' ?_
           | refine wpG_val' ?_
           | refine wpG_no' ?_
          clear d2 dx
          refine wpG_do (by rfl) (fun w8 hx8 K hK => ?_)
          go_wp2_with fail
          refine (HFX.out _ _ (HXO.out.trans hx8)).mono ?_
          rintro e w9 ⟨x, rfl, hrd, e9⟩
          obtain rfl := e9.symm
          clear e9
          obtain ⟨q3, c3, rfl, -⟩ := hrd
          rw [HO.out]
          refine hK _ _ ⟨EOn.refl _ _, ?_⟩
          clear hK
          repeat first
           | refine wpG_move' ?_
           | refine wpG_assign' ?_
           | refine wpG_val' ?_
           | refine wpG_no' ?_
          refine wpG_end (fun w10 hx10 => ?_)
          have HX9 := Lib.hid (HXO.out.trans (hx8.trans hx10))
          have HXR := Lib.hid (HBO.out.2.trans (hx8.trans hx10))
          have ex := (hx8.trans hx10).cell ((cell_blk HBO.out.1 1).trans rfl)
          have m1' := HXR.out.cell m1.out
          clear hx8 hx10
          go_wp2_with fail
          refine gQ_normal ?_
          go_wp2_with fail
          exact ⟨⟨i + 1, by simp, by omega, HG2, HX9.out⟩, by simp [intOf]; omega⟩
        ·have ev : (((v : Nat) : Int) == r) = false := beq_false_of_ne hv
         rw [decide_eq_false (fun h => hv h.2.1), Bool.false_or] at hg
         have HG2 := Lib.hid hg
         clear hg hv
         go_wp2_with fail
         have hbO := World.alloc_heap_new wr (.cells #[.int .i32 (n : Nat), .slice (some ⟨g, 1, none⟩) 2 cc] 77)
         have hxO := (Ext.refl wr).alloc (.cells #[.int .i32 (n : Nat), .slice (some ⟨g, 1, none⟩) 2 cc] 77)
         generalize wr.alloc (.cells #[.int .i32 (n : Nat), .slice (some ⟨g, 1, none⟩) 2 cc] 77) = wO at hbO hxO ⊢
         generalize wr.heap.size = xB at hbO ⊢
         have HXO := Lib.hid (hx.trans hxO)
         have d2 : ∀ w', EOn (fun _ => True) wO w' → w'.cell? ⟨tB, 2, none⟩ = some (.slice pX X.length cX) := fun w' hx' => hx'.cell trivial (hxO.cell z2)
         have dx : ∀ w', EOn (fun _ => True) wO w' → w'.cell? ⟨xB, 0, none⟩ = some (.int .i32 (n : Nat)) := fun w' hx' => hx'.cell trivial ((cell_blk hbO 0).trans rfl)
         have HBO := Lib.hid (And.intro hbO hxO)
         clear hbO hxO
         refine wp_lex (fun _ => True) [true, true, true, true, true, true, false, true, true, true, true, true] (by kernel_rfl) (by kernel_rfl) ?_
         repeat first
          | refine wpG_move' ?_
          | refine wpG_assign' ?_
          | refine wpG_val' ?_
          | refine wpG_no' ?_
         clear d2 dx
         refine wpG_do (by rfl) (fun w8 hx8 K hK => ?_)
         go_wp2_with fail
         refine (HFX.out _ _ (HXO.out.trans hx8)).mono ?_
         rintro e w9 ⟨x, rfl, hrd, e9⟩
         obtain rfl := e9.symm
         clear e9
         obtain ⟨q3, c3, rfl, -⟩ := hrd
         rw [HO.out]
         refine hK _ _ ⟨EOn.refl _ _, ?_⟩
         clear hK
         repeat first
          | refine wpG_move' ?_
          | refine wpG_assign' ?_
          | refine wpG_val' ?_
          | refine wpG_no' ?_
         refine wpG_end (fun w10 hx10 => ?_)
         have HX9 := Lib.hid (HXO.out.trans (hx8.trans hx10))
         have HXR := Lib.hid (HBO.out.2.trans (hx8.trans hx10))
         have ex := (hx8.trans hx10).cell ((cell_blk HBO.out.1 1).trans rfl)
         have m1' := HXR.out.cell m1.out
         clear hx8 hx10
         go_wp2_with fail
         refine gQ_normal ?_
         go_wp2_with fail
         exact ⟨⟨i + 1, by simp, by omega, HG2, HX9.out⟩, by simp [intOf]; omega⟩
       ·have el2 : (((T.length : Nat) : Int) == 2) = false := beq_false_of_ne (by omega)
        rw [decide_eq_false (fun h => hl2 h.1), Bool.false_or] at hg
        have HG2 := Lib.hid hg
        clear k4 hl2 hg
        go_wp2_with fail
        have hbO := World.alloc_heap_new wr (.cells #[.int .i32 (n : Nat), .slice qq T.length cc] 77)
        have hxO := (Ext.refl wr).alloc (.cells #[.int .i32 (n : Nat), .slice qq T.length cc] 77)
        generalize wr.alloc (.cells #[.int .i32 (n : Nat), .slice qq T.length cc] 77) = wO at hbO hxO ⊢
        generalize wr.heap.size = xB at hbO ⊢
        have HXO := Lib.hid (hx.trans hxO)
        have d2 : ∀ w', EOn (fun _ => True) wO w' → w'.cell? ⟨tB, 2, none⟩ = some (.slice pX X.length cX) := fun w' hx' => hx'.cell trivial (hxO.cell z2)
        have dx : ∀ w', EOn (fun _ => True) wO w' → w'.cell? ⟨xB, 0, none⟩ = some (.int .i32 (n : Nat)) := fun w' hx' => hx'.cell trivial ((cell_blk hbO 0).trans rfl)
        have HBO := Lib.hid (And.intro hbO hxO)
        clear hbO hxO
        refine wp_lex (fun _ => True) [true, true, true, true, true, true, false, true, true, true, true, true] (by kernel_rfl) (by kernel_rfl) ?_
        repeat first
         | refine wpG_move' ?_
         | refine wpG_assign' ?_
         | refine wpG_val' ?_
         | refine wpG_no' ?_
        clear d2 dx
        refine wpG_do (by rfl) (fun w8 hx8 K hK => ?_)
        go_wp2_with fail
        refine (HFX.out _ _ (HXO.out.trans hx8)).mono ?_
        rintro e w9 ⟨x, rfl, hrd, e9⟩
        obtain rfl := e9.symm
        clear e9
        obtain ⟨q3, c3, rfl, -⟩ := hrd
        rw [HO.out]
        refine hK _ _ ⟨EOn.refl _ _, ?_⟩
        clear hK
        repeat first
         | refine wpG_move' ?_
         | refine wpG_assign' ?_
         | refine wpG_val' ?_
         | refine wpG_no' ?_
        refine wpG_end (fun w10 hx10 => ?_)
        have HX9 := Lib.hid (HXO.out.trans (hx8.trans hx10))
        have HXR := Lib.hid (HBO.out.2.trans (hx8.trans hx10))
        have ex := (hx8.trans hx10).cell ((cell_blk HBO.out.1 1).trans rfl)
        clear hx8 hx10
        go_wp2_with fail
        refine gQ_normal ?_
        go_wp2_with fail
        exact ⟨⟨i + 1, by simp, by omega, HG2, HX9.out⟩, by simp [intOf]; omega⟩
      ·have hd : decide (i < L.length) = false := decide_eq_false hlt
       have hI : ¬ ((i : Nat) : Int) < (L.length : Nat) := by omega
       have hg := HG.out
       rw [List.drop_eq_nil_of_le (by omega)] at hg
       have HG2 := Lib.hid (show scR X L r = false from hg)
       clear hg HG
       go_wp2_with fail
       go_ret
       exact ⟨by rw [HG2.out]; rfl, hx⟩
   ·have c3 : ¬ 4520 ≤ r := by omega
    clear h1 h2
    go_enter Tryz.func40, Tryz.ntmps40
    go_wp2_with fail
    go_loopw [5] (fun iv W => ∃ i : Nat, iv = .int .i64 (i : Nat) ∧ i ≤ L.length ∧ Hid (scR X L r = scR X (L.drop i) r) ∧ Ext w W) (fun iv _ => L.length + 1 - (intOf iv).toNat)
    case atStart => exact ⟨0, rfl, by omega, Lib.hid rfl, Ext.refl _⟩
    case round =>
     obtain ⟨i, rfl, hi, HG, hx⟩ := hrel
     have z0 := hx.cell y0
     have z2 := hx.cell y2
     by_cases hlt : i < L.length
     ·have hd : decide (i < L.length) = true := decide_eq_true hlt
      have hI : ((i : Nat) : Int) < (L.length : Nat) := by omega
      obtain ⟨bb, rfl, hcell⟩ := HC.out (by intro e; subst e; simp at hlt)
      obtain ⟨x, k1, k2, k3⟩ := hcell i hlt
      replace k1 := hx.cell k1
      replace k2 := hx.cell k2
      replace k3 := k3.mono hx
      have hg := HG.out
      rw [scR_drop hlt] at hg
      unfold scB at hg
      obtain ⟨n, hn⟩ : ∃ n : Nat, L[i].headD 0 = n := ⟨_, rfl⟩
      obtain ⟨T, hT⟩ : ∃ T, L[i].tail = T := ⟨_, rfl⟩
      rw [hn] at k1
      rw [hn, hT] at hg
      rw [hT] at k3
      obtain ⟨qq, cc, rfl, k4⟩ := k3
      obtain ⟨o, ho⟩ : ∃ o, lookL X ((n : Nat) : Int) = o := ⟨_, rfl⟩
      rw [ho] at hg
      have HO := Lib.hid ho
      clear hcell hn hT HG ho
      by_cases hl2 : T.length = 2
      ·obtain ⟨u, v, rfl⟩ : ∃ u v : Nat, T = [u, v] := by
        match T, hl2 with
        | [u, v], _ => exact ⟨u, v, rfl⟩
       obtain ⟨g, rfl, k5⟩ := k4 (by simp)
       have m1 := Lib.hid (k5 1 (by simp))
       simp only [List.length_cons, List.length_nil, Nat.zero_add, List.getElem_cons_zero, List.getElem_cons_succ, Nat.reduceAdd, List.getD_cons_succ, List.getD_cons_zero] at hg m1 k2
       clear k4 k5 hl2
       by_cases hv : ((v : Nat) : Int) = r
       ·have ev : (((v : Nat) : Int) == r) = true := by rw [hv]; simp
        cases o with
        | none =>
         rw [decide_eq_true ⟨trivial, hv, rfl⟩, Bool.true_or] at hg
         have HG2 := Lib.hid hg
         clear hg hv
         go_wp2_with fail
         have hbO := World.alloc_heap_new wr (.cells #[.int .i32 (n : Nat), .slice (some ⟨g, 1, none⟩) 2 cc] 77)
         have hxO := (Ext.refl wr).alloc (.cells #[.int .i32 (n : Nat), .slice (some ⟨g, 1, none⟩) 2 cc] 77)
         generalize wr.alloc (.cells #[.int .i32 (n : Nat), .slice (some ⟨g, 1, none⟩) 2 cc] 77) = wO at hbO hxO ⊢
         generalize wr.heap.size = xB at hbO ⊢
         have HXO := Lib.hid (hx.trans hxO)
         have d2 : ∀ w', EOn (fun _ => True) wO w' → w'.cell? ⟨tB, 2, none⟩ = some (.slice pX X.length cX) := fun w' hx' => hx'.cell trivial (hxO.cell z2)
         have dx : ∀ w', EOn (fun _ => True) wO w' → w'.cell? ⟨xB, 0, none⟩ = some (.int .i32 (n : Nat)) := fun w' hx' => hx'.cell trivial ((cell_blk hbO 0).trans rfl)
         have HBO := Lib.hid (And.intro hbO hxO)
         clear hbO hxO
         refine wp_lex (fun _ => True) [true, true, true, true, true, true, false, true, true, true, true, true] (by kernel_rfl) (by kernel_rfl) ?_
         repeat first
          | refine wpG_move' ?_
          | refine wpG_assign' ?_
          | refine wpG_val' ?_
          | refine wpG_no' ?_
         clear d2 dx
         refine wpG_do (by rfl) (fun w8 hx8 K hK => ?_)
         go_wp2_with fail
         refine (HFX.out _ _ (HXO.out.trans hx8)).mono ?_
         rintro e w9 ⟨x, rfl, hrd, e9⟩
         obtain rfl := e9.symm
         clear e9
         obtain ⟨q3, c3, rfl, -⟩ := hrd
         rw [HO.out]
         refine hK _ _ ⟨EOn.refl _ _, ?_⟩
         clear hK
         repeat first
          | refine wpG_move' ?_
          | refine wpG_assign' ?_
          | refine wpG_val' ?_
          | refine wpG_no' ?_
         refine wpG_end (fun w10 hx10 => ?_)
         have HX9 := Lib.hid (HXO.out.trans (hx8.trans hx10))
         have HXR := Lib.hid (HBO.out.2.trans (hx8.trans hx10))
         have ex := (hx8.trans hx10).cell ((cell_blk HBO.out.1 1).trans rfl)
         have m1' := HXR.out.cell m1.out
         clear hx8 hx10
         go_wp2_with fail
         refine gQ_normal ?_
         go_wp2_with fail
         go_ret
         exact ⟨by rw [HG2.out]; rfl, HX9.out⟩
        | some z =>
         rw [decide_eq_false (fun h => by cases h.2.2), Bool.false_or] at hg
         have HG2 := Lib.hid hg
         clear hg hv
         go_wp2_with fail
         have hbO := World.alloc_heap_new wr (.cells #[.int .i32 (n : Nat), .slice (some ⟨g, 1, none⟩) 2 cc] 77)
         have hxO := (Ext.refl wr).alloc (.cells #[.int .i32 (n : Nat), .slice (some ⟨g, 1, none⟩) 2 cc] 77)
         generalize wr.alloc (.cells #[.int .i32 (n : Nat), .slice (some ⟨g, 1, none⟩) 2 cc] 77) = wO at hbO hxO ⊢
         generalize wr.heap.size = xB at hbO ⊢
         have HXO := Lib.hid (hx.trans hxO)
         have d2 : ∀ w', EOn (fun _ => True) wO w' → w'.cell? ⟨tB, 2, none⟩ = some (.slice pX X.length cX) := fun w' hx' => hx'.cell trivial (hxO.cell z2)
         have dx : ∀ w', EOn (fun _ => True) wO w' → w'.cell? ⟨xB, 0, none⟩ = some (.int .i32 (n : Nat)) := fun w' hx' => hx'.cell trivial ((cell_blk hbO 0).trans rfl)
         have HBO := Lib.hid (And.intro hbO hxO)
         clear hbO hxO
         refine wp_lex (fun _ => True) [true, true, true, true, true, true, false, true, true, true, true, true] (by kernel_rfl) (by kernel_rfl) ?_
         repeat first
          | refine wpG_move' ?_
          | refine wpG_assign' ?_
          | refine wpG_val' ?_
          | refine wpG_no' ?_
         clear d2 dx
         refine wpG_do (by rfl) (fun w8 hx8 K hK => ?_)
         go_wp2_with fail
         refine (HFX.out _ _ (HXO.out.trans hx8)).mono ?_
         rintro e w9 ⟨x, rfl, hrd, e9⟩
         obtain rfl := e9.symm
         clear e9
         obtain ⟨q3, c3, rfl, -⟩ := hrd
         rw [HO.out]
         refine hK _ _ ⟨EOn.refl _ _, ?_⟩
         clear hK
         repeat first
          | refine wpG_move' ?_
          | refine wpG_assign' ?_
          | refine wpG_val' ?_
          | refine wpG_no' ?_
         refine wpG_end (fun w10 hx10 => ?_)
         have HX9 := Lib.hid (HXO.out.trans (hx8.trans hx10))
         have HXR := Lib.hid (HBO.out.2.trans (hx8.trans hx10))
         have ex := (hx8.trans hx10).cell ((cell_blk HBO.out.1 1).trans rfl)
         have m1' := HXR.out.cell m1.out
         clear hx8 hx10
         go_wp2_with fail
         refine gQ_normal ?_
         go_wp2_with fail
         exact ⟨⟨i + 1, by simp, by omega, HG2, HX9.out⟩, by simp [intOf]; omega⟩
       ·have ev : (((v : Nat) : Int) == r) = false := beq_false_of_ne hv
        rw [decide_eq_false (fun h => hv h.2.1), Bool.false_or] at hg
        have HG2 := Lib.hid hg
        clear hg hv
        go_wp2_with fail
        have hbO := World.alloc_heap_new wr (.cells #[.int .i32 (n : Nat), .slice (some ⟨g, 1, none⟩) 2 cc] 77)
        have hxO := (Ext.refl wr).alloc (.cells #[.int .i32 (n : Nat), .slice (some ⟨g, 1, none⟩) 2 cc] 77)
        generalize wr.alloc (.cells #[.int .i32 (n : Nat), .slice (some ⟨g, 1, none⟩) 2 cc] 77) = wO at hbO hxO ⊢
        generalize wr.heap.size = xB at hbO ⊢
        have HXO := Lib.hid (hx.trans hxO)
        have d2 : ∀ w', EOn (fun _ => True) wO w' → w'.cell? ⟨tB, 2, none⟩ = some (.slice pX X.length cX) := fun w' hx' => hx'.cell trivial (hxO.cell z2)
        have dx : ∀ w', EOn (fun _ => True) wO w' → w'.cell? ⟨xB, 0, none⟩ = some (.int .i32 (n : Nat)) := fun w' hx' => hx'.cell trivial ((cell_blk hbO 0).trans rfl)
        have HBO := Lib.hid (And.intro hbO hxO)
        clear hbO hxO
        refine wp_lex (fun _ => True) [true, true, true, true, true, true, false, true, true, true, true, true] (by kernel_rfl) (by kernel_rfl) ?_
        repeat first
         | refine wpG_move' ?_
         | refine wpG_assign' ?_
         | refine wpG_val' ?_
         | refine wpG_no' ?_
        clear d2 dx
        refine wpG_do (by rfl) (fun w8 hx8 K hK => ?_)
        go_wp2_with fail
        refine (HFX.out _ _ (HXO.out.trans hx8)).mono ?_
        rintro e w9 ⟨x, rfl, hrd, e9⟩
        obtain rfl := e9.symm
        clear e9
        obtain ⟨q3, c3, rfl, -⟩ := hrd
        rw [HO.out]
        refine hK _ _ ⟨EOn.refl _ _, ?_⟩
        clear hK
        repeat first
         | refine wpG_move' ?_
         | refine wpG_assign' ?_
         | refine wpG_val' ?_
         | refine wpG_no' ?_
        refine wpG_end (fun w10 hx10 => ?_)
        have HX9 := Lib.hid (HXO.out.trans (hx8.trans hx10))
        have HXR := Lib.hid (HBO.out.2.trans (hx8.trans hx10))
        have ex := (hx8.trans hx10).cell ((cell_blk HBO.out.1 1).trans rfl)
        have m1' := HXR.out.cell m1.out
        clear hx8 hx10
        go_wp2_with fail
        refine gQ_normal ?_
        go_wp2_with fail
        exact ⟨⟨i + 1, by simp, by omega, HG2, HX9.out⟩, by simp [intOf]; omega⟩
      ·have el2 : (((T.length : Nat) : Int) == 2) = false := beq_false_of_ne (by omega)
       rw [decide_eq_false (fun h => hl2 h.1), Bool.false_or] at hg
       have HG2 := Lib.hid hg
       clear k4 hl2 hg
       go_wp2_with fail
       have hbO := World.alloc_heap_new wr (.cells #[.int .i32 (n : Nat), .slice qq T.length cc] 77)
       have hxO := (Ext.refl wr).alloc (.cells #[.int .i32 (n : Nat), .slice qq T.length cc] 77)
       generalize wr.alloc (.cells #[.int .i32 (n : Nat), .slice qq T.length cc] 77) = wO at hbO hxO ⊢
       generalize wr.heap.size = xB at hbO ⊢
       have HXO := Lib.hid (hx.trans hxO)
       have d2 : ∀ w', EOn (fun _ => True) wO w' → w'.cell? ⟨tB, 2, none⟩ = some (.slice pX X.length cX) := fun w' hx' => hx'.cell trivial (hxO.cell z2)
       have dx : ∀ w', EOn (fun _ => True) wO w' → w'.cell? ⟨xB, 0, none⟩ = some (.int .i32 (n : Nat)) := fun w' hx' => hx'.cell trivial ((cell_blk hbO 0).trans rfl)
       have HBO := Lib.hid (And.intro hbO hxO)
       clear hbO hxO
       refine wp_lex (fun _ => True) [true, true, true, true, true, true, false, true, true, true, true, true] (by kernel_rfl) (by kernel_rfl) ?_
       repeat first
        | refine wpG_move' ?_
        | refine wpG_assign' ?_
        | refine wpG_val' ?_
        | refine wpG_no' ?_
       clear d2 dx
       refine wpG_do (by rfl) (fun w8 hx8 K hK => ?_)
       go_wp2_with fail
       refine (HFX.out _ _ (HXO.out.trans hx8)).mono ?_
       rintro e w9 ⟨x, rfl, hrd, e9⟩
       obtain rfl := e9.symm
       clear e9
       obtain ⟨q3, c3, rfl, -⟩ := hrd
       rw [HO.out]
       refine hK _ _ ⟨EOn.refl _ _, ?_⟩
       clear hK
       repeat first
        | refine wpG_move' ?_
        | refine wpG_assign' ?_
        | refine wpG_val' ?_
        | refine wpG_no' ?_
       refine wpG_end (fun w10 hx10 => ?_)
       have HX9 := Lib.hid (HXO.out.trans (hx8.trans hx10))
       have HXR := Lib.hid (HBO.out.2.trans (hx8.trans hx10))
       have ex := (hx8.trans hx10).cell ((cell_blk HBO.out.1 1).trans rfl)
       clear hx8 hx10
       go_wp2_with fail
       refine gQ_normal ?_
       go_wp2_with fail
       exact ⟨⟨i + 1, by simp, by omega, HG2, HX9.out⟩, by simp [intOf]; omega⟩
     ·have hd : decide (i < L.length) = false := decide_eq_false hlt
      have hI : ¬ ((i : Nat) : Int) < (L.length : Nat) := by omega
      have hg := HG.out
      rw [List.drop_eq_nil_of_le (by omega)] at hg
      have HG2 := Lib.hid (show scR X L r = false from hg)
      clear hg HG
      go_wp2_with fail
      go_ret
      exact ⟨by rw [HG2.out]; rfl, hx⟩
end Go.Proofs.YteokfknkcbmigaaGreatDoor
end

section
namespace Go.Proofs.YteokfknkcbmigaaGreatDoor
open Go.RowKit Go.Rp Go.Shelf Go.Maps Go.Nm

set_option maxRecDepth 100000 in
set_option maxHeartbeats 16000000 in
theorem c_rSafe (tB : Nat) (s : ByteArray) (k f : Int) (b : Bool) (w : World) (h : RTab w tB) (hs : s.size ≤ 1000000) (hb : b = true ↔ SafeT s.data.toList k f) :
  Calls Tryz.prog 14 #[.pointer (some ⟨tB, 0, none⟩), .string s, .int .i64 k, .int .i64 f] w fun e w' => e = .returned (.bool b) ∧ Ext w w' := by
 have hsI : ((s.size : Nat) : Int) ≤ 1000000 := by omega
 by_cases h0 : k = 0
 ·subst h0
  have hbt : b = true := hb.2 ⟨⟨by omega, by omega, edge_zero _⟩, .inl (.inl rfl)⟩
  subst hbt
  clear hb h
  go_enter Tryz.func14, Tryz.ntmps14
  go_wp2_with fail
  go_ret
  exact ⟨rfl, Ext.refl _⟩
 by_cases h1 : k = (s.size : Nat)
 ·subst h1
  have hbt : b = true := hb.2 ⟨⟨by omega, by rw [len_eq]; omega, by rw [Int.toNat_natCast, ← len_eq]; exact edge_end _⟩, .inl (.inr (.inl (by rw [len_eq])))⟩
  subst hbt
  have e0 : (((s.size : Nat) : Int) == 0) = false := beq_false_of_ne h0
  clear hb h h0
  go_enter Tryz.func14, Tryz.ntmps14
  go_wp2_with fail
  go_ret
  exact ⟨rfl, Ext.refl _⟩
 have e0 : (k == 0) = false := beq_false_of_ne h0
 have e1 : (k == ((s.size : Nat) : Int)) = false := beq_false_of_ne h1
 have HSR := Lib.hid (c_SRunes s w (by omega))
 have HR := Lib.hid (fun w => c_rRight f w)
 have HT := Lib.hid h
 obtain ⟨M, hM⟩ : ∃ M, marks s.size s.data.toList 0 = M := ⟨_, rfl⟩
 have hMl : M.length ≤ s.size := by
  rw [← hM]
  have := marks_len s.size s.data.toList 0
  rwa [len_eq] at this
 have hMg : ∀ i (hi : i < M.length), ∃ q : Nat, M[i] = (run (s.data.toList.drop q), q, q + wid (s.data.toList.drop q)) ∧ q < s.size ∧ edge s.data.toList q := fun i hi => by
  subst hM
  obtain ⟨q, h1, h2, h3, _⟩ := marks_get s.size s.data.toList 0 i (by rw [len_eq]; exact Nat.le_refl _) hi
  rw [len_eq] at h2
  exact ⟨q, by rw [h1, Nat.zero_add], h2, h3⟩
 have hMe : (¬ ∃ m ∈ M, ((m.2.1 : Nat) : Int) = k) → b = false := fun hno => by
  cases b with
  | false => rfl
  | true =>
   exfalso
   obtain ⟨⟨a1, a2, a3⟩, _⟩ := hb.1 rfl
   rw [len_eq] at a2
   obtain ⟨m, hm, hmq⟩ := (marks_edge s.size s.data.toList 0 (by rw [len_eq]; exact Nat.le_refl _) k.toNat).2 ⟨Nat.zero_le _, by rw [len_eq]; omega, a3⟩
   rw [hM] at hm
   exact hno ⟨m, hm, by rw [hmq]; omega⟩
 have hMI : ((M.length : Nat) : Int) ≤ 1000000 := by omega
 have HM := Lib.hid (And.intro hMl (And.intro hMg (And.intro hMe hb)))
 have HK := Lib.hid (And.intro h0 h1)
 rw [hM] at HSR
 clear hM hMl hMg hMe hb h h0 h1
 go_enter Tryz.func14, Tryz.ntmps14
 go_wp2_with fail
 refine HSR.out.mono ?_
 rintro e w1 ⟨xv, rfl, hxr, hx1⟩
 obtain ⟨xp, xc, rfl⟩ := own_slice hxr
 have HXR := Lib.hid (And.intro hxr hx1)
 clear hxr hx1
 go_wp2_with fail
 go_loopw [10] (fun iv W => ∃ i : Nat, iv = .int .i64 (i : Nat) ∧ i ≤ M.length ∧ Hid (∀ j (hj : j < M.length), j < i → ((M[j].2.1 : Nat) : Int) ≠ k) ∧ Ext w1 W) (fun iv _ => M.length + 1 - (intOf iv).toNat)
 case atStart => exact ⟨0, rfl, by omega, Lib.hid (fun j _ hj => by omega), Ext.refl _⟩
 case round =>
  obtain ⟨i, rfl, hi, HN, hx⟩ := hrel
  by_cases hlt : i < M.length
  ·have hd : decide (i < M.length) = true := decide_eq_true hlt
   have hI : ((i : Nat) : Int) < (M.length : Nat) := by omega
   obtain ⟨g, rfl, _, _, hxc⟩ := own_at HXR.out.1 (by omega)
   obtain ⟨q1, q2, q3⟩ := runeCells_get M i hlt
   have c0 := hx.cell ((hxc (i * 3) (by omega)).trans q1)
   have c1 := hx.cell ((hxc (i * 3 + 1) (by omega)).trans q2)
   have c2 := hx.cell ((hxc (i * 3 + 2) (by omega)).trans q3)
   obtain ⟨q, hmi, hq, hqe⟩ := HM.out.2.1 i hlt
   rw [hmi] at c0 c1 c2
   simp only at c0 c1 c2
   have hw4 := wid_le4 (s.data.toList.drop q)
   have hwp := wid_pos (s.data.toList.drop q)
   obtain ⟨W, hW⟩ : ∃ W, wid (s.data.toList.drop q) = W := ⟨_, rfl⟩
   obtain ⟨R, hRn⟩ : ∃ R, run (s.data.toList.drop q) = R := ⟨_, rfl⟩
   rw [hRn] at c0
   rw [hW] at c2
   rw [hW] at hw4 hwp
   have hqI : ((q : Nat) : Int) < (s.size : Nat) := by omega
   have hwI : ((W : Nat) : Int) ≤ 4 := by omega
   by_cases hqk : ((q : Nat) : Int) = k
   ·have eq1 : (((q : Nat) : Int) != k) = false := by rw [hqk]; simp
    subst hqk
    have HF := Lib.hid (show b = true ↔ ¬ (0 ≤ f ∧ f ≤ 3) ∨ (R = 65533 ∧ W = 1) ∨ firmT f (R : Nat) = true from by
     rw [HM.out.2.2.2]
     unfold SafeT
     rw [Int.toNat_natCast, len_eq]
     have hd : dec (s.data.toList.drop q) = (R, W) := by rw [← hRn, ← hW]; rfl
     rw [hd, hRn, Prod.mk.injEq]
     constructor
     ·rintro ⟨_, (h | h | h) | h | h⟩
      ·exact absurd h HK.out.1
      ·exact absurd h HK.out.2
      ·exact .inl h
      ·exact .inr (.inl h)
      ·exact .inr (.inr h)
     ·rintro (h | h | h)
      ·exact ⟨⟨by omega, by omega, hqe⟩, .inl (.inr (.inr h))⟩
      ·exact ⟨⟨by omega, by omega, hqe⟩, .inr (.inl h)⟩
      ·exact ⟨⟨by omega, by omega, hqe⟩, .inr (.inr h)⟩)
    have hRv : Utf8.valid ((R : Nat) : Int) = true := by rw [← hRn]; exact run_valid _
    clear hxc q1 q2 q3 hmi hW hRn hqe HN
    have HX := Lib.hid (HXR.out.2.trans hx)
    by_cases hf : 0 ≤ f ∧ f ≤ 3
    ·rw [decide_eq_true hf] at HR
     by_cases hR5 : R = 65533
     ·have eR : (((R : Nat) : Int) == 65533) = true := by rw [hR5]; rfl
      by_cases hW1 : W = 1
      ·have eW : (((q + W : Nat) : Int) - (q : Nat) == 1) = true := by
        rw [show ((q + W : Nat) : Int) - (q : Nat) = 1 by omega]; rfl
       have hbt : b = true := HF.out.2 (.inr (.inl ⟨hR5, hW1⟩))
       subst hbt hR5 hW1
       clear hf
       go_wp2_with fail
       refine (HR.out _).mono ?_
       rintro e w2 ⟨rfl, e2⟩
       obtain rfl := e2.symm
       clear e2
       go_wp2_with fail
       go_ret
       exact ⟨rfl, HX.out⟩
      ·have eW : (((q + W : Nat) : Int) - (q : Nat) == 1) = false := beq_false_of_ne (by omega)
       have HF2 := Lib.hid (show b = true ↔ firmT f (R : Nat) = true by
        rw [HF.out]
        exact ⟨fun h => by rcases h with h | h | h; exact absurd hf h; exact absurd h.2 hW1; exact h, fun h => .inr (.inr h)⟩)
       clear hR5 hW1
       have HAP := Lib.hid (c_rApart tB f (R : Nat) hf wr hRv (HT.out.mono HX.out))
       obtain ⟨A, hA⟩ : ∃ A, faT (decide (f = 2 ∨ f = 3)) ((R : Nat) : Int) = A := ⟨_, rfl⟩
       have hAl := faT_len (decide (f = 2 ∨ f = 3)) ((R : Nat) : Int)
       rw [hA] at HAP hAl
       obtain ⟨x0, A', rfl⟩ : ∃ x A', A = x :: A' := by
        cases A with
        | nil => simp at hAl
        | cons x A' => exact ⟨x, A', rfl⟩
       obtain ⟨j, hj⟩ : ∃ j : Bool, decide (f = 1 ∨ f = 3) = j := ⟨_, rfl⟩
       obtain ⟨od, hod⟩ : ∃ o, odT x0 = o := ⟨_, rfl⟩
       obtain ⟨sc, hsc⟩ : ∃ o, scT x0 = o := ⟨_, rfl⟩
       have HB := Lib.hid (show b = (decide (od = 0) && !(j && sc)) by
        have h1 := HF2.out
        unfold firmT at h1
        rw [hA, List.headD_cons, hod, hsc, hj] at h1
        rw [Bool.eq_iff_iff, h1])
       have HOX := Lib.hid (fun w h => c_rOrderT tB x0 w h)
       have HSC := Lib.hid (fun w h => c_rsecond tB x0 w h)
       rw [hod] at HOX
       rw [hsc] at HSC
       have HJ := Lib.hid hj
       have hlI : ((A'.length : Nat) : Int) ≤ 20 := by
        have := hAl.2
        rw [List.length_cons] at this
        omega
       clear hA hAl hod hsc hj HF HF2 hRv hf
       go_wp2_with fail
       refine (HR.out _).mono ?_
       rintro e w2 ⟨rfl, e2⟩
       obtain rfl := e2.symm
       clear e2
       go_wp2_with fail
       refine HAP.out.mono ?_
       rintro e w3 ⟨v3, rfl, hrow3, hx3⟩
       obtain ⟨p3, c3, rfl⟩ := own_slice hrow3
       obtain ⟨g3, rfl, _, _, hc3⟩ := own_at hrow3 (by simp)
       have hcx := (hc3 0 (by simp)).trans (show (i32s (x0 :: A'))[0]? = some (.int .i32 x0) from rfl)
       have HX3 := Lib.hid (HX.out.trans hx3)
       clear hrow3 hc3 hx3 hx HX
       go_wp2_with fail
       refine (HOX.out w3 (HT.out.mono HX3.out)).mono ?_
       rintro e w4 ⟨rfl, e4⟩
       obtain rfl := e4.symm
       clear e4
       by_cases ho : od = 0
       ·have eo : (od == 0) = true := by rw [ho]; rfl
        have HB2 := Lib.hid (show b = !(j && sc) by rw [HB.out, decide_eq_true ho]; rfl)
        clear ho
        by_cases hfc : f = 1 ∨ f = 3
        ·have hjt : j = true := by rw [← HJ.out]; exact decide_eq_true hfc
         have HB3 := Lib.hid (show b = !sc by rw [HB2.out, hjt]; rfl)
         clear hjt
         by_cases hf1 : f = 1
         ·have ef : (f == 1) = true := by rw [hf1]; rfl
          clear hfc hf1
          go_wp2_with fail
          refine (HSC.out _ (HT.out.mono HX3.out)).mono ?_
          rintro e w5 ⟨rfl, hx5⟩
          have HX5 := Lib.hid (HX3.out.trans hx5)
          clear hx5
          go_wp2_with fail
          go_ret
          exact ⟨by rw [HB3.out]; rfl, HX5.out⟩
         ·have ef : (f == 1) = false := beq_false_of_ne hf1
          have ef3 : (f == 3) = true := by rw [hfc.resolve_left hf1]; rfl
          clear hfc hf1
          go_wp2_with fail
          refine (HSC.out _ (HT.out.mono HX3.out)).mono ?_
          rintro e w5 ⟨rfl, hx5⟩
          have HX5 := Lib.hid (HX3.out.trans hx5)
          clear hx5
          go_wp2_with fail
          go_ret
          exact ⟨by rw [HB3.out]; rfl, HX5.out⟩
        ·have hjf : j = false := by rw [← HJ.out]; exact decide_eq_false hfc
         have hbt : b = true := by rw [HB2.out, hjf]; rfl
         have ef : (f == 1) = false := beq_false_of_ne (fun h => hfc (.inl h))
         have ef3 : (f == 3) = false := beq_false_of_ne (fun h => hfc (.inr h))
         have HBT := Lib.hid hbt
         clear hfc hjf hbt
         go_wp2_with fail
         go_ret
         exact ⟨by rw [HBT.out]; rfl, HX3.out⟩
       ·have eo : (od == 0) = false := beq_false_of_ne ho
        have HBT := Lib.hid (show b = false by rw [HB.out, decide_eq_false ho]; rfl)
        clear ho
        go_wp2_with fail
        go_ret
        exact ⟨by rw [HBT.out]; rfl, HX3.out⟩
     ·have eR : (((R : Nat) : Int) == 65533) = false := beq_false_of_ne (by omega)
      have HF2 := Lib.hid (show b = true ↔ firmT f (R : Nat) = true by
       rw [HF.out]
       exact ⟨fun h => by rcases h with h | h | h; exact absurd hf h; exact absurd h.1 hR5; exact h, fun h => .inr (.inr h)⟩)
      clear hR5
      have HAP := Lib.hid (c_rApart tB f (R : Nat) hf wr hRv (HT.out.mono HX.out))
      obtain ⟨A, hA⟩ : ∃ A, faT (decide (f = 2 ∨ f = 3)) ((R : Nat) : Int) = A := ⟨_, rfl⟩
      have hAl := faT_len (decide (f = 2 ∨ f = 3)) ((R : Nat) : Int)
      rw [hA] at HAP hAl
      obtain ⟨x0, A', rfl⟩ : ∃ x A', A = x :: A' := by
       cases A with
       | nil => simp at hAl
       | cons x A' => exact ⟨x, A', rfl⟩
      obtain ⟨j, hj⟩ : ∃ j : Bool, decide (f = 1 ∨ f = 3) = j := ⟨_, rfl⟩
      obtain ⟨od, hod⟩ : ∃ o, odT x0 = o := ⟨_, rfl⟩
      obtain ⟨sc, hsc⟩ : ∃ o, scT x0 = o := ⟨_, rfl⟩
      have HB := Lib.hid (show b = (decide (od = 0) && !(j && sc)) by
       have h1 := HF2.out
       unfold firmT at h1
       rw [hA, List.headD_cons, hod, hsc, hj] at h1
       rw [Bool.eq_iff_iff, h1])
      have HOX := Lib.hid (fun w h => c_rOrderT tB x0 w h)
      have HSC := Lib.hid (fun w h => c_rsecond tB x0 w h)
      rw [hod] at HOX
      rw [hsc] at HSC
      have HJ := Lib.hid hj
      have hlI : ((A'.length : Nat) : Int) ≤ 20 := by
       have := hAl.2
       rw [List.length_cons] at this
       omega
      clear hA hAl hod hsc hj HF HF2 hRv hf
      go_wp2_with fail
      refine (HR.out _).mono ?_
      rintro e w2 ⟨rfl, e2⟩
      obtain rfl := e2.symm
      clear e2
      go_wp2_with fail
      refine HAP.out.mono ?_
      rintro e w3 ⟨v3, rfl, hrow3, hx3⟩
      obtain ⟨p3, c3, rfl⟩ := own_slice hrow3
      obtain ⟨g3, rfl, _, _, hc3⟩ := own_at hrow3 (by simp)
      have hcx := (hc3 0 (by simp)).trans (show (i32s (x0 :: A'))[0]? = some (.int .i32 x0) from rfl)
      have HX3 := Lib.hid (HX.out.trans hx3)
      clear hrow3 hc3 hx3 hx HX
      go_wp2_with fail
      refine (HOX.out w3 (HT.out.mono HX3.out)).mono ?_
      rintro e w4 ⟨rfl, e4⟩
      obtain rfl := e4.symm
      clear e4
      by_cases ho : od = 0
      ·have eo : (od == 0) = true := by rw [ho]; rfl
       have HB2 := Lib.hid (show b = !(j && sc) by rw [HB.out, decide_eq_true ho]; rfl)
       clear ho
       by_cases hfc : f = 1 ∨ f = 3
       ·have hjt : j = true := by rw [← HJ.out]; exact decide_eq_true hfc
        have HB3 := Lib.hid (show b = !sc by rw [HB2.out, hjt]; rfl)
        clear hjt
        by_cases hf1 : f = 1
        ·have ef : (f == 1) = true := by rw [hf1]; rfl
         clear hfc hf1
         go_wp2_with fail
         refine (HSC.out _ (HT.out.mono HX3.out)).mono ?_
         rintro e w5 ⟨rfl, hx5⟩
         have HX5 := Lib.hid (HX3.out.trans hx5)
         clear hx5
         go_wp2_with fail
         go_ret
         exact ⟨by rw [HB3.out]; rfl, HX5.out⟩
        ·have ef : (f == 1) = false := beq_false_of_ne hf1
         have ef3 : (f == 3) = true := by rw [hfc.resolve_left hf1]; rfl
         clear hfc hf1
         go_wp2_with fail
         refine (HSC.out _ (HT.out.mono HX3.out)).mono ?_
         rintro e w5 ⟨rfl, hx5⟩
         have HX5 := Lib.hid (HX3.out.trans hx5)
         clear hx5
         go_wp2_with fail
         go_ret
         exact ⟨by rw [HB3.out]; rfl, HX5.out⟩
       ·have hjf : j = false := by rw [← HJ.out]; exact decide_eq_false hfc
        have hbt : b = true := by rw [HB2.out, hjf]; rfl
        have ef : (f == 1) = false := beq_false_of_ne (fun h => hfc (.inl h))
        have ef3 : (f == 3) = false := beq_false_of_ne (fun h => hfc (.inr h))
        have HBT := Lib.hid hbt
        clear hfc hjf hbt
        go_wp2_with fail
        go_ret
        exact ⟨by rw [HBT.out]; rfl, HX3.out⟩
      ·have eo : (od == 0) = false := beq_false_of_ne ho
       have HBT := Lib.hid (show b = false by rw [HB.out, decide_eq_false ho]; rfl)
       clear ho
       go_wp2_with fail
       go_ret
       exact ⟨by rw [HBT.out]; rfl, HX3.out⟩
    ·rw [decide_eq_false hf] at HR
     have hbt : b = true := HF.out.2 (.inl hf)
     subst hbt
     clear hf
     go_wp2_with fail
     refine (HR.out _).mono ?_
     rintro e w2 ⟨rfl, e2⟩
     obtain rfl := e2.symm
     clear e2
     go_wp2_with fail
     go_ret
     exact ⟨rfl, HX.out⟩
   ·have eq1 : (((q : Nat) : Int) != k) = true := by simpa using hqk
    have HN2 := Lib.hid (show ∀ j (hj : j < M.length), j < i + 1 → ((M[j].2.1 : Nat) : Int) ≠ k from fun j hj hji => by
     by_cases hje : j = i
     ·subst hje
      rw [hmi]
      exact hqk
     ·exact HN.out j hj (by omega))
    clear hxc q1 q2 q3 hmi hW hRn hqe HN hqk
    go_wp2_with fail
    exact ⟨⟨i + 1, by simp, by omega, HN2, hx⟩, by simp [intOf]; omega⟩
  ·have hd : decide (i < M.length) = false := decide_eq_false hlt
   have hI : ¬ ((i : Nat) : Int) < (M.length : Nat) := by omega
   have hbf : b = false := HM.out.2.2.1 (fun ⟨m, hm, hmk⟩ => by
    obtain ⟨j, hj, rfl⟩ := List.mem_iff_getElem.1 hm
    exact HN.out j hj (by omega) hmk)
   have HX := Lib.hid (HXR.out.2.trans hx)
   subst hbf
   clear hx HN
   go_wp2_with fail
   go_ret
   exact ⟨rfl, HX.out⟩
end Go.Proofs.YteokfknkcbmigaaGreatDoor
end
