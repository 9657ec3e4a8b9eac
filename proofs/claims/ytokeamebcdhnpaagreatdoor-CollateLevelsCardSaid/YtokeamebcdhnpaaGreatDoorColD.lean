/-
 What has a part in the first sections.
-/
import Derived.Test.YtokeamebcdhnpaaGreatDoorColC
namespace Go.Proofs.YtokeamebcdhnpaaGreatDoor
open Go.RowKit Go.Rp Go.Shelf Go.Maps Go.Cl

/-- A row of elements. -/
def ElRow (w : World) (v : Value) (l : List El) : Prop :=
 (l = [] ∧ v = .slice none 0 0) ∨ ∃ g cap, v = .slice (some ⟨g, 0, none⟩) l.length cap ∧ l.length ≤ cap ∧ ∀ i (h : i < l.length), w.cell? ⟨g, i * 3, none⟩ = some (.int .i64 (l[i].1 : Nat)) ∧ w.cell? ⟨g, i * 3 + 1, none⟩ = some (.int .i64 (l[i].2.1 : Nat)) ∧ w.cell? ⟨g, i * 3 + 2, none⟩ = some (.int .i64 (l[i].2.2 : Nat))
theorem ElRow.opened {w : World} {v : Value} {l : List El} (h : ElRow w v l) : ∃ p cap, v = .slice p l.length cap ∧ l.length ≤ cap ∧ (l ≠ [] → ∃ g, p = some ⟨g, 0, none⟩ ∧ ∀ i (h : i < l.length), w.cell? ⟨g, i * 3, none⟩ = some (.int .i64 (l[i].1 : Nat)) ∧ w.cell? ⟨g, i * 3 + 1, none⟩ = some (.int .i64 (l[i].2.1 : Nat)) ∧ w.cell? ⟨g, i * 3 + 2, none⟩ = some (.int .i64 (l[i].2.2 : Nat))) := by
 rcases h with ⟨rfl, rfl⟩ | ⟨g, cap, rfl, hc, h2⟩
 ·exact ⟨none, 0, rfl, Nat.le_refl _, fun h => absurd rfl h⟩
 ·exact ⟨_, cap, rfl, hc, fun _ => ⟨g, rfl, h2⟩⟩
theorem ElRow.ext {w w' : World} {v : Value} {l : List El} (h : ElRow w v l) (hx : Ext w w') : ElRow w' v l := by
 rcases h with h | ⟨g, cap, e, hc, h3⟩
 ·exact .inl h
 ·exact .inr ⟨g, cap, e, hc, fun i hi => ⟨hx.cell (h3 i hi).1, hx.cell (h3 i hi).2.1, hx.cell (h3 i hi).2.2⟩⟩
theorem elW_at (l : List El) : ∀ i (h : i < l.length), (elW l)[i * 3]? = some (.int .i64 (l[i].1 : Nat)) ∧ (elW l)[i * 3 + 1]? = some (.int .i64 (l[i].2.1 : Nat)) ∧ (elW l)[i * 3 + 2]? = some (.int .i64 (l[i].2.2 : Nat)) := by
 induction l with
 | nil => intro i h; cases h
 | cons x l ih =>
  intro i h
  cases i with
  | zero => exact ⟨rfl, rfl, rfl⟩
  | succ i =>
   have := ih i (by simpa using h)
   rw [show (i + 1) * 3 = i * 3 + 1 + 1 + 1 by omega]
   exact this
theorem ElRow.of_own {w : World} {B : Nat} {v : Value} {l : List El} (h : w.ownsRow B 59 3 v l.length (elW l)) : ElRow w v l := by
 rcases h.2 with ⟨e, h0⟩ | ⟨g, cap, cur, e, _, _, hcap, _⟩
 ·exact .inl ⟨List.length_eq_zero_iff.1 h0, e⟩
 ·refine .inr ⟨g, cap, e, hcap, fun i hi => ?_⟩
  subst e
  obtain ⟨h1, h2, h3⟩ := elW_at l i hi
  exact ⟨(h.cellAt (i * 3) (by omega)).trans h1, (h.cellAt (i * 3 + 1) (by omega)).trans h2, (h.cellAt (i * 3 + 2) (by omega)).trans h3⟩
abbrev ordV (o : Ord) : Value := .agg #[.int .i64 o.level, .bool o.shift, .bool o.back, .bool o.great]
abbrev elA (e : El) : Value := .agg #[.int .i64 (e.1 : Nat), .int .i64 (e.2.1 : Nat), .int .i64 (e.2.2 : Nat)]
theorem c_Check (o : Ord) (w : World) : Calls Tryz.prog 14 #[ordV o] w fun e w' => e = .returned (.int .i64 (if 1 ≤ o.level ∧ o.level ≤ 4 then 0 else 2)) ∧ Ext w w' := by
 by_cases h : 1 ≤ o.level ∧ o.level ≤ 4
 ·have h1 : ¬ o.level < 1 := by omega
  have h2 : ¬ 4 < o.level := by omega
  rw [if_pos h]
  clear h
  go_enter Tryz.func14, Tryz.ntmps14
  go_wp2_with fail
  go_ret
  exact ⟨rfl, (Ext.refl _).alloc _⟩
 ·rw [if_neg h]
  by_cases h1 : o.level < 1
  ·clear h
   go_enter Tryz.func14, Tryz.ntmps14
   go_wp2_with fail
   go_ret
   exact ⟨rfl, (Ext.refl _).alloc _⟩
  ·have h2 : 4 < o.level := by omega
   clear h
   go_enter Tryz.func14, Tryz.ntmps14
   go_wp2_with fail
   go_ret
   exact ⟨rfl, (Ext.refl _).alloc _⟩
theorem c_light (e : El) (w : World) : Calls Tryz.prog 38 #[elA e] w fun x w' => x = .returned (.bool (lightE e)) ∧ Ext w w' := by
 by_cases h1 : 1 ≤ e.1
 ·have h1I : (1 : Int) ≤ (e.1 : Nat) := by omega
  have h1d : decide (1 ≤ e.1) = true := decide_eq_true h1
  by_cases h2 : e.1 ≤ 499
  ·have h2I : ((e.1 : Nat) : Int) ≤ 499 := by omega
   have HE := Lib.hid (show lightE e = true by simp [lightE, h1, h2])
   clear h1 h2 h1d
   go_enter Tryz.func38, Tryz.ntmps38
   go_wp2_with fail
   go_ret
   exact ⟨by rw [HE.out]; rfl, (Ext.refl _).alloc _⟩
  ·have h2I : ¬ ((e.1 : Nat) : Int) ≤ 499 := by omega
   have HE := Lib.hid (show lightE e = false by simp [lightE, h2])
   clear h1 h2 h1d
   go_enter Tryz.func38, Tryz.ntmps38
   go_wp2_with fail
   go_ret
   exact ⟨by rw [HE.out]; rfl, (Ext.refl _).alloc _⟩
 ·have h1I : ¬ (1 : Int) ≤ (e.1 : Nat) := by omega
  have HE := Lib.hid (show lightE e = false by simp [lightE, h1])
  clear h1
  go_enter Tryz.func38, Tryz.ntmps38
  go_wp2_with fail
  go_ret
  exact ⟨by rw [HE.out]; rfl, (Ext.refl _).alloc _⟩
theorem c_third (n : Nat) (o : Ord) (hn : n < 256) (w : World) : Calls Tryz.prog 35 #[.int .i64 (n : Nat), ordV o] w fun x w' => x = .returned (.int .u8 (thirdN o.great n : Nat)) ∧ Ext w w' := by
 obtain ⟨lv, sh, bk, gr⟩ := o
 cases gr with
 | false =>
  have HE := Lib.hid (show thirdN false n = n by simp [thirdN])
  have hnI : ((n : Nat) : Int) < 256 := by omega
  go_enter Tryz.func35, Tryz.ntmps35
  go_wp2_with fail
  go_ret
  exact ⟨by rw [HE.out]; rfl, (Ext.refl _).alloc _⟩
 | true =>
  by_cases h89 : n = 8 ∨ n = 9
  ·rcases h89 with rfl | rfl
   ·go_enter Tryz.func35, Tryz.ntmps35
    go_wp2_with fail
    go_ret
    exact ⟨rfl, (Ext.refl _).alloc _⟩
   ·go_enter Tryz.func35, Tryz.ntmps35
    go_wp2_with fail
    go_ret
    exact ⟨rfl, (Ext.refl _).alloc _⟩
  ·by_cases h12 : n = 1 ∨ n = 2
   ·rcases h12 with rfl | rfl
    ·go_enter Tryz.func35, Tryz.ntmps35
     go_wp2_with fail
     go_ret
     exact ⟨rfl, (Ext.refl _).alloc _⟩
    ·go_enter Tryz.func35, Tryz.ntmps35
     go_wp2_with fail
     go_ret
     exact ⟨rfl, (Ext.refl _).alloc _⟩
   ·have HE := Lib.hid (show thirdN true n = n by simp [thirdN, h89, h12])
    have hnI : ((n : Nat) : Int) < 256 := by omega
    have q8 : (((n : Nat) : Int) == 8) = false := beq_false_of_ne (by omega)
    have q9 : (((n : Nat) : Int) == 9) = false := beq_false_of_ne (by omega)
    have q1 : (((n : Nat) : Int) == 1) = false := beq_false_of_ne (by omega)
    have q2 : (((n : Nat) : Int) == 2) = false := beq_false_of_ne (by omega)
    clear h89 h12
    go_enter Tryz.func35, Tryz.ntmps35
    go_wp2_with fail
    go_ret
    exact ⟨by rw [HE.out]; rfl, (Ext.refl _).alloc _⟩
set_option maxRecDepth 100000 in
set_option maxHeartbeats 4000000 in
theorem c_heavy (v : Value) (l : List El) (o : Ord) (w : World) (h : ElRow w v l) (hl : l.length ≤ 50000000) :
  Calls Tryz.prog 34 #[v, ordV o] w fun e w' => ∃ v', e = .returned v' ∧ ElRow w' v' (heavyL o.shift l) ∧ Ext w w' := by
 obtain ⟨lv, sh, bk, gr⟩ := o
 have HR := Lib.hid h
 obtain ⟨p, cap, rfl, hcap, hc⟩ := h.opened
 have HC := Lib.hid hc
 clear hc
 cases sh with
 | false =>
  go_enter Tryz.func34, Tryz.ntmps34
  go_wp2_with fail
  go_ret
  exact ⟨_, rfl, HR.out.ext ((Ext.refl _).alloc _), (Ext.refl _).alloc _⟩
 | true =>
  have hlI : ((l.length : Nat) : Int) ≤ 50000000 := by omega
  go_enter Tryz.func34, Tryz.ntmps34
  go_wp2_with fail
  have hx0 : Ext w (w.alloc (.cells #[.int .i64 lv, .bool true, .bool bk, .bool gr] 24)) := (Ext.refl _).alloc _
  generalize w.alloc (.cells #[.int .i64 lv, .bool true, .bool bk, .bool gr] 24) = W0 at hx0 ⊢
  have HX0 := Lib.hid hx0
  have hHE : Hid (∃ i0, Tryz.prog.info? 59 = some i0 ∧ i0.zero = some (.agg #[.int .i64 0, .int .i64 0, .int .i64 0]) ∧ i0.size = 3 ∧ i0.bytes = 24) := by
   obtain ⟨i0, hi, hz0, hz1, hz2⟩ := info_parts Tryz.infoEl
   exact ⟨i0, hi, hz0, hz1, hz2⟩
  clear hx0
  go_loopw [5, 6, 15] (fun ov bv iv W => ∃ (i : Nat) (D : List El) (b : Bool), iv = .int .i64 (i : Nat) ∧ i ≤ l.length ∧ bv = .bool b ∧ Hid (D ++ heavyGo b (l.drop i) = heavyGo false l) ∧ Hid (W.ownsRow W0.heap.size 59 3 ov D.length (elW D)) ∧ Hid (Ext W0 W ∧ D.length ≤ i)) (fun _ _ iv _ => l.length + 1 - (intOf iv).toNat)
  case atStart => exact ⟨0, [], false, rfl, by omega, rfl, Lib.hid rfl, Lib.hid (World.ownsRow_nil _ _ _ _), Lib.hid ⟨Ext.refl _, Nat.le_refl _⟩⟩
  case round =>
   obtain ⟨i, D, b, rfl, hi, rfl, HD, HROW, HXR⟩ := hrel
   by_cases hlt : i < l.length
   ·have hI : ((i : Nat) : Int) < (l.length : Nat) := by omega
    have hd : decide (i < l.length) = true := decide_eq_true hlt
    obtain ⟨g, rfl, hcel⟩ := HC.out (by intro e; subst e; simp at hlt)
    obtain ⟨k0, k1, k2⟩ := hcel i hlt
    obtain ⟨x, hx⟩ : ∃ x, l[i] = x := ⟨_, rfl⟩
    have HDR := Lib.hid (show l.drop i = x :: l.drop (i + 1) by rw [← hx]; exact List.drop_eq_getElem_cons hlt)
    rw [hx] at k0 k1 k2
    have e0 := (HX0.out.trans HXR.out.1).cell k0
    have e1 := (HX0.out.trans HXR.out.1).cell k1
    have e2 := (HX0.out.trans HXR.out.1).cell k2
    clear hcel k0 k1 k2 hx
    go_wp2_with fail
    have hxa := (Ext.refl wr).alloc (.cells #[.int .i64 (x.1 : Nat), .int .i64 (x.2.1 : Nat), .int .i64 (x.2.2 : Nat)] 59)
    have hba := World.alloc_heap_new wr (.cells #[.int .i64 (x.1 : Nat), .int .i64 (x.2.1 : Nat), .int .i64 (x.2.2 : Nat)] 59)
    generalize wr.alloc (.cells #[.int .i64 (x.1 : Nat), .int .i64 (x.2.1 : Nat), .int .i64 (x.2.2 : Nat)] 59) = w4 at hxa hba ⊢
    generalize wr.heap.size = eb at hba ⊢
    refine (c_light x w4).mono ?_
    rintro e w5 ⟨rfl, hx5⟩
    have hb5 := hx5.blk hba
    have f0 : w5.cell? ⟨eb, 0, none⟩ = some (.int .i64 (x.1 : Nat)) := (cell_blk hb5 0).trans rfl
    have f1 : w5.cell? ⟨eb, 1, none⟩ = some (.int .i64 (x.2.1 : Nat)) := (cell_blk hb5 1).trans rfl
    have f2 : w5.cell? ⟨eb, 2, none⟩ = some (.int .i64 (x.2.2 : Nat)) := (cell_blk hb5 2).trans rfl
    have HR5 := Lib.hid (And.intro (ownsRow_ext HROW.out (hxa.trans hx5)) (And.intro (HXR.out.1.trans (hxa.trans hx5)) HXR.out.2))
    clear hxa hba hx5 hb5 e0 e1 e2 HROW HXR
    by_cases hl1 : lightE x = true
    ·have HGO := Lib.hid (show heavyGo b (l.drop i) = heavyGo true (l.drop (i + 1)) by rw [HDR.out, heavyGo, if_pos hl1])
     rw [hl1]
     clear hl1 f0 f1 f2
     go_wp2_with fail
     exact ⟨⟨i + 1, D, true, by simp, by omega, rfl, Lib.hid (by rw [← HGO.out]; exact HD.out), Lib.hid HR5.out.1, Lib.hid ⟨HR5.out.2.1, by have := HR5.out.2.2; omega⟩⟩, by simp only [intOf]; omega⟩
    ·have hl2 : lightE x = false := by simpa using hl1
     rw [hl2]
     by_cases hz : x.1 = 0
     ·have hzq : (((x.1 : Nat) : Int) == 0) = true := by rw [hz]; rfl
      have hzI : ((x.1 : Nat) : Int) = 0 := by omega
      cases b with
      | true =>
       have HGO := Lib.hid (show heavyGo true (l.drop i) = heavyGo true (l.drop (i + 1)) by rw [HDR.out, heavyGo, if_neg hl1, if_neg (fun h => h hz), if_pos rfl])
       clear hl1 hl2 hz
       go_wp2_with fail
       exact ⟨⟨i + 1, D, true, by simp, by omega, rfl, Lib.hid (by rw [← HGO.out]; exact HD.out), Lib.hid HR5.out.1, Lib.hid ⟨HR5.out.2.1, by have := HR5.out.2.2; omega⟩⟩, by simp only [intOf]; omega⟩
      | false =>
       have HGO := Lib.hid (show heavyGo false (l.drop i) = x :: heavyGo false (l.drop (i + 1)) by rw [HDR.out, heavyGo, if_neg hl1, if_neg (fun h => h hz), if_neg (by decide)])
       have HZ := Lib.hid (show elW [x] = [.int .i64 0, .int .i64 (x.2.1 : Nat), .int .i64 (x.2.2 : Nat)] by simp [elW, hz])
       clear hl1 hl2 hz
       go_wp2_with (at_builtin; refine Hid.out ?_)
       refine Lib.hid ?_
       obtain ⟨i0, hi0, hz0, hz1, hz3⟩ := hHE.out
       refine wpList_app rfl (.tmp 33) (.tmp 35) 28 rfl 59 i0 (.agg #[.int .i64 0, .int .i64 0, .int .i64 0]) 3 24 Tryz.underlying28 hi0 hz0 hz1 hz3 rfl (by decide) rfl HR5.out.1 HR5.out.2.1 [.int .i64 0, .int .i64 (x.2.1 : Nat), .int .i64 (x.2.2 : Nat)] rfl rfl (by intro u hu; simp at hu; rcases hu with rfl | rfl | rfl <;> rfl) ?b1 (by decide) ?_
       case b1 => have := HR5.out.2.2; omega
       intro v' w9 hown9 hx9 _
       have HO := Lib.hid (And.intro (show w9.ownsRow W0.heap.size 59 3 v' (D ++ [x]).length (elW (D ++ [x])) by rw [List.length_append, elW_app, HZ.out]; exact hown9) hx9)
       have HLE := Lib.hid (show (D ++ [x]).length ≤ i + 1 by rw [List.length_append]; have := HR5.out.2.2; simp; omega)
       clear hown9 hx9 HR5
       go_wp2_with fail
       exact ⟨⟨i + 1, D ++ [x], false, by simp, by omega, rfl, Lib.hid (by have := HD.out; rw [HGO.out] at this; rw [List.append_assoc]; exact this), Lib.hid HO.out.1, Lib.hid ⟨HO.out.2, HLE.out⟩⟩, by simp only [intOf]; omega⟩
     ·have hzq : (((x.1 : Nat) : Int) == 0) = false := beq_false_of_ne (by omega)
      have hzI : ¬ ((x.1 : Nat) : Int) = 0 := by omega
      have HGO := Lib.hid (show heavyGo b (l.drop i) = x :: heavyGo false (l.drop (i + 1)) by rw [HDR.out, heavyGo, if_neg hl1, if_pos hz])
      have HZ := Lib.hid (show elW [x] = [.int .i64 (x.1 : Nat), .int .i64 (x.2.1 : Nat), .int .i64 (x.2.2 : Nat)] from rfl)
      clear hl1 hl2 hz
      go_wp2_with (at_builtin; refine Hid.out ?_)
      refine Lib.hid ?_
      obtain ⟨i0, hi0, hz0, hz1, hz3⟩ := hHE.out
      refine wpList_app rfl (.tmp 26) (.tmp 28) 28 rfl 59 i0 (.agg #[.int .i64 0, .int .i64 0, .int .i64 0]) 3 24 Tryz.underlying28 hi0 hz0 hz1 hz3 rfl (by decide) rfl HR5.out.1 HR5.out.2.1 [.int .i64 (x.1 : Nat), .int .i64 (x.2.1 : Nat), .int .i64 (x.2.2 : Nat)] rfl rfl (by intro u hu; simp at hu; rcases hu with rfl | rfl | rfl <;> rfl) ?b2 (by decide) ?_
      case b2 => have := HR5.out.2.2; omega
      intro v' w9 hown9 hx9 _
      have HO := Lib.hid (And.intro (show w9.ownsRow W0.heap.size 59 3 v' (D ++ [x]).length (elW (D ++ [x])) by rw [List.length_append, elW_app, HZ.out]; exact hown9) hx9)
      have HLE := Lib.hid (show (D ++ [x]).length ≤ i + 1 by rw [List.length_append]; have := HR5.out.2.2; simp; omega)
      clear hown9 hx9 HR5
      go_wp2_with fail
      exact ⟨⟨i + 1, D ++ [x], false, by simp, by omega, rfl, Lib.hid (by have := HD.out; rw [HGO.out] at this; rw [List.append_assoc]; exact this), Lib.hid HO.out.1, Lib.hid ⟨HO.out.2, HLE.out⟩⟩, by simp only [intOf]; omega⟩
   ·have hI : ¬ ((i : Nat) : Int) < (l.length : Nat) := by omega
    have hd : decide (i < l.length) = false := decide_eq_false hlt
    obtain rfl : i = l.length := by omega
    have HDE := Lib.hid (show D = heavyGo false l by have := HD.out; rw [List.drop_length, heavyGo, List.append_nil] at this; exact this)
    clear hlt hi
    go_wp2_with fail
    have HEE := Lib.hid (show ElRow wr u5 (heavyL true l) by
     have h1 := ElRow.of_own HROW.out
     rw [HDE.out] at h1
     exact h1)
    exact ret_one rfl rfl rfl ⟨_, rfl, HEE.out, HX0.out.trans HXR.out.1⟩
end Go.Proofs.YtokeamebcdhnpaaGreatDoor
