/-
 The document's small functions of collation: Check, shifted, third, kept, digit. The document's reading of a digit; whether marks begin so.
-/
import Derived.Test.YtokeamebcdhnpaaGreatDoorColCD
import Derived.Test.YtokeamebcdhnpaaGreatDoorKbMP
import Derived.Test.YtokeamebcdhnpaaGreatDoorKwDM
section
namespace Go.Proofs.YtokeamebcdhnpaaGreatDoor
open Go.RowKit Go.Rp Go.Shelf Go.Maps Go.Cl

theorem c_RCheck (o : Ord) (w : World) : Calls Tryz.prog 15 #[ordV o] w fun e w' => e = .returned (.int .i64 (if 1 ≤ o.level ∧ o.level ≤ 4 then 0 else 2)) ∧ Ext w w' := by
 by_cases h : 1 ≤ o.level ∧ o.level ≤ 4
 ·have h1 : ¬ o.level < 1 := by omega
  have h2 : ¬ 4 < o.level := by omega
  rw [if_pos h]
  clear h
  go_enter Tryz.func15, Tryz.ntmps15
  go_wp2_with fail
  go_ret
  exact ⟨rfl, (Ext.refl _).alloc _⟩
 ·rw [if_neg h]
  by_cases h1 : o.level < 1
  ·clear h
   go_enter Tryz.func15, Tryz.ntmps15
   go_wp2_with fail
   go_ret
   exact ⟨rfl, (Ext.refl _).alloc _⟩
  ·have h2 : 4 < o.level := by omega
   clear h
   go_enter Tryz.func15, Tryz.ntmps15
   go_wp2_with fail
   go_ret
   exact ⟨rfl, (Ext.refl _).alloc _⟩
theorem c_shifted (e : El) (w : World) : Calls Tryz.prog 42 #[elA e] w fun x w' => x = .returned (.bool (lightE e)) ∧ Ext w w' := by
 by_cases h1 : 1 ≤ e.1
 ·have h1I : (1 : Int) ≤ (e.1 : Nat) := by omega
  have h1d : decide (1 ≤ e.1) = true := decide_eq_true h1
  by_cases h2 : e.1 ≤ 499
  ·have h2I : ((e.1 : Nat) : Int) ≤ 499 := by omega
   have HE := Lib.hid (show lightE e = true by simp [lightE, h1, h2])
   clear h1 h2 h1d
   go_enter Tryz.func42, Tryz.ntmps42
   go_wp2_with fail
   go_ret
   exact ⟨by rw [HE.out]; rfl, (Ext.refl _).alloc _⟩
  ·have h2I : ¬ ((e.1 : Nat) : Int) ≤ 499 := by omega
   have HE := Lib.hid (show lightE e = false by simp [lightE, h2])
   clear h1 h2 h1d
   go_enter Tryz.func42, Tryz.ntmps42
   go_wp2_with fail
   go_ret
   exact ⟨by rw [HE.out]; rfl, (Ext.refl _).alloc _⟩
 ·have h1I : ¬ (1 : Int) ≤ (e.1 : Nat) := by omega
  have HE := Lib.hid (show lightE e = false by simp [lightE, h1])
  clear h1
  go_enter Tryz.func42, Tryz.ntmps42
  go_wp2_with fail
  go_ret
  exact ⟨by rw [HE.out]; rfl, (Ext.refl _).alloc _⟩
theorem c_rthird (n : Nat) (gr : Bool) (hn : n < 256) (w : World) : Calls Tryz.prog 41 #[.int .i64 (n : Nat), .bool gr] w fun x w' => x = .returned (.int .u8 (thirdN gr n : Nat)) ∧ w' = w := by
 cases gr with
 | false =>
  have HE := Lib.hid (show thirdN false n = n by simp [thirdN])
  have hnI : ((n : Nat) : Int) < 256 := by omega
  go_enter Tryz.func41, Tryz.ntmps41
  go_wp2_with fail
  go_ret
  exact ⟨by rw [HE.out]; rfl, rfl⟩
 | true =>
  by_cases h89 : n = 8 ∨ n = 9
  ·rcases h89 with rfl | rfl
   ·go_enter Tryz.func41, Tryz.ntmps41
    go_wp2_with fail
    go_ret
    exact ⟨rfl, rfl⟩
   ·go_enter Tryz.func41, Tryz.ntmps41
    go_wp2_with fail
    go_ret
    exact ⟨rfl, rfl⟩
  ·by_cases h12 : n = 1 ∨ n = 2
   ·rcases h12 with rfl | rfl
    ·go_enter Tryz.func41, Tryz.ntmps41
     go_wp2_with fail
     go_ret
     exact ⟨rfl, rfl⟩
    ·go_enter Tryz.func41, Tryz.ntmps41
     go_wp2_with fail
     go_ret
     exact ⟨rfl, rfl⟩
   ·have HE := Lib.hid (show thirdN true n = n by simp [thirdN, h89, h12])
    have hnI : ((n : Nat) : Int) < 256 := by omega
    have q8 : (((n : Nat) : Int) == 8) = false := beq_false_of_ne (by omega)
    have q9 : (((n : Nat) : Int) == 9) = false := beq_false_of_ne (by omega)
    have q1 : (((n : Nat) : Int) == 1) = false := beq_false_of_ne (by omega)
    have q2 : (((n : Nat) : Int) == 2) = false := beq_false_of_ne (by omega)
    clear h89 h12
    go_enter Tryz.func41, Tryz.ntmps41
    go_wp2_with fail
    go_ret
    exact ⟨by rw [HE.out]; rfl, rfl⟩
set_option maxRecDepth 100000 in
set_option maxHeartbeats 4000000 in
theorem c_kept (v : Value) (l : List El) (o : Ord) (w : World) (h : ElRow w v l) (hl : l.length ≤ 50000000) :
  Calls Tryz.prog 40 #[v, ordV o] w fun e w' => ∃ v', e = .returned v' ∧ ElRow w' v' (heavyL o.shift l) ∧ Ext w w' := by
 obtain ⟨lv, sh, bk, gr⟩ := o
 have HR := Lib.hid h
 obtain ⟨p, cap, rfl, hcap, hc⟩ := h.opened
 have HC := Lib.hid hc
 clear hc
 cases sh with
 | false =>
  go_enter Tryz.func40, Tryz.ntmps40
  go_wp2_with fail
  go_ret
  exact ⟨_, rfl, HR.out.ext ((Ext.refl _).alloc _), (Ext.refl _).alloc _⟩
 | true =>
  have hlI : ((l.length : Nat) : Int) ≤ 50000000 := by omega
  go_enter Tryz.func40, Tryz.ntmps40
  go_wp2_with fail
  have hx0 : Ext w (w.alloc (.cells #[.int .i64 lv, .bool true, .bool bk, .bool gr] 24)) := (Ext.refl _).alloc _
  generalize w.alloc (.cells #[.int .i64 lv, .bool true, .bool bk, .bool gr] 24) = W0 at hx0 ⊢
  have HX0 := Lib.hid hx0
  have hHE : Hid (∃ i0, Tryz.prog.info? 59 = some i0 ∧ i0.zero = some (.agg #[.int .i64 0, .int .i64 0, .int .i64 0]) ∧ i0.size = 3 ∧ i0.bytes = 24) := by
   obtain ⟨i0, hi, hz0, hz1, hz2⟩ := info_parts Tryz.infoEl
   exact ⟨i0, hi, hz0, hz1, hz2⟩
  clear hx0
  go_loopw [5, 6, 7] (fun ov bv iv W => ∃ (i : Nat) (D : List El) (b : Bool), iv = .int .i64 (i : Nat) ∧ i ≤ l.length ∧ bv = .bool b ∧ Hid (D ++ heavyGo b (l.drop i) = heavyGo false l) ∧ Hid (W.ownsRow W0.heap.size 59 3 ov D.length (elW D)) ∧ Hid (Ext W0 W ∧ D.length ≤ i)) (fun _ _ iv _ => l.length + 1 - (intOf iv).toNat)
  case atStart => exact ⟨0, [], false, rfl, by omega, rfl, Lib.hid rfl, Lib.hid (World.ownsRow_nil _ _ _ _), Lib.hid ⟨Ext.refl _, Nat.le_refl _⟩⟩
  case round =>
   obtain ⟨i, D, b, rfl, hi, rfl, HD, HROW, HXR⟩ := hrel
   by_cases hlt : i < l.length
   ·have hI : ((i : Nat) : Int) < (l.length : Nat) := by omega
    have hd : decide (i < l.length) = true := decide_eq_true hlt
    obtain ⟨g, rfl, hcel⟩ := HC.out (by intro e; subst e; simp at hlt)
    obtain ⟨k0, k1, k2⟩ := hcel i hlt
    obtain ⟨x, hx⟩ : ∃ x, l[i] = x := ⟨_, rfl⟩
    have HDR := Lib.hid (show l.drop i = x :: l.drop (i + 1) by rw [← hx]; exact List.drop_eq_getElem_cons hlt)
    rw [hx] at k0 k1 k2
    have e0 := (HX0.out.trans HXR.out.1).cell k0
    have e1 := (HX0.out.trans HXR.out.1).cell k1
    have e2 := (HX0.out.trans HXR.out.1).cell k2
    have HEC := Lib.hid (And.intro e0 (And.intro e1 e2))
    clear hcel k0 k1 k2 hx
    go_wp2_with fail
    refine (c_shifted x wr).mono ?_
    rintro e w5 ⟨rfl, hx5⟩
    have f0 := hx5.cell HEC.out.1
    have f1 := hx5.cell HEC.out.2.1
    have f2 := hx5.cell HEC.out.2.2
    have HR5 := Lib.hid (And.intro (ownsRow_ext HROW.out hx5) (And.intro (HXR.out.1.trans hx5) HXR.out.2))
    clear hx5 HROW HXR HEC e0 e1 e2
    by_cases hl1 : lightE x = true
    ·have HGO := Lib.hid (show heavyGo b (l.drop i) = heavyGo true (l.drop (i + 1)) by rw [HDR.out, heavyGo, if_pos hl1])
     rw [hl1]
     clear hl1 f0 f1 f2
     go_wp2_with fail
     exact ⟨⟨i + 1, D, true, by simp, by omega, rfl, Lib.hid (by rw [← HGO.out]; exact HD.out), Lib.hid HR5.out.1, Lib.hid ⟨HR5.out.2.1, by have := HR5.out.2.2; omega⟩⟩, by simp only [intOf]; omega⟩
    ·have hl2 : lightE x = false := by simpa using hl1
     rw [hl2]
     by_cases hz : x.1 = 0
     ·have hzq : (((x.1 : Nat) : Int) == 0) = true := by rw [hz]; rfl
      have hzI : ((x.1 : Nat) : Int) = 0 := by omega
      cases b with
      | true =>
       have HGO := Lib.hid (show heavyGo true (l.drop i) = heavyGo true (l.drop (i + 1)) by rw [HDR.out, heavyGo, if_neg hl1, if_neg (fun h => h hz), if_pos rfl])
       clear hl1 hl2 hz
       go_wp2_with fail
       exact ⟨⟨i + 1, D, true, by simp, by omega, rfl, Lib.hid (by rw [← HGO.out]; exact HD.out), Lib.hid HR5.out.1, Lib.hid ⟨HR5.out.2.1, by have := HR5.out.2.2; omega⟩⟩, by simp only [intOf]; omega⟩
      | false =>
       have HGO := Lib.hid (show heavyGo false (l.drop i) = x :: heavyGo false (l.drop (i + 1)) by rw [HDR.out, heavyGo, if_neg hl1, if_neg (fun h => h hz), if_neg (by decide)])
       have HZ := Lib.hid (show elW [x] = [.int .i64 0, .int .i64 (x.2.1 : Nat), .int .i64 (x.2.2 : Nat)] by simp [elW, hz])
       clear hl1 hl2 hz
       go_wp2_with (at_builtin; refine Hid.out ?_)
       refine Lib.hid ?_
       obtain ⟨i0, hi0, hz0, hz1, hz3⟩ := hHE.out
       refine wpList_app rfl (.tmp 32) (.tmp 37) 28 rfl 59 i0 (.agg #[.int .i64 0, .int .i64 0, .int .i64 0]) 3 24 Tryz.underlying28 hi0 hz0 hz1 hz3 rfl (by decide) rfl HR5.out.1 HR5.out.2.1 [.int .i64 0, .int .i64 (x.2.1 : Nat), .int .i64 (x.2.2 : Nat)] rfl rfl (by intro u hu; simp at hu; rcases hu with rfl | rfl | rfl <;> rfl) ?b1 (by decide) ?_
       case b1 => have := HR5.out.2.2; omega
       intro v' w9 hown9 hx9 _
       have HO := Lib.hid (And.intro (show w9.ownsRow W0.heap.size 59 3 v' (D ++ [x]).length (elW (D ++ [x])) by rw [List.length_append, elW_app, HZ.out]; exact hown9) hx9)
       have HLE := Lib.hid (show (D ++ [x]).length ≤ i + 1 by rw [List.length_append]; have := HR5.out.2.2; simp; omega)
       clear hown9 hx9 HR5
       go_wp2_with fail
       exact ⟨⟨i + 1, D ++ [x], false, by simp, by omega, rfl, Lib.hid (by have := HD.out; rw [HGO.out] at this; rw [List.append_assoc]; exact this), Lib.hid HO.out.1, Lib.hid ⟨HO.out.2, HLE.out⟩⟩, by simp only [intOf]; omega⟩
     ·have hzq : (((x.1 : Nat) : Int) == 0) = false := beq_false_of_ne (by omega)
      have hzI : ¬ ((x.1 : Nat) : Int) = 0 := by omega
      have HGO := Lib.hid (show heavyGo b (l.drop i) = x :: heavyGo false (l.drop (i + 1)) by rw [HDR.out, heavyGo, if_neg hl1, if_pos hz])
      have HZ := Lib.hid (show elW [x] = [.int .i64 (x.1 : Nat), .int .i64 (x.2.1 : Nat), .int .i64 (x.2.2 : Nat)] from rfl)
      clear hl1 hl2 hz
      go_wp2_with (at_builtin; refine Hid.out ?_)
      refine Lib.hid ?_
      obtain ⟨i0, hi0, hz0, hz1, hz3⟩ := hHE.out
      refine wpList_app rfl (.tmp 32) (.tmp 37) 28 rfl 59 i0 (.agg #[.int .i64 0, .int .i64 0, .int .i64 0]) 3 24 Tryz.underlying28 hi0 hz0 hz1 hz3 rfl (by decide) rfl HR5.out.1 HR5.out.2.1 [.int .i64 (x.1 : Nat), .int .i64 (x.2.1 : Nat), .int .i64 (x.2.2 : Nat)] rfl rfl (by intro u hu; simp at hu; rcases hu with rfl | rfl | rfl <;> rfl) ?b2 (by decide) ?_
      case b2 => have := HR5.out.2.2; omega
      intro v' w9 hown9 hx9 _
      have HO := Lib.hid (And.intro (show w9.ownsRow W0.heap.size 59 3 v' (D ++ [x]).length (elW (D ++ [x])) by rw [List.length_append, elW_app, HZ.out]; exact hown9) hx9)
      have HLE := Lib.hid (show (D ++ [x]).length ≤ i + 1 by rw [List.length_append]; have := HR5.out.2.2; simp; omega)
      clear hown9 hx9 HR5
      go_wp2_with fail
      exact ⟨⟨i + 1, D ++ [x], false, by simp, by omega, rfl, Lib.hid (by have := HD.out; rw [HGO.out] at this; rw [List.append_assoc]; exact this), Lib.hid HO.out.1, Lib.hid ⟨HO.out.2, HLE.out⟩⟩, by simp only [intOf]; omega⟩
   ·have hI : ¬ ((i : Nat) : Int) < (l.length : Nat) := by omega
    have hd : decide (i < l.length) = false := decide_eq_false hlt
    obtain rfl : i = l.length := by omega
    have HDE := Lib.hid (show D = heavyGo false l by have := HD.out; rw [List.drop_length, heavyGo, List.append_nil] at this; exact this)
    clear hlt hi
    go_wp2_with fail
    have HEE := Lib.hid (show ElRow wr u5 (heavyL true l) by
     have h1 := ElRow.of_own HROW.out
     rw [HDE.out] at h1
     exact h1)
    exact ret_one rfl rfl rfl ⟨_, rfl, HEE.out, HX0.out.trans HXR.out.1⟩
end Go.Proofs.YtokeamebcdhnpaaGreatDoor
end

section
namespace Go.Proofs.YtokeamebcdhnpaaGreatDoor
open Go.RowKit Go.Rp Go.Shelf Go.Maps Go.Cl

theorem c_rdigit (c : Nat) (h1 : 48 ≤ c) (h2 : c < 123) (w : World) : Calls Tryz.prog 30 #[.int .u8 (c : Nat)] w fun e w' => e = .returned (.int .i64 (digK c : Nat)) ∧ w' = w := by
 by_cases h : 97 ≤ c
 ·have hI : (97 : Int) ≤ ((c : Nat) : Int) := by omega
  have hd : decide (97 ≤ c) = true := decide_eq_true h
  have HE := Lib.hid (show ((digK c : Nat) : Int) = ((c : Nat) : Int) - 97 + 10 by unfold digK; rw [if_pos h]; omega)
  have hcI : ((c : Nat) : Int) < 123 := by omega
  clear h
  go_enter Tryz.func30, Tryz.ntmps30
  go_wp2_with fail
  go_ret
  exact ⟨by rw [HE.out]; rfl, rfl⟩
 ·have hI : ¬ (97 : Int) ≤ ((c : Nat) : Int) := by omega
  have hd : decide (97 ≤ c) = false := decide_eq_false h
  have HE := Lib.hid (show ((digK c : Nat) : Int) = ((c : Nat) : Int) - 48 by unfold digK; rw [if_neg h]; omega)
  have hcI : ((c : Nat) : Int) < 123 := by omega
  have hcJ : (48 : Int) ≤ ((c : Nat) : Int) := by omega
  clear h
  go_enter Tryz.func30, Tryz.ntmps30
  go_wp2_with fail
  go_ret
  exact ⟨by rw [HE.out]; rfl, rfl⟩
theorem beg_short {M : List (Int × Bool)} {p : Nat} {rs : List Nat} (h : M.length < p + rs.length) (hp : p ≤ M.length) : begB (M.drop p) rs = false := by
 unfold begB
 refine beq_false_of_ne fun e => ?_
 have := congrArg List.length e
 simp only [List.length_take, List.length_drop, runesM, List.length_map] at this
 omega
theorem beg_get {M : List (Int × Bool)} {p : Nat} {rs : List Nat} (h : p + rs.length ≤ M.length) : begB (M.drop p) rs = true ↔ ∀ i (hi : i < rs.length), M[p + i]'(by omega) = (((rs[i] : Nat) : Int), false) := by
 unfold begB
 rw [beq_iff_eq]
 constructor
 ·intro e i hi
  have h1 := congrArg (fun l => l[i]?) e
  simp only [List.getElem?_take, if_pos hi, List.getElem?_drop, runesM, List.getElem?_map, List.getElem?_eq_getElem hi, Option.map_some] at h1
  rw [List.getElem?_eq_getElem (by omega)] at h1
  exact Option.some.inj h1
 ·intro h1
  refine List.ext_getElem (by simp [runesM]; omega) fun i a b => ?_
  have hi : i < rs.length := by simp [runesM] at b; exact b
  simp only [List.getElem_take, List.getElem_drop, runesM, List.getElem_map]
  exact h1 i hi
set_option maxRecDepth 100000 in
set_option maxHeartbeats 4000000 in
theorem c_rbegins (vm vr : Value) (B : Nat) (T : List UInt8) (ms : List K1.Mk) (rs : List Nat) (p : Nat) (b : Bool) (w : World) (hm : w.ownsRow B 90 4 vm ms.length (K1.mkCells ms)) (hr : RnRow w vr rs) (hp : p < ms.length) (hn : ms.length ≤ 1000000) (hl : rs.length ≤ 1000)
  (hb : begB ((ms.map (K1.rawM T)).drop p) rs = b) :
  Calls Tryz.prog 54 #[vm, .int .i64 (p : Nat), vr] w fun e w' => e = .returned (.bool b) ∧ Ext w w' := by
 obtain ⟨q, cap, rfl⟩ := own_slice hm
 obtain ⟨g, rfl, _, _, hg⟩ := own_at hm (by omega)
 obtain ⟨q2, cap2, rfl, hr2⟩ := hr
 have HG := Lib.hid hg
 have HR := Lib.hid hr2
 have HB := Lib.hid hb
 clear hm hg hr2 hb
 have hpI : ((p : Nat) : Int) < (ms.length : Nat) := by omega
 have hnI : ((ms.length : Nat) : Int) ≤ 1000000 := by omega
 have hlI : ((rs.length : Nat) : Int) ≤ 1000 := by omega
 by_cases hs : ms.length < p + rs.length
 ·have hsI : ((ms.length : Nat) : Int) < (p : Nat) + (rs.length : Nat) := by omega
  have hbf := beg_short (M := ms.map (K1.rawM T)) (p := p) (rs := rs) (by rw [List.length_map]; exact hs) (by rw [List.length_map]; omega)
  rw [HB.out] at hbf
  subst hbf
  clear hs
  go_enter Tryz.func54, Tryz.ntmps54
  go_wp2_with fail
  go_ret
  exact ⟨rfl, Ext.refl _⟩
 ·have hsI : ¬ ((ms.length : Nat) : Int) < (p : Nat) + (rs.length : Nat) := by omega
  have hs2 : p + rs.length ≤ ms.length := Nat.le_of_not_lt hs
  have HS := Lib.hid hs2
  have HBG := Lib.hid (beg_get (M := ms.map (K1.rawM T)) (p := p) (rs := rs) (by rw [List.length_map]; exact hs2))
  rw [HB.out] at HBG
  clear hs
  go_enter Tryz.func54, Tryz.ntmps54
  go_wp2_with fail
  go_loopw [7] (fun iv W => ∃ i : Nat, iv = .int .i64 (i : Nat) ∧ i ≤ rs.length ∧ Hid (∀ j (hj : j < rs.length), j < i → (ms.map (K1.rawM T))[p + j]'(by have := HS.out; rw [List.length_map]; omega) = (((rs[j] : Nat) : Int), false)) ∧ Hid (Ext w W)) (fun iv _ => rs.length + 1 - (intOf iv).toNat)
  case atStart => exact ⟨0, rfl, by omega, Lib.hid (fun j _ h => by omega), Lib.hid (Ext.refl _)⟩
  case round =>
   obtain ⟨i, rfl, hi, HA, HX⟩ := hrel
   by_cases hlt : i < rs.length
   ·have hI : ((i : Nat) : Int) < (rs.length : Nat) := by omega
    have hd : decide (i < rs.length) = true := decide_eq_true hlt
    have hpi : p + i < ms.length := by have := HS.out; omega
    have hpiI : ((p : Nat) : Int) + (i : Nat) < (ms.length : Nat) := by omega
    obtain ⟨g2, rfl, hc2⟩ := HR.out (by intro e; subst e; simp at hlt)
    have d0 := hc2 i hlt
    have d2 := HG.out ((p + i) * 4 + 2) (by omega)
    have d3 := HG.out ((p + i) * 4 + 3) (by omega)
    rw [K1.mkCells_get ms (p + i) hpi 2 (by decide)] at d2
    rw [K1.mkCells_get ms (p + i) hpi 3 (by decide)] at d3
    have hraw : (ms.map (K1.rawM T))[p + i]'(by rw [List.length_map]; exact hpi) = K1.rawM T ms[p + i] := by rw [List.getElem_map]
    obtain ⟨m, hm⟩ : ∃ m, ms[p + i] = m := ⟨_, rfl⟩
    obtain ⟨r, hr⟩ : ∃ r, rs[i] = r := ⟨_, rfl⟩
    rw [hm] at d2 d3 hraw
    rw [hr] at d0
    obtain ⟨at_, wd, mr, bad⟩ := m
    have d2 := HX.out.cell (show w.cell? ⟨g, (p + i) * 4 + 2, none⟩ = some (.int .i32 (mr : Nat)) from d2)
    have d3 := HX.out.cell (show w.cell? ⟨g, (p + i) * 4 + 3, none⟩ = some (.bool bad) from d3)
    have d0 := HX.out.cell d0
    have HRW := Lib.hid (And.intro hraw hr)
    have m0 : ∀ w', EOn (fun _ => True) wr w' → w'.cell? ⟨g2, i, none⟩ = some (.int .i32 (r : Nat)) := fun w' hx => hx.cell trivial d0
    have m2 : ∀ w', EOn (fun _ => True) wr w' → w'.cell? ⟨g, (p + i) * 4 + 2, none⟩ = some (.int .i32 (mr : Nat)) := fun w' hx => hx.cell trivial d2
    have m3 : ∀ w', EOn (fun _ => True) wr w' → w'.cell? ⟨g, (p + i) * 4 + 3, none⟩ = some (.bool bad) := fun w' hx => hx.cell trivial d3
    clear hraw hm hr hc2 d0 d2 d3
    cases bad with
    | true =>
     have hbf : b = false := by
      cases b
      ·rfl
      ·exfalso
       have h1 := HBG.out.1 rfl i hlt
       rw [HRW.out.1] at h1
       have := congrArg Prod.snd h1
       simp [K1.rawM] at this
     have HBF := Lib.hid hbf
     clear hbf
     go_wp2_with fail
     refine wp_lex (fun _ => True) [true, true, true, true, true, true, true, true, true, true, true, true, true, true, true, true, true, true, true, true, true] (by kernel_rfl) (by kernel_rfl) ?_
     repeat first
      | refine wpG_move' ?_
      | refine wpG_assign' ?_
      | refine wpG_val' ?_
      | refine wpG_no' ?_
     refine wpG_end (fun w6 hx6 => wpList_nil (gQ_normal ?_))
     have HX6 := Lib.hid (HX.out.trans hx6)
     clear hx6 m0 m2 m3
     go_wp2_with fail
     go_ret
     exact ⟨by rw [HBF.out]; rfl, HX6.out⟩
    | false =>
     by_cases hne : mr = r
     ·have hq : (((mr : Nat) : Int) != ((r : Nat) : Int)) = false := by simp [hne]
      have HNE := Lib.hid hne
      clear hne
      go_wp2_with fail
      refine wp_lex (fun _ => True) [true, true, true, true, true, true, true, true, true, true, true, true, true, true, true, true, true, true, true, true, true] (by kernel_rfl) (by kernel_rfl) ?_
      repeat first
       | refine wpG_move' ?_
       | refine wpG_assign' ?_
       | refine wpG_val' ?_
       | refine wpG_no' ?_
      refine wpG_end (fun w6 hx6 => wpList_nil (gQ_normal ?_))
      have HX6 := Lib.hid (HX.out.trans hx6)
      clear hx6 m0 m2 m3
      go_wp2_with fail
      refine ⟨⟨i + 1, by simp, by omega, Lib.hid (fun j hj hji => ?_), HX6⟩, by simp only [intOf]; omega⟩
      rcases Nat.lt_succ_iff_lt_or_eq.1 hji with h | h
      ·exact HA.out j hj h
      ·subst h
       rw [HRW.out.1, HRW.out.2, ← HNE.out]
       rfl
     ·have hq : (((mr : Nat) : Int) != ((r : Nat) : Int)) = true := bne_iff_ne.2 (by omega)
      have hbf : b = false := by
       cases b
       ·rfl
       ·exfalso
        have h1 := HBG.out.1 rfl i hlt
        rw [HRW.out.1, HRW.out.2] at h1
        have := congrArg Prod.fst h1
        simp [K1.rawM] at this
        omega
      have HBF := Lib.hid hbf
      clear hbf hne
      go_wp2_with fail
      refine wp_lex (fun _ => True) [true, true, true, true, true, true, true, true, true, true, true, true, true, true, true, true, true, true, true, true, true] (by kernel_rfl) (by kernel_rfl) ?_
      repeat first
       | refine wpG_move' ?_
       | refine wpG_assign' ?_
       | refine wpG_val' ?_
       | refine wpG_no' ?_
      refine wpG_end (fun w6 hx6 => wpList_nil (gQ_normal ?_))
      have HX6 := Lib.hid (HX.out.trans hx6)
      clear hx6 m0 m2 m3
      go_wp2_with fail
      go_ret
      exact ⟨by rw [HBF.out]; rfl, HX6.out⟩
   ·have hI : ¬ ((i : Nat) : Int) < (rs.length : Nat) := by omega
    have hd : decide (i < rs.length) = false := decide_eq_false hlt
    obtain rfl : i = rs.length := by omega
    have hbt : b = true := HBG.out.2 fun j hj => HA.out j hj hj
    have HBT := Lib.hid hbt
    clear hbt
    go_wp2_with fail
    go_ret
    exact ⟨by rw [HBT.out]; rfl, HX.out⟩
end Go.Proofs.YtokeamebcdhnpaaGreatDoor
end
