/-
 The document's key of a text. The document's order of two keys. CollateKeys: every text's elements and keys.
-/
import Derived.Test.YtokeamebcdhnpaaGreatDoorKwEM
import Derived.Test.YtokeamebcdhnpaaGreatDoorColST
import Derived.Test.YtokeamebcdhnpaaGreatDoorColMK
import Derived.Test.YtokeamebcdhnpaaGreatDoorLvW
section
namespace Go.Proofs.YtokeamebcdhnpaaGreatDoor
open Go.RowKit Go.Rp Go.Shelf Go.Maps Go.Cl

theorem elems_few {B : Book} {most : Nat} (hB : ∀ p ∈ B, p.2.length ≤ 2) : ∀ n t, t.length ≤ n → (elems B most t).length ≤ 2 * t.length := by
 intro n
 induction n with
 | zero =>
  intro t h
  obtain rfl : t = [] := List.length_eq_zero_iff.1 (by omega)
  simp [elems_nil]
 | succ n ih =>
  intro t h
  by_cases ht : t = []
  ·subst ht
   simp [elems_nil]
  ·have hl : 0 < t.length := List.length_pos_iff.2 ht
   cases hg : longest B t (min most t.length) with
   | some q =>
    obtain ⟨m, e⟩ := q
    obtain ⟨h1, h2, h3⟩ := longest_some hg
    obtain ⟨p, hp, rfl, _⟩ := lookBk_mem h3
    have h4 := hB p hp
    have h5 := ih (t.drop m) (by rw [List.length_drop]; omega)
    rw [List.length_drop] at h5
    rw [elems_some ht hg, List.length_append]
    omega
   | none =>
    have h1 : 1 ≤ (dec t).2 := wid_pos t
    have h5 := ih (t.drop (dec t).2) (by rw [List.length_drop]; omega)
    rw [List.length_drop] at h5
    rw [elems_none ht hg, List.length_cons]
    omega
theorem bookP_few : bookP.all (fun p => decide (p.2.length ≤ 2)) = true := by kernel_rfl
theorem HoldsFrom.of_own {W : World} {B B' : Nat} {v : Value} {K : List UInt8} (h : W.ownsRow B' 5 1 v K.length (Lib.byteCells K)) (hb : B ≤ B') : HoldsFrom B W v K := by
 refine ⟨(HoldU.of_own h).bytes, fun a n c e => ?_⟩
 rcases h.2 with ⟨e2, _⟩ | ⟨g, cap, cur, e2, h1, _⟩
 ·rw [e2] at e
  cases e
 ·rw [e2] at e
  cases e
  exact Nat.le_trans hb h1
set_option maxRecDepth 100000 in
set_option maxHeartbeats 8000000 in
theorem c_bkKeyO (kb : Nat) (s : ByteArray) (o : Ord) (w : World) (hk : BkAt w kb) (hs : s.size ≤ 200) :
  Calls Tryz.prog 17 #[.pointer (some ⟨kb, 0, none⟩), .string s, ordV o] w fun e w' => ∃ v, e = .returned v ∧ w'.ownsRow w.heap.size 5 1 v (keyT o s).length (Lib.byteCells (keyT o s)) ∧ Ext w w' := by
 by_cases ho : 1 ≤ o.level ∧ o.level ≤ 4
 ·have HCK := Lib.hid (fun w => c_RCheck o w)
  rw [if_pos ho] at HCK
  obtain ⟨vL, tB, hbk, hL, hR⟩ := hk.ex
  have HBK := Lib.hid (And.intro hbk hk)
  have HRT := Lib.hid (fun w' (hx : Ext w w') => c_rForm tB s 0 w' (hR.mono hx) (by omega))
  clear hbk hL hR hk
  go_enter Tryz.func17, Tryz.ntmps17
  go_wp2_with fail
  have hx0 := (Ext.refl w).alloc (.cells #[.int .i64 o.level, .bool o.shift, .bool o.back, .bool o.great] 24)
  have hb0 := World.alloc_heap_new w (.cells #[.int .i64 o.level, .bool o.shift, .bool o.back, .bool o.great] 24)
  generalize w.alloc (.cells #[.int .i64 o.level, .bool o.shift, .bool o.back, .bool o.great] 24) = W0 at hx0 hb0 ⊢
  generalize hob : w.heap.size = ob at hb0 ⊢
  have HB0 := Lib.hid (show ∀ w', Ext W0 w' → w'.cell? ⟨ob, 0, none⟩ = some (.int .i64 o.level) ∧ w'.cell? ⟨ob, 1, none⟩ = some (.bool o.shift) ∧ w'.cell? ⟨ob, 2, none⟩ = some (.bool o.back) ∧ w'.cell? ⟨ob, 3, none⟩ = some (.bool o.great) from fun w' hx => ⟨(cell_blk (hx.blk hb0) 0).trans rfl, (cell_blk (hx.blk hb0) 1).trans rfl, (cell_blk (hx.blk hb0) 2).trans rfl, (cell_blk (hx.blk hb0) 3).trans rfl⟩)
  have HX0 := Lib.hid hx0
  have HOB := Lib.hid hob
  clear hx0 hb0 hob
  refine (HCK.out _).mono ?_
  rintro e w1 ⟨rfl, hx1⟩
  have HX1 := Lib.hid hx1
  have n1 := (HX0.out.trans HX1.out).cell (show w.cell? ⟨kb, 1, none⟩ = some (.pointer (some ⟨tB, 0, none⟩)) from (cell_blk HBK.out.1 1).trans rfl)
  clear hx1
  go_wp2_with fail
  refine (HRT.out w1 (HX0.out.trans HX1.out)).mono ?_
  rintro e w2 ⟨rfl, hx2⟩
  obtain ⟨t, ht⟩ : ∃ t : ByteArray, (⟨(formT 0 s.data.toList).toArray⟩ : ByteArray) = t := ⟨_, rfl⟩
  rw [ht]
  have HX2 := Lib.hid (HX1.out.trans hx2)
  have HTT := Lib.hid (show t.data.toList = formT 0 s.data.toList by rw [← ht])
  have HTS := Lib.hid (show t.size ≤ 20000 by
   have h1 := formT_len 0 s.data.toList
   rw [len_eqC] at h1
   rw [← len_eqC, HTT.out]
   omega)
  clear hx2 ht n1
  go_wp2_with fail
  refine (c_bkElements kb t w2 (HBK.out.2.ext (HX0.out.trans HX2.out)) HTS.out).mono ?_
  rintro e w3 ⟨v3, rfl, hr3, hx3⟩
  rw [← ref_elems] at hr3
  have HX3 := Lib.hid (HX2.out.trans hx3)
  obtain ⟨A, hA⟩ : ∃ x, elems bookP (mostC bookP) t.data.toList = x := ⟨_, rfl⟩
  rw [hA] at hr3
  have HAE := Lib.hid (show elems bookP (mostC bookP) (formT 0 s.data.toList) = A by rw [← HTT.out]; exact hA)
  have HALA := Lib.hid (show A.length ≤ 40000 by
   have h1 := elems_few (B := bookP) (most := mostC bookP) (fun p hp => by
    have h1 := bookP_few
    rw [List.all_eq_true] at h1
    exact of_decide_eq_true (h1 p hp)) _ t.data.toList (Nat.le_refl _)
   rw [hA, len_eqC] at h1
   have := HTS.out
   omega)
  have HOK := Lib.hid (show ∀ e ∈ A, EOk e by rw [← hA]; exact elems_ok linesP_ok.2.2.1 _ _)
  have HR3 := Lib.hid (ElRow.of_own hr3)
  obtain ⟨o0, o1, o2, o3⟩ := HB0.out w3 HX3.out
  clear hr3 hx3 hA
  go_wp2_with fail
  refine (c_kept v3 A o w3 HR3.out (by have := HALA.out; omega)).mono ?_
  rintro e w4 ⟨v4, rfl, hr4, hx4⟩
  have HX4 := Lib.hid (HX3.out.trans hx4)
  have HR3' := Lib.hid (HR3.out.ext hx4)
  have HLO := Lib.hid (show (∀ e ∈ heavyL o.shift A, EOk e) ∧ (heavyL o.shift A).length ≤ 40000 from ⟨fun e he => HOK.out e (heavyL_sub _ _ e he), by
   have h1 : (heavyL o.shift A).length ≤ A.length := heavy_le _ _
   have := HALA.out
   omega⟩)
  obtain ⟨l, hl⟩ : ∃ l, heavyL o.shift A = l := ⟨_, rfl⟩
  rw [hl] at hr4 HLO
  have HHL := Lib.hid hl
  have HR4 := Lib.hid hr4
  obtain ⟨o0, o1, o2, o3⟩ := HB0.out w4 HX4.out
  obtain ⟨p4, c4, rfl, hc4, _⟩ := hr4.opened
  obtain ⟨p3, c3, rfl, hc3, _⟩ := HR3'.out.opened
  clear hx4 HR3 hr4 hl
  obtain ⟨Wb, rfl⟩ : ∃ Wb, Wb = w4 := ⟨_, rfl⟩
  have HC4 := Lib.hid (HR4.out.opened)
  have HOBL := Lib.hid (show ob < Wb.heap.size from cell_lt o0)
  have hHU : Hid (∃ i0, Tryz.prog.info? 5 = some i0 ∧ i0.zero = some (.int .u8 0) ∧ i0.size = 1 ∧ i0.bytes = 1) := by
   obtain ⟨i0, hi, hz0, hz1, hz2⟩ := info_parts info_u8C
   exact ⟨i0, hi, hz0, hz1, hz2⟩
  have hlI : ((l.length : Nat) : Int) ≤ 40000 := by have := HLO.out.2; omega
  go_wp2_with fail
  go_loopw [10, 11] (fun bv iv W => ∃ i : Nat, iv = .int .i64 (i : Nat) ∧ i ≤ l.length ∧ Hid (W.ownsRow Wb.heap.size 5 1 bv (Cl.w3 (l.take i)).flatten.length (Lib.byteCells (Cl.w3 (l.take i)).flatten)) ∧ Hid (Ext Wb W)) (fun _ iv _ => l.length + 1 - (intOf iv).toNat)
  case atStart => exact ⟨0, rfl, by omega, Lib.hid (World.ownsRow_nil _ _ _ _), Lib.hid (Ext.refl _)⟩
  case round =>
   obtain ⟨i, rfl, hi, HRW, HXR⟩ := hrel
   by_cases hlt : i < l.length
   ·have hI : ((i : Nat) : Int) < (l.length : Nat) := by omega
    have hd : decide (i < l.length) = true := decide_eq_true hlt
    obtain ⟨pq, cq, hpe, hcq, hce⟩ := HC4.out
    obtain ⟨g, hge, hcel⟩ := hce (by intro e; subst e; simp at hlt)
    obtain ⟨rfl, -, rfl⟩ := Value.slice.inj hpe
    obtain rfl := hge
    obtain ⟨k0, k1, k2⟩ := hcel i hlt
    have HGL := Lib.hid (show g < Wb.heap.size from cell_lt k0)
    obtain ⟨x, hx⟩ : ∃ x, l[i] = x := ⟨_, rfl⟩
    have HSP := Lib.hid (show l.take (i + 1) = l.take i ++ [x] by rw [List.take_succ_eq_append_getElem hlt, hx])
    rw [hx] at k0 k1 k2
    obtain ⟨x1, x2, x3⟩ := x
    have e0 : wr.cell? ⟨g, i * 3, none⟩ = some (.int .i64 (x1 : Nat)) := HXR.out.cell k0
    have e1 : wr.cell? ⟨g, i * 3 + 1, none⟩ = some (.int .i64 (x2 : Nat)) := HXR.out.cell k1
    have e2 : wr.cell? ⟨g, i * 3 + 2, none⟩ = some (.int .i64 (x3 : Nat)) := HXR.out.cell k2
    have HMEM := Lib.hid (show (x1, x2, x3) ∈ l by rw [← hx]; exact List.getElem_mem hlt)
    clear hcel hx hpe hce hcq k0 k1 k2
    by_cases hz1 : x1 = 0
    ·subst hz1
     have HSE := Lib.hid (show (Cl.w3 (l.take (i + 1))).flatten = (Cl.w3 (l.take i)).flatten by rw [HSP.out, w3_zero _ rfl])
     clear o0 o1 o2 o3
     go_wp2_with fail
     exact ⟨⟨i + 1, by simp, by omega, Lib.hid (by rw [HSE.out]; exact HRW.out), HXR⟩, by simp only [intOf]; omega⟩
    ·have hzI : ¬ ((x1 : Nat) : Int) = 0 := by omega
     have hzq : (((x1 : Nat) : Int) == 0) = false := beq_false_of_ne hzI
     have hzn : (((x1 : Nat) : Int) != 0) = true := bne_iff_ne.2 hzI
     have HSE := Lib.hid (show (Cl.w3 (l.take (i + 1))).flatten = (Cl.w3 (l.take i)).flatten ++ [b8 (x1 / 65536), b8 (x1 / 256), b8 x1] by rw [HSP.out, w3_more _ hz1])
     have HLN := Lib.hid (show (Cl.w3 (l.take i)).flatten.length + 3 ≤ 100000000 by
      have h1 := w3_le (l.take i)
      have h2 := HLO.out.2
      rw [List.length_take] at h1
      omega)
     clear hz1 o0 o1 o2 o3
     go_wp2_with (at_builtin; refine Hid.out ?_)
     refine Lib.hid ?_
     refine wpList_push (v := u10) (u := .slice none 0 0) rfl (.tmp 45) (.tmp 54) rfl rfl HRW.out (World.ownsRow_nil _ _ _ _) (fun j _ h2 => by cases h2) HXR.out [.int .u8 (((x1 : Nat) : Int) / 65536 % 256), .int .u8 (((x1 : Nat) : Int) / 256 % 256), .int .u8 (((x1 : Nat) : Int) % 256)] 3 wr.heap.size rfl rfl rfl (by intro u hu; simp at hu; rcases hu with rfl | rfl | rfl <;> rfl) HLN.out ?_
     intro v' w5 q1 _ _ q4 _
     have HR5 := Lib.hid (And.intro (show w5.ownsRow Wb.heap.size 5 1 v' (Cl.w3 (l.take (i + 1))).flatten.length (Lib.byteCells (Cl.w3 (l.take (i + 1))).flatten) by
      rw [HSE.out, bytes_app, List.length_append, cells3]
      exact q1) q4)
     clear q1 q4 HRW
     go_wp2_with fail
     exact ⟨⟨i + 1, by simp, by omega, Lib.hid HR5.out.1, Lib.hid HR5.out.2⟩, by simp only [intOf]; omega⟩
   ·have hI : ¬ ((i : Nat) : Int) < (l.length : Nat) := by omega
    have hd : decide (i < l.length) = false := decide_eq_false hlt
    obtain rfl : i = l.length := by omega
    rw [List.take_length] at HRW
    have HX5 := Lib.hid (HX4.out.trans HXR.out)
    obtain ⟨o0, o1, o2, o3⟩ := HB0.out wr HX5.out
    have HK := Lib.hid (show keyT o s = keyL bookP (mostC bookP) o (formT 0 s.data.toList) from rfl)
    obtain ⟨K1, hK1⟩ : ∃ x, (Cl.w3 l).flatten = x := ⟨_, rfl⟩
    have hK1l : K1.length ≤ 120000 := by
     have h1 := w3_le l
     have h2 := HLO.out.2
     rw [hK1] at h1
     omega
    rw [hK1] at HRW
    obtain ⟨pb, cb, rfl⟩ := own_slice HRW.out
    clear hlt hi
    by_cases hv2 : 2 ≤ o.level
    ·have hv2d : decide (2 ≤ o.level) = true := decide_eq_true hv2
     go_wp2_with (at_builtin; refine Hid.out ?_)
     refine Lib.hid ?_
     refine wpList_push (v := (.slice pb K1.length cb)) (u := .slice none 0 0) rfl (.tmp 59) (.tmp 60) rfl rfl HRW.out (World.ownsRow_nil _ _ _ _) (fun j _ h2 => by cases h2) HXR.out [.int .u8 0, .int .u8 0] 2 wr.heap.size rfl rfl rfl (by intro u hu; simp at hu; subst hu; rfl) (by omega) ?_
     intro v' w5 q1 _ _ q4 _
     have HRS := Lib.hid (And.intro (show w5.ownsRow Wb.heap.size 5 1 v' (K1 ++ [0, 0]).length (Lib.byteCells (K1 ++ [0, 0])) by
      rw [bytes_app, List.length_append]
      exact q1) q4)
     clear q1 q4 o0 o1 o2 o3
     obtain ⟨P2, hP2⟩ : ∃ x, K1 ++ [0, 0] = x := ⟨_, rfl⟩
     rw [hP2] at HRS
     have hP2l : P2.length ≤ 120002 := by rw [← hP2, List.length_append]; simp; omega
     have HQ := Lib.hid (show ∃ Q : List El, (if o.back = true then l.reverse else l) = Q ∧ Q.length = l.length from ⟨_, rfl, by split <;> simp⟩)
     obtain ⟨Q, hQ, hQl⟩ := HQ.out
     have HQE := Lib.hid (And.intro hQ hQl)
     obtain ⟨o0, o1, o2, o3⟩ := HB0.out w5 (HX4.out.trans HRS.out.2)
     clear hQ hQl HQ HRW HXR HX5
     obtain ⟨W5, rfl⟩ : ∃ x, x = w5 := ⟨_, rfl⟩
     go_wp2_with fail
     go_loopw [10, 13] (fun bv iv W => ∃ i : Nat, iv = .int .i64 (i : Nat) ∧ i ≤ l.length ∧ Hid (W.ownsRow Wb.heap.size 5 1 bv (P2 ++ (wS (Q.take i)).flatten).length (Lib.byteCells (P2 ++ (wS (Q.take i)).flatten))) ∧ Hid (Ext Wb W)) (fun _ iv _ => l.length + 1 - (intOf iv).toNat)
     case atStart => exact ⟨0, rfl, by omega, Lib.hid (by rw [List.take_zero]; show W5.ownsRow _ _ _ _ (P2 ++ []).length (Lib.byteCells (P2 ++ [])); rw [List.append_nil]; exact HRS.out.1), Lib.hid HRS.out.2⟩
     case round =>
      clear HRS
      obtain ⟨i, rfl, hi, HRW, HXR⟩ := hrel
      by_cases hlt : i < l.length
      ·have hI : ((i : Nat) : Int) < (l.length : Nat) := by omega
       have hd : decide (i < l.length) = true := decide_eq_true hlt
       obtain ⟨pq, cq, hpe, hcq, hce⟩ := HC4.out
       obtain ⟨g, hge, hcel⟩ := hce (by intro e; subst e; simp at hlt)
       obtain ⟨rfl, -, rfl⟩ := Value.slice.inj hpe
       obtain rfl := hge
       have hltQ : i < Q.length := by rw [HQE.out.2]; exact hlt
       obtain ⟨x, hx⟩ : ∃ x, Q[i] = x := ⟨_, rfl⟩
       have HSP := Lib.hid (show Q.take (i + 1) = Q.take i ++ [x] by rw [List.take_succ_eq_append_getElem hltQ, hx])
       have HLN := Lib.hid (show (P2 ++ (wS (Q.take i)).flatten).length + 2 ≤ 100000000 by
        have h1 := wS_le (Q.take i)
        rw [List.length_take] at h1
        rw [List.length_append]
        omega)
       obtain ⟨o0, o1, o2, o3⟩ := HB0.out wr (HX4.out.trans HXR.out)
       cases hbk : o.back with
       | false =>
        rw [hbk] at o2
        have hxl : l[i] = x := by
         have h1 := HQE.out.1
         rw [hbk, if_neg (by simp)] at h1
         subst h1
         exact hx
        obtain ⟨_, k1, _⟩ := hcel i hlt
        rw [hxl] at k1
        obtain ⟨x1, x2, x3⟩ := x
        have e1 : wr.cell? ⟨g, i * 3 + 1, none⟩ = some (.int .i64 (x2 : Nat)) := HXR.out.cell k1
        clear hcel hx hpe hce hcq k1 hxl
        by_cases hz2 : x2 = 0
        ·subst hz2
         have HSE := Lib.hid (show P2 ++ (wS (Q.take (i + 1))).flatten = P2 ++ (wS (Q.take i)).flatten by rw [HSP.out, wS_zero _ rfl])
         go_wp2_with fail
         exact ⟨⟨i + 1, by simp, by omega, Lib.hid (by rw [HSE.out]; exact HRW.out), HXR⟩, by simp only [intOf]; omega⟩
        ·have hzI : ¬ ((x2 : Nat) : Int) = 0 := by omega
         have hzq : (((x2 : Nat) : Int) == 0) = false := beq_false_of_ne hzI
         have hzn : (((x2 : Nat) : Int) != 0) = true := bne_iff_ne.2 hzI
         have HSE := Lib.hid (show P2 ++ (wS (Q.take (i + 1))).flatten = (P2 ++ (wS (Q.take i)).flatten) ++ [b8 (x2 / 256), b8 x2] by rw [HSP.out, wS_more _ hz2, List.append_assoc])
         clear hz2
         go_wp2_with (at_builtin; refine Hid.out ?_)
         refine Lib.hid ?_
         refine wpList_push (v := u10) (u := .slice none 0 0) rfl (.tmp 86) (.tmp 92) rfl rfl HRW.out (World.ownsRow_nil _ _ _ _) (fun j _ h2 => by cases h2) HXR.out [.int .u8 (((x2 : Nat) : Int) / 256 % 256), .int .u8 (((x2 : Nat) : Int) % 256)] 2 wr.heap.size rfl rfl rfl (by intro u hu; simp at hu; rcases hu with rfl | rfl <;> rfl) HLN.out ?_
         intro v' w5 q1 _ _ q4 _
         have HR5 := Lib.hid (And.intro (show w5.ownsRow Wb.heap.size 5 1 v' (P2 ++ (wS (Q.take (i + 1))).flatten).length (Lib.byteCells (P2 ++ (wS (Q.take (i + 1))).flatten)) by
          rw [HSE.out, bytes_app, List.length_append, cells2]
          exact q1) q4)
         clear q1 q4 HRW
         go_wp2_with fail
         exact ⟨⟨i + 1, by simp, by omega, Lib.hid HR5.out.1, Lib.hid HR5.out.2⟩, by simp only [intOf]; omega⟩
       | true =>
        rw [hbk] at o2
        obtain ⟨j, hj⟩ : ∃ j, l.length - 1 - i = j := ⟨_, rfl⟩
        have hjl : j < l.length := by omega
        have hxl : l[j] = x := by
         have h1 := HQE.out.1
         rw [hbk, if_pos rfl] at h1
         subst h1
         rw [List.getElem_reverse] at hx
         simp only [hj] at hx
         exact hx
        have hjI : ((l.length : Nat) : Int) - 1 - (i : Nat) = (j : Nat) := by omega
        have hjJ : ((j : Nat) : Int) < (l.length : Nat) := by omega
        obtain ⟨_, k1, _⟩ := hcel j hjl
        obtain ⟨_, k2, _⟩ := hcel i hlt
        rw [hxl] at k1
        obtain ⟨x1, x2, x3⟩ := x
        have e1 : wr.cell? ⟨g, j * 3 + 1, none⟩ = some (.int .i64 (x2 : Nat)) := HXR.out.cell k1
        have e2 := HXR.out.cell k2
        clear hcel hx hpe hce hcq k1 k2 hxl hj
        by_cases hz2 : x2 = 0
        ·subst hz2
         have HSE := Lib.hid (show P2 ++ (wS (Q.take (i + 1))).flatten = P2 ++ (wS (Q.take i)).flatten by rw [HSP.out, wS_zero _ rfl])
         go_wp2_with fail
         exact ⟨⟨i + 1, by simp, by omega, Lib.hid (by rw [HSE.out]; exact HRW.out), HXR⟩, by simp only [intOf]; omega⟩
        ·have hzI : ¬ ((x2 : Nat) : Int) = 0 := by omega
         have hzq : (((x2 : Nat) : Int) == 0) = false := beq_false_of_ne hzI
         have hzn : (((x2 : Nat) : Int) != 0) = true := bne_iff_ne.2 hzI
         have HSE := Lib.hid (show P2 ++ (wS (Q.take (i + 1))).flatten = (P2 ++ (wS (Q.take i)).flatten) ++ [b8 (x2 / 256), b8 x2] by rw [HSP.out, wS_more _ hz2, List.append_assoc])
         clear hz2
         go_wp2_with (at_builtin; refine Hid.out ?_)
         refine Lib.hid ?_
         refine wpList_push (v := u10) (u := .slice none 0 0) rfl (.tmp 86) (.tmp 92) rfl rfl HRW.out (World.ownsRow_nil _ _ _ _) (fun j _ h2 => by cases h2) HXR.out [.int .u8 (((x2 : Nat) : Int) / 256 % 256), .int .u8 (((x2 : Nat) : Int) % 256)] 2 wr.heap.size rfl rfl rfl (by intro u hu; simp at hu; rcases hu with rfl | rfl <;> rfl) HLN.out ?_
         intro v' w5 q1 _ _ q4 _
         have HR5 := Lib.hid (And.intro (show w5.ownsRow Wb.heap.size 5 1 v' (P2 ++ (wS (Q.take (i + 1))).flatten).length (Lib.byteCells (P2 ++ (wS (Q.take (i + 1))).flatten)) by
          rw [HSE.out, bytes_app, List.length_append, cells2]
          exact q1) q4)
         clear q1 q4 HRW
         go_wp2_with fail
         exact ⟨⟨i + 1, by simp, by omega, Lib.hid HR5.out.1, Lib.hid HR5.out.2⟩, by simp only [intOf]; omega⟩
      ·have hI : ¬ ((i : Nat) : Int) < (l.length : Nat) := by omega
       have hd : decide (i < l.length) = false := decide_eq_false hlt
       obtain rfl : i = l.length := by omega
       rw [show Q.take l.length = Q by rw [← HQE.out.2, List.take_length]] at HRW
       have HX5 := Lib.hid (HX4.out.trans HXR.out)
       obtain ⟨o0, o1, o2, o3⟩ := HB0.out wr HX5.out
       obtain ⟨K2, hK2⟩ : ∃ x, P2 ++ (wS Q).flatten = x := ⟨_, rfl⟩
       have hK2l : K2.length ≤ 300000 := by
        have h1 := wS_le Q
        have h2 := HLO.out.2
        have h3 := HQE.out.2
        rw [← hK2, List.length_append]
        omega
       rw [hK2] at HRW
       obtain ⟨pb2, cb2, rfl⟩ := own_slice HRW.out
       clear hlt hi
       by_cases hv3 : 3 ≤ o.level
       ·have hv3d : decide (3 ≤ o.level) = true := decide_eq_true hv3
        clear hv2d
        go_wp2_with (at_builtin; refine Hid.out ?_)
        refine Lib.hid ?_
        refine wpList_push (v := (.slice pb2 K2.length cb2)) (u := .slice none 0 0) rfl (.tmp 97) (.tmp 98) rfl rfl HRW.out (World.ownsRow_nil _ _ _ _) (fun j _ h2 => by cases h2) HXR.out [.int .u8 0, .int .u8 0] 2 wr.heap.size rfl rfl rfl (by intro u hu; simp at hu; subst hu; rfl) (by omega) ?_
        intro v' w5 q1 _ _ q4 _
        have HRS := Lib.hid (And.intro (show w5.ownsRow Wb.heap.size 5 1 v' (K2 ++ [0, 0]).length (Lib.byteCells (K2 ++ [0, 0])) by
         rw [bytes_app, List.length_append]
         exact q1) q4)
        clear q1 q4 o0 o1 o2 o3
        obtain ⟨P3, hP3⟩ : ∃ x, K2 ++ [0, 0] = x := ⟨_, rfl⟩
        rw [hP3] at HRS
        have hP3l : P3.length ≤ 300002 := by rw [← hP3, List.length_append]; simp; omega
        obtain ⟨o0, o1, o2, o3⟩ := HB0.out w5 (HX4.out.trans HRS.out.2)
        clear HRW HXR HX5
        obtain ⟨W6, rfl⟩ : ∃ x, x = w5 := ⟨_, rfl⟩
        go_wp2_with fail
        go_loopw [10, 15] (fun bv iv W => ∃ i : Nat, iv = .int .i64 (i : Nat) ∧ i ≤ l.length ∧ Hid (W.ownsRow Wb.heap.size 5 1 bv (P3 ++ (wT o.great (l.take i)).flatten).length (Lib.byteCells (P3 ++ (wT o.great (l.take i)).flatten))) ∧ Hid (Ext Wb W)) (fun _ iv _ => l.length + 1 - (intOf iv).toNat)
        case atStart => exact ⟨0, rfl, by omega, Lib.hid (by rw [List.take_zero]; show W6.ownsRow _ _ _ _ (P3 ++ []).length (Lib.byteCells (P3 ++ [])); rw [List.append_nil]; exact HRS.out.1), Lib.hid HRS.out.2⟩
        case round =>
         clear HRS
         obtain ⟨i, rfl, hi, HRW, HXR⟩ := hrel
         by_cases hlt : i < l.length
         ·have hI : ((i : Nat) : Int) < (l.length : Nat) := by omega
          have hd : decide (i < l.length) = true := decide_eq_true hlt
          obtain ⟨pq, cq, hpe, hcq, hce⟩ := HC4.out
          obtain ⟨g, hge, hcel⟩ := hce (by intro e; subst e; simp at hlt)
          obtain ⟨rfl, -, rfl⟩ := Value.slice.inj hpe
          obtain rfl := hge
          obtain ⟨k0, k1, k2⟩ := hcel i hlt
          have HGL := Lib.hid (show g < Wb.heap.size from cell_lt k0)
          obtain ⟨x, hx⟩ : ∃ x, l[i] = x := ⟨_, rfl⟩
          have HSP := Lib.hid (show l.take (i + 1) = l.take i ++ [x] by rw [List.take_succ_eq_append_getElem hlt, hx])
          rw [hx] at k0 k1 k2
          obtain ⟨x1, x2, x3⟩ := x
          have e0 : wr.cell? ⟨g, i * 3, none⟩ = some (.int .i64 (x1 : Nat)) := HXR.out.cell k0
          have e1 : wr.cell? ⟨g, i * 3 + 1, none⟩ = some (.int .i64 (x2 : Nat)) := HXR.out.cell k1
          have e2 : wr.cell? ⟨g, i * 3 + 2, none⟩ = some (.int .i64 (x3 : Nat)) := HXR.out.cell k2
          have HMEM := Lib.hid (show (x1, x2, x3) ∈ l by rw [← hx]; exact List.getElem_mem hlt)
          clear hcel hx hpe hce hcq k0 k1 k2
          obtain ⟨o0, o1, o2, o3⟩ := HB0.out wr (HX4.out.trans HXR.out)
          have HLN := Lib.hid (show (P3 ++ (wT o.great (l.take i)).flatten).length + 1 ≤ 100000000 by
           have h1 := wT_le o.great (l.take i)
           have h2 := HLO.out.2
           rw [List.length_take] at h1
           rw [List.length_append]
           omega)
          by_cases hz3 : x3 = 0
          ·subst hz3
           have HSE := Lib.hid (show P3 ++ (wT o.great (l.take (i + 1))).flatten = P3 ++ (wT o.great (l.take i)).flatten by rw [HSP.out, wT_zero _ _ rfl])
           go_wp2_with fail
           exact ⟨⟨i + 1, by simp, by omega, Lib.hid (by rw [HSE.out]; exact HRW.out), HXR⟩, by simp only [intOf]; omega⟩
          ·have hzI : ¬ ((x3 : Nat) : Int) = 0 := by omega
           have hzq : (((x3 : Nat) : Int) == 0) = false := beq_false_of_ne hzI
           have hzn : (((x3 : Nat) : Int) != 0) = true := bne_iff_ne.2 hzI
           have HSE := Lib.hid (show P3 ++ (wT o.great (l.take (i + 1))).flatten = (P3 ++ (wT o.great (l.take i)).flatten) ++ [b8 (thirdN o.great x3)] by rw [HSP.out, wT_more _ _ hz3, List.append_assoc])
           have HTH := Lib.hid (fun w => (c_rthird x3 o.great (HLO.out.1 _ HMEM.out).2.2 w).mono (fun e w' h => And.intro h.1 (show Ext w w' by rw [h.2]; exact Ext.refl _)))
           have HTL := Lib.hid (thirdN_lt o.great x3 (HLO.out.1 _ HMEM.out).2.2)
           clear hz3
           go_wp2_with fail
           have m2 : ∀ w', EOn (fun a => a.block = g ∨ a.block = ob) wr w' → w'.cell? ⟨g, i * 3 + 2, none⟩ = some (.int .i64 (x3 : Nat)) := fun w' hx => hx.cell (.inl rfl) e2
           have mo : ∀ w', EOn (fun a => a.block = g ∨ a.block = ob) wr w' → w'.cell? ⟨ob, 3, none⟩ = some (.bool o.great) := fun w' hx => hx.cell (.inr rfl) o3
           refine wp_lexN ((fun a => a.block = g ∨ a.block = ob)) [true, true, true, true, true, true, true, true, true, false, false] (by kernel_rfl) (by kernel_rfl) ?_
           repeat first
            | refine wpG_move' ?_
            | refine wpG_assign' ?_
            | refine wpG_val' ?_
            | refine wpG_no' ?_
           refine wpG_call (by rfl) (fun w' hx => (by go_simp <;> first | exact rfl | exact ⟨rfl, rfl⟩)) (fun w' hx => HTH.out w') (by simp only [Act.put, List.setIfInBounds_toArray, List.set_cons_succ, List.set_cons_zero]; rfl) ?_
           refine wpG_do (by rfl) (fun w6 hx6 K hK => ?_)
           go_wp2_with fail
           refine ⟨EOn.of_ext ((Ext.refl w6).alloc _), ?_⟩
           clear m2 mo
           have hx7 := hx6.alloc (.cells #[.int .u8 (thirdN o.great x3 : Nat)] 5)
           have hnew := World.alloc_heap_new w6 (.cells #[.int .u8 (thirdN o.great x3 : Nat)] 5)
           generalize w6.alloc (.cells #[.int .u8 (thirdN o.great x3 : Nat)] 5) = w7 at hx7 hnew ⊢
           generalize w6.heap.size = gb at hnew ⊢
           obtain ⟨i0, hi0, hz0, hz1, hz3⟩ := hHU.out
           have HR7 := Lib.hid (And.intro (ownsRow_ext HRW.out hx7) (HXR.out.trans hx7))
           refine wpG_push rfl (fun a w h => by cases h.1) (.tmp 112) (.tmp 121) 34 rfl 5 i0 (.int .u8 0) 1 1 Tryz.underlying34 hi0 hz0 hz1 hz3 rfl (by decide) rfl HR7.out.1 HR7.out.2.sz [.int .u8 (thirdN o.great x3 : Nat)] gb 0 1 1 rfl rfl (fun j hj => by
            match j, hj with
            | 0, _ => exact (cell_blk hnew 0).trans rfl) (by intro u hu; simp at hu; subst hu; rfl) (fun ad hS eq => by
            have h1 := (HR7.out.1.lt _ eq).1
            have h2 := HGL.out
            have h3 := HOBL.out
            rcases hS with hS | hS <;> omega) HLN.out (by decide) ?_
           intro v2 w8 w9 hx8 g1 g2 g4
           have HR9 := Lib.hid (And.intro (show w9.ownsRow Wb.heap.size 5 1 v2 (P3 ++ (wT o.great (l.take (i + 1))).flatten).length (Lib.byteCells (P3 ++ (wT o.great (l.take (i + 1))).flatten)) by
            rw [HSE.out, bytes_app, List.length_append, cells1 _ HTL.out]
            exact g1) (show Ext Wb w9 from Below.grown (HR7.out.2.trans hx8) g2 (HR7.out.2.trans hx8).sz (fun k e => (HR7.out.1.lt k e).1)))
           clear g1 g2 g4 hx6 hx7 hx8 hnew HR7 HRW o0 o1 o2 o3
           refine wpG_end (fun w10 hx10 => ?_)
           have HR10 := Lib.hid (And.intro (ownsRow_ext HR9.out.1 hx10) (HR9.out.2.trans hx10))
           clear hx10 HR9
           go_wp2_with fail
           refine gQ_normal ⟨rfl, ?_⟩
           go_wp2_with fail
           exact ⟨⟨i + 1, by simp, by omega, Lib.hid HR10.out.1, Lib.hid HR10.out.2⟩, by simp only [intOf]; omega⟩
         ·have hI : ¬ ((i : Nat) : Int) < (l.length : Nat) := by omega
          have hd : decide (i < l.length) = false := decide_eq_false hlt
          obtain rfl : i = l.length := by omega
          rw [List.take_length] at HRW
          have HX5 := Lib.hid (HX4.out.trans HXR.out)
          obtain ⟨o0, o1, o2, o3⟩ := HB0.out wr HX5.out
          obtain ⟨K3, hK3⟩ : ∃ x, P3 ++ (wT o.great l).flatten = x := ⟨_, rfl⟩
          have hK3l : K3.length ≤ 400000 := by
           have h1 := wT_le o.great l
           have h2 := HLO.out.2
           rw [← hK3, List.length_append]
           omega
          rw [hK3] at HRW
          obtain ⟨pb3, cb3, rfl⟩ := own_slice HRW.out
          clear hlt hi
          cases hsh : o.shift with
          | false =>
           rw [hsh] at o1
           have HK4 := Lib.hid (show K3 = (Cl.w3 (heavyL o.shift A)).flatten ++ [0, 0] ++ (wS (if o.back = true then (heavyL o.shift A).reverse else heavyL o.shift A)).flatten ++ [0, 0] ++ (wT o.great (heavyL o.shift A)).flatten by
            rw [← hK3, ← hP3, ← hK2, ← hP2, ← hK1, ← HQE.out.1, ← HHL.out])
           have hK4l : K3.length ≤ 500000 := by omega
           by_cases hv4 : 4 ≤ o.level
           ·have hv4d : decide (4 ≤ o.level) = true := decide_eq_true hv4
            clear hv3d
            go_wp2_with (at_builtin; refine Hid.out ?_)
            refine Lib.hid ?_
            refine wpList_push (v := .slice pb3 K3.length cb3) (u := .slice none 0 0) rfl (.tmp 172) (.tmp 173) rfl rfl HRW.out (World.ownsRow_nil _ _ _ _) (fun j _ h2 => by cases h2) HXR.out [.int .u8 0, .int .u8 0] 2 wr.heap.size rfl rfl rfl (by intro u hu; simp at hu; subst hu; rfl) (by omega) ?_
            intro v' w5 q1 _ _ q4 _
            have HRS := Lib.hid (And.intro (show w5.ownsRow Wb.heap.size 5 1 v' (K3 ++ [0, 0]).length (Lib.byteCells (K3 ++ [0, 0])) by
             rw [bytes_app, List.length_append]
             exact q1) q4)
            clear q1 q4 o0 o1 o2 o3
            obtain ⟨P5, hP5⟩ : ∃ x, K3 ++ [0, 0] = x := ⟨_, rfl⟩
            rw [hP5] at HRS
            have hP5l : P5.length ≤ 500002 := by rw [← hP5, List.length_append]; simp; omega
            obtain ⟨i0, hi0, hz0, hz1, hz3⟩ := hHU.out
            go_wp2_with (at_builtin; refine Hid.out ?_)
            refine Lib.hid ?_
            refine Lib.wpList_append_own_string _ rfl (.tmp 175) (.tmp 176) 34 9 rfl Wb.heap.size 5 i0 Tryz.underlying34 Tryz.underlying9 hi0 hz0 hz1 hz3 _ _ _ rfl HRS.out.1 t rfl (by unfold maxLen; have := HTS.out; omega) (by have := HTS.out; omega) HRS.out.2.sz ?_
            intro v6 w6 g1 g2 _
            have HR6 := Lib.hid (And.intro (show w6.ownsRow Wb.heap.size 5 1 v6 (P5 ++ t.data.toList).length (Lib.byteCells (P5 ++ t.data.toList)) by
             rw [bytes_app, List.length_append, len_eqC]
             simpa [Lib.byteCells, Lib.strCells_eq] using g1) (show Ext Wb w6 from Below.grown HRS.out.2 g2 HRS.out.2.sz (fun k e => (HRS.out.1.lt k e).1)))
            clear g1 g2 HRS HRW HXR
            go_wp2_with fail
            refine ret_one rfl rfl rfl ⟨_, rfl, ?_, HX0.out.trans (HX4.out.trans HR6.out.2)⟩
            have hvq : o.level = 4 := by omega
            have hkk : keyT o s = P5 ++ t.data.toList := by
             rw [HK.out, ← hP5, HK4.out, HTT.out, ← HAE.out]
             unfold keyL secs
             rw [if_pos ho, hvq, hsh]
             simp [joinS]
            rw [hkk]
            exact own_mono HR6.out.1 (HX0.out.trans HX4.out).sz
           ·have hvq : o.level = 3 := by omega
            rw [hvq] at o0
            clear hv3d hv3 hv4
            go_wp2_with fail
            refine ret_one rfl rfl rfl ⟨_, rfl, ?_, HX0.out.trans HX5.out⟩
            have hkk : keyT o s = K3 := by
             rw [HK.out, HK4.out, ← HAE.out]
             unfold keyL secs
             rw [if_pos ho, hvq, hsh]
             simp [joinS]
            rw [hkk]
            exact own_mono HRW.out (HX0.out.trans HX4.out).sz
          | true =>
           rw [hsh] at o1
           go_wp2_with (at_builtin; refine Hid.out ?_)
           refine Lib.hid ?_
           refine wpList_push (v := (.slice pb3 K3.length cb3)) (u := .slice none 0 0) rfl (.tmp 130) (.tmp 131) rfl rfl HRW.out (World.ownsRow_nil _ _ _ _) (fun j _ h2 => by cases h2) HXR.out [.int .u8 0, .int .u8 0] 2 wr.heap.size rfl rfl rfl (by intro u hu; simp at hu; subst hu; rfl) (by omega) ?_
           intro v' w5 q1 _ _ q4 _
           have HRS := Lib.hid (And.intro (show w5.ownsRow Wb.heap.size 5 1 v' (K3 ++ [0, 0]).length (Lib.byteCells (K3 ++ [0, 0])) by
            rw [bytes_app, List.length_append]
            exact q1) q4)
           clear q1 q4 o0 o1 o2 o3
           obtain ⟨P4, hP4⟩ : ∃ x, K3 ++ [0, 0] = x := ⟨_, rfl⟩
           rw [hP4] at HRS
           have hP4l : P4.length ≤ 400002 := by rw [← hP4, List.length_append]; simp; omega
           obtain ⟨o0, o1, o2, o3⟩ := HB0.out w5 (HX4.out.trans HRS.out.2)
           clear HRW HXR HX5
           obtain ⟨W7, rfl⟩ : ∃ x, x = w5 := ⟨_, rfl⟩
           have hAI : ((A.length : Nat) : Int) ≤ 40000 := by have := HALA.out; omega
           have HC3 := Lib.hid (HR3'.out.opened)
           go_wp2_with fail
           go_loopw [10, 16] (fun bv iv W => ∃ i : Nat, iv = .int .i64 (i : Nat) ∧ i ≤ A.length ∧ Hid (W.ownsRow Wb.heap.size 5 1 bv (P4 ++ (wF (A.take i)).flatten).length (Lib.byteCells (P4 ++ (wF (A.take i)).flatten))) ∧ Hid (Ext Wb W)) (fun _ iv _ => A.length + 1 - (intOf iv).toNat)
           case atStart => exact ⟨0, rfl, by omega, Lib.hid (by rw [List.take_zero]; show W7.ownsRow _ _ _ _ (P4 ++ []).length (Lib.byteCells (P4 ++ [])); rw [List.append_nil]; exact HRS.out.1), Lib.hid HRS.out.2⟩
           case round =>
            clear HRS
            obtain ⟨i, rfl, hi, HRW, HXR⟩ := hrel
            by_cases hlt : i < A.length
            ·have hI : ((i : Nat) : Int) < (A.length : Nat) := by omega
             have hd : decide (i < A.length) = true := decide_eq_true hlt
             obtain ⟨pq, cq, hpe, hcq, hce⟩ := HC3.out
             obtain ⟨g, hge, hcel⟩ := hce (by intro e; subst e; simp at hlt)
             obtain ⟨rfl, -, rfl⟩ := Value.slice.inj hpe
             obtain rfl := hge
             obtain ⟨k0, k1, k2⟩ := hcel i hlt
             have HGL := Lib.hid (show g < Wb.heap.size from cell_lt k0)
             obtain ⟨x, hx⟩ : ∃ x, A[i] = x := ⟨_, rfl⟩
             have HSP := Lib.hid (show A.take (i + 1) = A.take i ++ [x] by rw [List.take_succ_eq_append_getElem hlt, hx])
             rw [hx] at k0 k1 k2
             obtain ⟨x1, x2, x3⟩ := x
             have e0 : wr.cell? ⟨g, i * 3, none⟩ = some (.int .i64 (x1 : Nat)) := HXR.out.cell k0
             have e1 : wr.cell? ⟨g, i * 3 + 1, none⟩ = some (.int .i64 (x2 : Nat)) := HXR.out.cell k1
             have e2 : wr.cell? ⟨g, i * 3 + 2, none⟩ = some (.int .i64 (x3 : Nat)) := HXR.out.cell k2
             have HMEM := Lib.hid (show (x1, x2, x3) ∈ A by rw [← hx]; exact List.getElem_mem hlt)
             clear hcel hx hpe hce hcq k0 k1 k2
             have HLN := Lib.hid (show (P4 ++ (wF (A.take i)).flatten).length + 2 ≤ 100000000 by
              have h1 := wF_le (A.take i)
              have h2 := HALA.out
              rw [List.length_take] at h1
              rw [List.length_append]
              omega)
             clear o0 o1 o2 o3
             go_wp2_with fail
             refine (c_shifted (x1, x2, x3) wr).mono ?_
             rintro e w5 ⟨rfl, hx5⟩
             have f0 : w5.cell? ⟨g, i * 3, none⟩ = some (.int .i64 (x1 : Nat)) := hx5.cell e0
             have HR5 := Lib.hid (And.intro (ownsRow_ext HRW.out hx5) (HXR.out.trans hx5))
             clear hx5 e0 e1 e2 HRW HXR
             by_cases hl1 : lightE (x1, x2, x3) = true
             ·have HSE := Lib.hid (show P4 ++ (wF (A.take (i + 1))).flatten = (P4 ++ (wF (A.take i)).flatten) ++ [b8 (x1 / 256), b8 x1] by rw [HSP.out, wF_light _ hl1, List.append_assoc])
              rw [hl1]
              clear hl1
              go_wp2_with fail
              have m0 : ∀ w', EOn (fun a => a.block = g) w5 w' → w'.cell? ⟨g, i * 3, none⟩ = some (.int .i64 (x1 : Nat)) := fun w' hx => hx.cell rfl f0
              refine wp_lexN ((fun a => a.block = g)) [true, true, true, true, true, true, true, true, true, true, true, true, true, true, false, false] (by kernel_rfl) (by kernel_rfl) ?_
              repeat first
               | refine wpG_move' ?_
               | refine wpG_assign' ?_
               | refine wpG_val' ?_
               | refine wpG_no' ?_
              refine wpG_do (by rfl) (fun w6 hx6 K hK => ?_)
              go_wp2_with fail
              refine ⟨EOn.of_ext ((Ext.refl w6).alloc _), ?_⟩
              clear m0
              have hx7 := hx6.alloc (.cells #[.int .u8 (((x1 : Nat) : Int) / 256 % 256), .int .u8 (((x1 : Nat) : Int) % 256)] 5)
              have hnew := World.alloc_heap_new w6 (.cells #[.int .u8 (((x1 : Nat) : Int) / 256 % 256), .int .u8 (((x1 : Nat) : Int) % 256)] 5)
              generalize w6.alloc (.cells #[.int .u8 (((x1 : Nat) : Int) / 256 % 256), .int .u8 (((x1 : Nat) : Int) % 256)] 5) = w7 at hx7 hnew ⊢
              generalize w6.heap.size = gb at hnew ⊢
              obtain ⟨i0, hi0, hz0, hz1, hz3⟩ := hHU.out
              have HR7 := Lib.hid (And.intro (ownsRow_ext HR5.out.1 hx7) (HR5.out.2.trans hx7))
              refine wpG_push rfl (fun a w h => by cases h.1) (.tmp 144) (.tmp 158) 34 rfl 5 i0 (.int .u8 0) 1 1 Tryz.underlying34 hi0 hz0 hz1 hz3 rfl (by decide) rfl HR7.out.1 HR7.out.2.sz [.int .u8 (((x1 : Nat) : Int) / 256 % 256), .int .u8 (((x1 : Nat) : Int) % 256)] gb 0 2 2 rfl rfl (fun j hj => by
               match j, hj with
               | 0, _ => exact (cell_blk hnew 0).trans rfl
               | 1, _ => exact (cell_blk hnew 1).trans rfl) (by intro u hu; simp at hu; rcases hu with rfl | rfl <;> rfl) (fun ad hS eq => by
               have h1 := (HR7.out.1.lt _ eq).1
               have h2 := HGL.out
               have h3 : ad.block = g := hS
               omega) HLN.out (by decide) ?_
              intro v2 w8 w9 hx8 g1 g2 g4
              have HR9 := Lib.hid (And.intro (show w9.ownsRow Wb.heap.size 5 1 v2 (P4 ++ (wF (A.take (i + 1))).flatten).length (Lib.byteCells (P4 ++ (wF (A.take (i + 1))).flatten)) by
               rw [HSE.out, bytes_app, List.length_append, cells2]
               exact g1) (show Ext Wb w9 from Below.grown (HR7.out.2.trans hx8) g2 (HR7.out.2.trans hx8).sz (fun k e => (HR7.out.1.lt k e).1)))
              clear g1 g2 g4 hx6 hx7 hx8 hnew HR7 HR5
              refine wpG_end (fun w10 hx10 => ?_)
              have HR10 := Lib.hid (And.intro (ownsRow_ext HR9.out.1 hx10) (HR9.out.2.trans hx10))
              clear hx10 HR9
              go_wp2_with fail
              refine gQ_normal ⟨rfl, ?_⟩
              go_wp2_with fail
              exact ⟨⟨i + 1, by simp, by omega, Lib.hid HR10.out.1, Lib.hid HR10.out.2⟩, by simp only [intOf]; omega⟩
             ·have hl2 : lightE (x1, x2, x3) = false := by simpa using hl1
              rw [hl2]
              clear hl1
              by_cases hz1 : x1 = 0
              ·subst hz1
               have HSE := Lib.hid (show P4 ++ (wF (A.take (i + 1))).flatten = P4 ++ (wF (A.take i)).flatten by rw [HSP.out, wF_zero _ hl2 rfl])
               clear hl2
               go_wp2_with fail
               exact ⟨⟨i + 1, by simp, by omega, Lib.hid (by rw [HSE.out]; exact HR5.out.1), Lib.hid HR5.out.2⟩, by simp only [intOf]; omega⟩
              ·have hzI : ¬ ((x1 : Nat) : Int) = 0 := by omega
               have hzq : (((x1 : Nat) : Int) == 0) = false := beq_false_of_ne hzI
               have hzn : (((x1 : Nat) : Int) != 0) = true := bne_iff_ne.2 hzI
               have HSE := Lib.hid (show P4 ++ (wF (A.take (i + 1))).flatten = (P4 ++ (wF (A.take i)).flatten) ++ [255, 255] by rw [HSP.out, wF_more _ hl2 hz1, List.append_assoc])
               clear hl2 hz1
               go_wp2_with (at_builtin; refine Hid.out ?_)
               refine Lib.hid ?_
               refine wpList_push (v := u10) (u := .slice none 0 0) rfl (.tmp 166) (.tmp 167) rfl rfl HR5.out.1 (World.ownsRow_nil _ _ _ _) (fun j _ h2 => by cases h2) HR5.out.2 [.int .u8 255, .int .u8 255] 2 w5.heap.size rfl rfl rfl (by intro u hu; simp at hu; subst hu; rfl) HLN.out ?_
               intro v' w6 q1 _ _ q4 _
               have HR6 := Lib.hid (And.intro (show w6.ownsRow Wb.heap.size 5 1 v' (P4 ++ (wF (A.take (i + 1))).flatten).length (Lib.byteCells (P4 ++ (wF (A.take (i + 1))).flatten)) by
                rw [HSE.out, bytes_app, List.length_append]
                exact q1) q4)
               clear q1 q4 HR5 f0
               go_wp2_with fail
               exact ⟨⟨i + 1, by simp, by omega, Lib.hid HR6.out.1, Lib.hid HR6.out.2⟩, by simp only [intOf]; omega⟩
            ·have hI : ¬ ((i : Nat) : Int) < (A.length : Nat) := by omega
             have hd : decide (i < A.length) = false := decide_eq_false hlt
             obtain rfl : i = A.length := by omega
             rw [List.take_length] at HRW
             have HX5 := Lib.hid (HX4.out.trans HXR.out)
             obtain ⟨o0, o1, o2, o3⟩ := HB0.out wr HX5.out
             obtain ⟨K4, hK4⟩ : ∃ x, P4 ++ (wF A).flatten = x := ⟨_, rfl⟩
             have hK4l : K4.length ≤ 500000 := by
              have h1 := wF_le A
              have h2 := HALA.out
              rw [← hK4, List.length_append]
              omega
             rw [hK4] at HRW
             obtain ⟨pb4, cb4, rfl⟩ := own_slice HRW.out
             have HK4 := Lib.hid (show K4 = (Cl.w3 (heavyL o.shift A)).flatten ++ [0, 0] ++ (wS (if o.back = true then (heavyL o.shift A).reverse else heavyL o.shift A)).flatten ++ [0, 0] ++ (wT o.great (heavyL o.shift A)).flatten ++ [0, 0] ++ (wF A).flatten by
              rw [← hK4, ← hP4, ← hK3, ← hP3, ← hK2, ← hP2, ← hK1, ← HQE.out.1, ← HHL.out])
             clear hlt hi
             by_cases hv4 : 4 ≤ o.level
             ·have hv4d : decide (4 ≤ o.level) = true := decide_eq_true hv4
              clear hv3d
              go_wp2_with (at_builtin; refine Hid.out ?_)
              refine Lib.hid ?_
              refine wpList_push (v := .slice pb4 K4.length cb4) (u := .slice none 0 0) rfl (.tmp 172) (.tmp 173) rfl rfl HRW.out (World.ownsRow_nil _ _ _ _) (fun j _ h2 => by cases h2) HXR.out [.int .u8 0, .int .u8 0] 2 wr.heap.size rfl rfl rfl (by intro u hu; simp at hu; subst hu; rfl) (by omega) ?_
              intro v' w5 q1 _ _ q4 _
              have HRS := Lib.hid (And.intro (show w5.ownsRow Wb.heap.size 5 1 v' (K4 ++ [0, 0]).length (Lib.byteCells (K4 ++ [0, 0])) by
               rw [bytes_app, List.length_append]
               exact q1) q4)
              clear q1 q4 o0 o1 o2 o3
              obtain ⟨P5, hP5⟩ : ∃ x, K4 ++ [0, 0] = x := ⟨_, rfl⟩
              rw [hP5] at HRS
              have hP5l : P5.length ≤ 500002 := by rw [← hP5, List.length_append]; simp; omega
              obtain ⟨i0, hi0, hz0, hz1, hz3⟩ := hHU.out
              go_wp2_with (at_builtin; refine Hid.out ?_)
              refine Lib.hid ?_
              refine Lib.wpList_append_own_string _ rfl (.tmp 175) (.tmp 176) 34 9 rfl Wb.heap.size 5 i0 Tryz.underlying34 Tryz.underlying9 hi0 hz0 hz1 hz3 _ _ _ rfl HRS.out.1 t rfl (by unfold maxLen; have := HTS.out; omega) (by have := HTS.out; omega) HRS.out.2.sz ?_
              intro v6 w6 g1 g2 _
              have HR6 := Lib.hid (And.intro (show w6.ownsRow Wb.heap.size 5 1 v6 (P5 ++ t.data.toList).length (Lib.byteCells (P5 ++ t.data.toList)) by
               rw [bytes_app, List.length_append, len_eqC]
               simpa [Lib.byteCells, Lib.strCells_eq] using g1) (show Ext Wb w6 from Below.grown HRS.out.2 g2 HRS.out.2.sz (fun k e => (HRS.out.1.lt k e).1)))
              clear g1 g2 HRS HRW HXR
              go_wp2_with fail
              refine ret_one rfl rfl rfl ⟨_, rfl, ?_, HX0.out.trans (HX4.out.trans HR6.out.2)⟩
              have hvq : o.level = 4 := by omega
              have hkk : keyT o s = P5 ++ t.data.toList := by
               rw [HK.out, ← hP5, HK4.out, HTT.out, ← HAE.out]
               unfold keyL secs
               rw [if_pos ho, hvq, hsh]
               simp [joinS]
              rw [hkk]
              exact own_mono HR6.out.1 (HX0.out.trans HX4.out).sz
             ·have hvq : o.level = 3 := by omega
              rw [hvq] at o0
              clear hv3d hv3 hv4
              go_wp2_with fail
              refine ret_one rfl rfl rfl ⟨_, rfl, ?_, HX0.out.trans HX5.out⟩
              have hkk : keyT o s = K4 := by
               rw [HK.out, HK4.out, ← HAE.out]
               unfold keyL secs
               rw [if_pos ho, hvq, hsh]
               simp [joinS]
              rw [hkk]
              exact own_mono HRW.out (HX0.out.trans HX4.out).sz
       ·have hvq : o.level = 2 := by omega
        rw [hvq] at o0
        clear hv2d hv2 hv3
        go_wp2_with fail
        refine ret_one rfl rfl rfl ⟨_, rfl, ?_, HX0.out.trans HX5.out⟩
        have hkk : keyT o s = K2 := by
         rw [HK.out, ← hK2, ← hP2, ← hK1, ← HQE.out.1, ← HHL.out, ← HAE.out]
         unfold keyL secs
         rw [if_pos ho, hvq]
         simp [joinS]
        rw [hkk]
        exact own_mono HRW.out (HX0.out.trans HX4.out).sz
    ·have hvq : o.level = 1 := by omega
     rw [hvq] at o0
     go_wp2_with fail
     refine ret_one rfl rfl rfl ⟨_, rfl, ?_, HX0.out.trans HX5.out⟩
     have hkk : keyT o s = K1 := by
      rw [HK.out, ← hK1, ← HHL.out, ← HAE.out]
      unfold keyL secs
      rw [if_pos ho, hvq]
      simp [joinS]
     rw [hkk]
     exact own_mono HRW.out (HX0.out.trans HX4.out).sz
 ·have HCK := Lib.hid (fun w => c_RCheck o w)
  rw [if_neg ho] at HCK
  have HK0 := Lib.hid (show keyT o s = [] from if_neg ho)
  go_enter Tryz.func17, Tryz.ntmps17
  go_wp2_with fail
  have HX0 := Lib.hid ((Ext.refl w).alloc (.cells #[.int .i64 o.level, .bool o.shift, .bool o.back, .bool o.great] 24))
  refine (HCK.out _).mono ?_
  rintro e w1 ⟨rfl, hx1⟩
  have HX1 := Lib.hid (HX0.out.trans hx1)
  clear hx1
  go_wp2_with fail
  exact ret_one rfl rfl rfl ⟨_, rfl, by rw [HK0.out]; exact World.ownsRow_nil _ _ _ _, HX1.out⟩
theorem c_bkKey (kb : Nat) (s : ByteArray) (o : Ord) (w : World) (hk : BkAt w kb) (hs : s.size ≤ 200) :
  Calls Tryz.prog 17 #[.pointer (some ⟨kb, 0, none⟩), .string s, ordV o] w fun e w' => ∃ v, e = .returned v ∧ HoldsFrom w.heap.size w' v (keyT o s) ∧ Ext w w' :=
 (c_bkKeyO kb s o w hk hs).mono fun _ _ ⟨v, h1, h2, h3⟩ => ⟨v, h1, HoldsFrom.of_own h2 (Nat.le_refl _), h3⟩
end Go.Proofs.YtokeamebcdhnpaaGreatDoor
end

section
namespace Go.Proofs.YtokeamebcdhnpaaGreatDoor
open Go.RowKit Go.Rp Go.Shelf Go.Maps Go.Cl

theorem cmpB_cons {a b : UInt8} {l m : List UInt8} : cmpB (a :: l) (b :: m) = if a.toNat < b.toNat then -1 else if b.toNat < a.toNat then 1 else cmpB l m := by
 simp only [cmpB, UInt8.lt_iff_toNat_lt]
set_option maxRecDepth 100000 in
set_option maxHeartbeats 4000000 in
theorem c_ROrder (u v : Value) (K L : List UInt8) (w : World) (hu : Lib.HoldsBytes w u K) (hv : Lib.HoldsBytes w v L) (hk : K.length ≤ 100000000) (hl : L.length ≤ 100000000) :
  Calls Tryz.prog 44 #[u, v] w fun e w' => e = .returned (.int .i64 (cmpB K L)) ∧ Ext w w' := by
 obtain ⟨p, cp, rfl, hp0, hp1⟩ := hu
 obtain ⟨q, cq, rfl, hq0, hq1⟩ := hv
 have HP := Lib.hid (And.intro hp0 hp1)
 have HQ := Lib.hid (And.intro hq0 hq1)
 have hkI : ((K.length : Nat) : Int) ≤ 100000000 := by omega
 have hlI : ((L.length : Nat) : Int) ≤ 100000000 := by omega
 clear hp0 hp1 hq0 hq1
 go_enter Tryz.func44, Tryz.ntmps44
 go_wp2_with fail
 go_loopw [5] (fun iv W => ∃ i : Nat, iv = .int .i64 (i : Nat) ∧ i ≤ K.length ∧ i ≤ L.length ∧ Hid (cmpB K L = cmpB (K.drop i) (L.drop i)) ∧ Hid (Ext w W)) (fun iv _ => K.length + 1 - (intOf iv).toNat)
 case atStart => exact ⟨0, rfl, by omega, by omega, Lib.hid rfl, Lib.hid (Ext.refl _)⟩
 case round =>
  obtain ⟨i, rfl, hi, hj, HC, HX⟩ := hrel
  by_cases h1 : i < K.length
  ·have hI : ((i : Nat) : Int) < (K.length : Nat) := by omega
   have hd : decide (i < K.length) = true := decide_eq_true h1
   by_cases h2 : i < L.length
   ·have hJ : ((i : Nat) : Int) < (L.length : Nat) := by omega
    have hd2 : decide (i < L.length) = true := decide_eq_true h2
    have hp : ∃ a, p = some a := by
     cases p with
     | none => have := HP.out.1 rfl; subst this; simp at h1
     | some a => exact ⟨a, rfl⟩
    have hq : ∃ a, q = some a := by
     cases q with
     | none => have := HQ.out.1 rfl; subst this; simp at h2
     | some a => exact ⟨a, rfl⟩
    obtain ⟨a, rfl⟩ := hp
    obtain ⟨b, rfl⟩ := hq
    have c1 := HP.out.2 a rfl i _ (List.getElem?_eq_getElem h1)
    have c2 := HQ.out.2 b rfl i _ (List.getElem?_eq_getElem h2)
    have hc := HC.out
    rw [List.drop_eq_getElem_cons h1, List.drop_eq_getElem_cons h2, cmpB_cons] at hc
    obtain ⟨x, hx⟩ : ∃ x : Nat, (K[i]).toNat = x := ⟨_, rfl⟩
    obtain ⟨y, hy⟩ : ∃ x : Nat, (L[i]).toNat = x := ⟨_, rfl⟩
    rw [hx] at c1 hc
    rw [hy] at c2 hc
    clear hx hy
    have m1 : ∀ w', EOn (fun _ => True) wr w' → w'.cell? (a.add i) = some (.int .u8 (x : Nat)) := fun w' hx => hx.cell trivial (HX.out.cell c1)
    have m2 : ∀ w', EOn (fun _ => True) wr w' → w'.cell? (b.add i) = some (.int .u8 (y : Nat)) := fun w' hx => hx.cell trivial (HX.out.cell c2)
    clear c1 c2
    by_cases hlt : x < y
    ·rw [if_pos hlt] at hc
     have HE := Lib.hid hc
     have hxy : ((x : Nat) : Int) < (y : Nat) := by omega
     have hxd : decide (x < y) = true := decide_eq_true hlt
     clear hc hlt HC
     go_wp2_with fail
     refine wp_lex (fun _ => True) [true, true, true, true, true, true, true, true, true] (by kernel_rfl) (by kernel_rfl) ?_
     repeat first
      | refine wpG_move' ?_
      | refine wpG_assign' ?_
      | refine wpG_val' ?_
      | refine wpG_no' ?_
     refine wpG_end (fun w6 hx6 => wpList_nil (gQ_normal ?_))
     have HX6 := Lib.hid (HX.out.trans hx6)
     replace m1 : ∀ w', EOn (fun _ => True) w6 w' → w'.cell? (a.add i) = some (.int .u8 (x : Nat)) := fun w' hx => hx.cell trivial (m1 w6 (EOn.of_ext hx6))
     replace m2 : ∀ w', EOn (fun _ => True) w6 w' → w'.cell? (b.add i) = some (.int .u8 (y : Nat)) := fun w' hx => hx.cell trivial (m2 w6 (EOn.of_ext hx6))
     clear hx6
     clear m1 m2
     go_wp2_with fail
     exact ret_one rfl rfl rfl ⟨by rw [HE.out]; rfl, HX6.out⟩
    ·rw [if_neg hlt] at hc
     have hxy : ¬ ((x : Nat) : Int) < (y : Nat) := by omega
     have hxd : decide (x < y) = false := decide_eq_false hlt
     by_cases hgt : y < x
     ·rw [if_pos hgt] at hc
      have HE := Lib.hid hc
      have hyx : ((y : Nat) : Int) < (x : Nat) := by omega
      have hyd : decide (y < x) = true := decide_eq_true hgt
      clear hc hlt hgt HC
      go_wp2_with fail
      refine wp_lex (fun _ => True) [true, true, true, true, true, true, true, true, true] (by kernel_rfl) (by kernel_rfl) ?_
      repeat first
       | refine wpG_move' ?_
       | refine wpG_assign' ?_
       | refine wpG_val' ?_
       | refine wpG_no' ?_
      refine wpG_end (fun w6 hx6 => wpList_nil (gQ_normal ?_))
      have HX6 := Lib.hid (HX.out.trans hx6)
      replace m1 : ∀ w', EOn (fun _ => True) w6 w' → w'.cell? (a.add i) = some (.int .u8 (x : Nat)) := fun w' hx => hx.cell trivial (m1 w6 (EOn.of_ext hx6))
      replace m2 : ∀ w', EOn (fun _ => True) w6 w' → w'.cell? (b.add i) = some (.int .u8 (y : Nat)) := fun w' hx => hx.cell trivial (m2 w6 (EOn.of_ext hx6))
      clear hx6
      go_wp2_with fail
      refine wp_lex (fun _ => True) [true, true, true, true, true, true, true, true, true] (by kernel_rfl) (by kernel_rfl) ?_
      repeat first
       | refine wpG_move' ?_
       | refine wpG_assign' ?_
       | refine wpG_val' ?_
       | refine wpG_no' ?_
      refine wpG_end (fun w7 hx7 => wpList_nil (gQ_normal ?_))
      have HX7 := Lib.hid (HX6.out.trans hx7)
      clear hx7
      clear m1 m2
      go_wp2_with fail
      exact ret_one rfl rfl rfl ⟨by rw [HE.out]; rfl, HX7.out⟩
     ·rw [if_neg hgt] at hc
      have HE := Lib.hid hc
      have hyx : ¬ ((y : Nat) : Int) < (x : Nat) := by omega
      have hyd : decide (y < x) = false := decide_eq_false hgt
      clear hc hlt hgt HC
      go_wp2_with fail
      refine wp_lex (fun _ => True) [true, true, true, true, true, true, true, true, true] (by kernel_rfl) (by kernel_rfl) ?_
      repeat first
       | refine wpG_move' ?_
       | refine wpG_assign' ?_
       | refine wpG_val' ?_
       | refine wpG_no' ?_
      refine wpG_end (fun w6 hx6 => wpList_nil (gQ_normal ?_))
      have HX6 := Lib.hid (HX.out.trans hx6)
      replace m1 : ∀ w', EOn (fun _ => True) w6 w' → w'.cell? (a.add i) = some (.int .u8 (x : Nat)) := fun w' hx => hx.cell trivial (m1 w6 (EOn.of_ext hx6))
      replace m2 : ∀ w', EOn (fun _ => True) w6 w' → w'.cell? (b.add i) = some (.int .u8 (y : Nat)) := fun w' hx => hx.cell trivial (m2 w6 (EOn.of_ext hx6))
      clear hx6
      go_wp2_with fail
      refine wp_lex (fun _ => True) [true, true, true, true, true, true, true, true, true] (by kernel_rfl) (by kernel_rfl) ?_
      repeat first
       | refine wpG_move' ?_
       | refine wpG_assign' ?_
       | refine wpG_val' ?_
       | refine wpG_no' ?_
      refine wpG_end (fun w7 hx7 => wpList_nil (gQ_normal ?_))
      have HX7 := Lib.hid (HX6.out.trans hx7)
      clear hx7
      clear m1 m2
      go_wp2_with fail
      exact ⟨⟨i + 1, by simp, by omega, by omega, Lib.hid HE.out, HX7⟩, by simp only [intOf]; omega⟩
   ·have hJ : ¬ ((i : Nat) : Int) < (L.length : Nat) := by omega
    have hd2 : decide (i < L.length) = false := decide_eq_false h2
    obtain rfl : i = L.length := by omega
    have hc := HC.out
    rw [List.drop_eq_getElem_cons h1, List.drop_length] at hc
    have HE := Lib.hid hc
    have hx1 : ¬ ((K.length : Nat) : Int) < (L.length : Nat) := by omega
    have hx2 : decide (K.length < L.length) = false := decide_eq_false (by omega)
    clear hc HC
    go_wp2_with fail
    go_ret
    exact ⟨by rw [HE.out]; rfl, HX.out⟩
  ·have hI : ¬ ((i : Nat) : Int) < (K.length : Nat) := by omega
   have hd : decide (i < K.length) = false := decide_eq_false h1
   obtain rfl : i = K.length := by omega
   have hc := HC.out
   rw [List.drop_length] at hc
   by_cases h2 : K.length < L.length
   ·rw [List.drop_eq_getElem_cons h2] at hc
    have HE := Lib.hid hc
    have hJ : ((K.length : Nat) : Int) < (L.length : Nat) := by omega
    have hd2 : decide (K.length < L.length) = true := decide_eq_true h2
    clear hc HC
    go_wp2_with fail
    go_ret
    exact ⟨by rw [HE.out]; rfl, HX.out⟩
   ·have h3 : L.drop K.length = [] := List.drop_eq_nil_of_le (by omega)
    rw [h3] at hc
    have HE := Lib.hid hc
    have hJ : ¬ ((K.length : Nat) : Int) < (L.length : Nat) := by omega
    have hd2 : decide (K.length < L.length) = false := decide_eq_false h2
    have hJ2 : ¬ ((L.length : Nat) : Int) < (K.length : Nat) := by omega
    have hd3 : decide (L.length < K.length) = false := decide_eq_false (by omega)
    clear hc HC h2 h3
    go_wp2_with fail
    go_ret
    exact ⟨by rw [HE.out]; rfl, HX.out⟩
end Go.Proofs.YtokeamebcdhnpaaGreatDoor
end

section
namespace Go.Proofs.YtokeamebcdhnpaaGreatDoor
open Go.RowKit Go.Rp Go.Shelf Go.Maps Go.Cl

theorem key_le (o : Ord) (s : ByteArray) (hs : s.size ≤ 200) : (keyT o s).length ≤ 100000000 := by
 unfold keyT keyL
 split
 ·have hf : (formT 0 s.data.toList).length ≤ 16000 := by
   have h1 := formT_len 0 s.data.toList
   rw [len_eqC] at h1
   omega
  have hA : (elems bookP (mostC bookP) (formT 0 s.data.toList)).length ≤ 32000 := by
   have h1 := elems_few (B := bookP) (most := mostC bookP) (fun p hp => by
    have h1 := bookP_few
    rw [List.all_eq_true] at h1
    exact of_decide_eq_true (h1 p hp)) _ (formT 0 s.data.toList) (Nat.le_refl _)
   omega
  generalize formT 0 s.data.toList = f at *
  generalize elems bookP (mostC bookP) f = A at *
  have hH := heavy_le o.shift A
  have h1 := w3_le (heavyL o.shift A)
  have h2 := wS_le (if o.back then (heavyL o.shift A).reverse else heavyL o.shift A)
  have h2' : (if o.back then (heavyL o.shift A).reverse else heavyL o.shift A).length = (heavyL o.shift A).length := by split <;> simp
  have h3 := wT_le o.great (heavyL o.shift A)
  have h4 := wF_le A
  unfold secs
  generalize (Cl.w3 (heavyL o.shift A)).flatten = X1 at *
  generalize (wS (if o.back then (heavyL o.shift A).reverse else heavyL o.shift A)).flatten = X2 at *
  generalize (wT o.great (heavyL o.shift A)).flatten = X3 at *
  generalize (wF A).flatten = X4 at *
  have e : ∀ (c1 c2 c3 c4 : Bool), (joinS ([X1] ++ (if c1 then [X2] else []) ++ (if c2 then X3 :: (if c3 then [X4] else []) else []) ++ (if c4 then [f] else []))).length ≤ 1000000 := by
   intro c1 c2 c3 c4
   cases c1 <;> cases c2 <;> cases c3 <;> cases c4 <;> simp [joinS] <;> omega
  have := e (decide (2 ≤ o.level)) (decide (3 ≤ o.level)) o.shift (decide (o.level = 4))
  simp only [decide_eq_true_eq] at this
  omega
 ·simp
set_option maxRecDepth 100000 in
set_option maxHeartbeats 4000000 in
theorem c_bkCompare (kb : Nat) (a b : ByteArray) (o : Ord) (w : World) (hk : BkAt w kb) (ha : a.size ≤ 200) (hb : b.size ≤ 200) :
  Calls Tryz.prog 19 #[.pointer (some ⟨kb, 0, none⟩), .string a, .string b, ordV o] w fun e w' => e = .returned (.int .i64 (cmpB (keyT o a) (keyT o b))) ∧ Ext w w' := by
 have HA := Lib.hid (fun w' (hx : Ext w w') => c_bkKey kb a o w' (hk.ext hx) ha)
 have HB := Lib.hid (fun w' (hx : Ext w w') => c_bkKey kb b o w' (hk.ext hx) hb)
 have HL1 := Lib.hid (And.intro (key_le o a ha) (key_le o b hb))
 go_enter Tryz.func19, Tryz.ntmps19
 go_wp2_with fail
 have hx0 := (Ext.refl w).alloc (.cells #[.int .i64 o.level, .bool o.shift, .bool o.back, .bool o.great] 24)
 have hb0 := World.alloc_heap_new w (.cells #[.int .i64 o.level, .bool o.shift, .bool o.back, .bool o.great] 24)
 generalize w.alloc (.cells #[.int .i64 o.level, .bool o.shift, .bool o.back, .bool o.great] 24) = W0 at hx0 hb0 ⊢
 generalize w.heap.size = ob at hb0 ⊢
 have q0 : ∀ w', EOn (fun _ => True) W0 w' → w'.cell? ⟨ob, 0, none⟩ = some (.int .i64 o.level) := fun w' hx => hx.cell trivial ((cell_blk hb0 0).trans rfl)
 have q1 : ∀ w', EOn (fun _ => True) W0 w' → w'.cell? ⟨ob, 1, none⟩ = some (.bool o.shift) := fun w' hx => hx.cell trivial ((cell_blk hb0 1).trans rfl)
 have q2 : ∀ w', EOn (fun _ => True) W0 w' → w'.cell? ⟨ob, 2, none⟩ = some (.bool o.back) := fun w' hx => hx.cell trivial ((cell_blk hb0 2).trans rfl)
 have q3 : ∀ w', EOn (fun _ => True) W0 w' → w'.cell? ⟨ob, 3, none⟩ = some (.bool o.great) := fun w' hx => hx.cell trivial ((cell_blk hb0 3).trans rfl)
 have HX0 := Lib.hid hx0
 clear hx0 hb0
 refine wp_perm (fun _ => True) [0, 1, 2, 4, 5, 6, 3, 7, 8, 9] [true, true, true, true, true, true, false, false, false] (by kernel_rfl) (by kernel_rfl) (by simp only [List.map_cons, List.map_nil, nth]; rfl) ?_
 repeat first
  | refine wpG_move' ?_
  | refine wpG_assign' ?_
  | refine wpG_val' ?_
  | refine wpG_no' ?_
 clear q0 q1 q2 q3
 refine wpG_do (by rfl) (fun w1 hx1 K hK => ?_)
 go_wp2_with fail
 refine (HA.out w1 (HX0.out.trans hx1)).mono ?_
 rintro e w2 ⟨va, rfl, ⟨hka, _⟩, hx2⟩
 refine hK _ _ ⟨EOn.of_ext hx2, ?_⟩
 clear hK
 refine wpG_do (by rfl) (fun w3 hx3 K hK => ?_)
 go_wp2_with fail
 have hx03 := HX0.out.trans (hx1.trans (hx2.trans hx3))
 refine (HB.out w3 hx03).mono ?_
 rintro e w4 ⟨vb, rfl, ⟨hkb, _⟩, hx4⟩
 refine hK _ _ ⟨EOn.of_ext hx4, ?_⟩
 clear hK
 refine wpG_do (by rfl) (fun w5 hx5 K hK => ?_)
 have HP := Lib.hid (And.intro (holds_ext hka (hx3.trans (hx4.trans hx5))) (And.intro (holds_ext hkb hx5) (hx03.trans (hx4.trans hx5))))
 clear hka hkb hx1 hx2 hx3 hx4 hx5 hx03
 go_wp2_with fail
 refine (c_ROrder va vb _ _ w5 HP.out.1 HP.out.2.1 HL1.out.1 HL1.out.2).mono ?_
 rintro e w6 ⟨rfl, hx6⟩
 refine hK _ _ ⟨EOn.of_ext hx6, ?_⟩
 clear hK
 refine wpG_end (fun w7 hx7 => ?_)
 have HX7 := Lib.hid (HP.out.2.2.trans (hx6.trans hx7))
 clear hx6 hx7
 go_wp2_with fail
 refine gQ_normal ?_
 go_wp2_with fail
 exact ret_one rfl rfl rfl ⟨rfl, HX7.out⟩
end Go.Proofs.YtokeamebcdhnpaaGreatDoor
end
