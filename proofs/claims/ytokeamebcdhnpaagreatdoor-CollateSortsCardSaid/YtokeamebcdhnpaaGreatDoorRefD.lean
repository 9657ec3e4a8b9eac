/-
 The reference: the elements of a text, fallen apart. The reference: elements sorted, one swap after the other.
-/
import Derived.Test.YtokeamebcdhnpaaGreatDoorRefB
import Derived.Test.YtokeamebcdhnpaaGreatDoorWalkTU
section
namespace Go.Proofs.YtokeamebcdhnpaaGreatDoor
open Go.RowKit Go.Rp Go.Shelf Go.Maps Go.Nm

theorem rawM_take (l : List UInt8) (M : List (Nat × Nat × Nat)) (i : Nat) (h : i < M.length) : rawM l (M.take (i + 1)) = rawM l (M.take i) ++ rawM l [M[i]] := by
 unfold rawM
 rw [List.take_add_one, List.getElem?_eq_getElem h, List.map_append]
 rfl
def ordN : List (List UInt8) → Nat × Nat × Nat
 | [a, b, c] => (hexV a, hexV b, ((Lib.atoi c).getD 0).toNat)
 | _ => (0, 0, 0)
theorem rO_lines : rO.map (fun x => (x.headD 0, x.tail.headD 0, x.tail.getD 1 0)) = (wordsC textO.data.toList).map ordN := by kernel_rfl
theorem ordR_E (r : Int) : ∀ (L : List (List Nat)) (O : List (List (List UInt8))), L.map (fun x => (x.headD 0, x.tail.headD 0, x.tail.getD 1 0)) = O.map ordN → (∀ ws ∈ O, OrdW ws) → ((ordR L r : Nat) : Int) = ordE (O.map ordOf) r
 | [], [], _, _ => rfl
 | [], _ :: _, h, _ => by simp at h
 | _ :: _, [], h, _ => by simp at h
 | x :: L, ws :: O, h, ho => by
  rw [List.map_cons, List.map_cons] at h
  obtain ⟨h1, h2⟩ := List.cons.inj h
  have ih := ordR_E r L O h2 (fun y hy => ho y (by simp [hy]))
  obtain ⟨a, b, c, n, rfl, _, _, _, hn, h0, _⟩ := ho ws (by simp)
  simp only [ordN, hn, Option.getD_some, Prod.mk.injEq] at h1
  rw [ordR, List.map_cons, ordE, h1.1, h1.2.1, h1.2.2]
  have e : ordOf [a, b, c] = (((hexV a : Nat) : Int), ((hexV b : Nat) : Int), n) := by simp [ordOf, hn]
  rw [e]
  by_cases hc : ((hexV a : Nat) : Int) ≤ r ∧ r ≤ ((hexV b : Nat) : Int)
  ·rw [if_pos hc, if_pos hc]
   show ((n.toNat : Nat) : Int) = n
   omega
  ·rw [if_neg hc, if_neg hc]
   exact ih
theorem ord_eq (r : Int) : ((ordR rO r : Nat) : Int) = odT r := ordR_E r rO linesO rO_lines hO0.2.2
theorem c_rOrderT (tB : Nat) (r : Int) (w : World) (h : RTab w tB) : Calls Tryz.prog 81 #[.pointer (some ⟨tB, 0, none⟩), .int .i32 r] w fun e w' => e = .returned (.int .i64 (odT r)) ∧ w' = w := by
 rw [← ord_eq]
 exact c_rOrder tB r w h
theorem getD_byte (s : ByteArray) (i : Nat) (h : i < s.size) : s.data.toList.getD i 0 = s[i]'h := by
 rw [List.getD_eq_getElem?_getD, List.getElem?_eq_getElem (by simpa using h)]
 simp
 rfl
theorem marks_valid (n : Nat) : ∀ (l : List UInt8) (p : Nat), ∀ m ∈ marks n l p, Utf8.valid (m.1 : Int) = true := by
 induction n with
 | zero => intro l p m hm; simp [marks] at hm
 | succ n ih =>
  intro l p m hm
  by_cases hl : l = []
  ·subst hl; simp [marks] at hm
  ·rw [marks_step _ _ _ hl] at hm
   rcases List.mem_cons.1 hm with rfl | hm
   ·exact run_valid l
   ·exact ih _ _ m hm
set_option maxRecDepth 100000 in
set_option maxHeartbeats 8000000 in
theorem c_relements (tB : Nat) (s : ByteArray) (f : Int) (hf : 0 ≤ f ∧ f ≤ 3) (w : World) (h : RTab w tB) (hs : s.size ≤ 1000000) :
  Calls Tryz.prog 56 #[.pointer (some ⟨tB, 0, none⟩), .string s, .int .i64 f] w fun e w' => ∃ v, e = .returned v ∧ w'.ownsRow w.heap.size 96 4 v (tbT.els (decide (f = 2 ∨ f = 3)) (rawOf s.data.toList)).length (elRs (tbT.els (decide (f = 2 ∨ f = 3)) (rawOf s.data.toList))) ∧ Ext w w' := by
 obtain ⟨i0, hi0, hz0, hz1, hz3⟩ := info_parts infoER
 have HSR := Lib.hid (c_SRunes s w (by omega))
 have HAP := Lib.hid (fun r hv w h => c_rApart tB f r hf w hv h)
 have HOD := Lib.hid (fun r w h => c_rOrderT tB r w h)
 obtain ⟨k, hk⟩ : ∃ k, decide (f = 2 ∨ f = 3) = k := ⟨_, rfl⟩
 rw [hk] at HAP ⊢
 have HT := Lib.hid h
 clear hk h hf
 obtain ⟨M, hM⟩ : ∃ M, marks s.size s.data.toList 0 = M := ⟨_, rfl⟩
 have hraw : rawM s.data.toList M = rawOf s.data.toList := by
  rw [← hM, ← len_eq]
  exact rawM_of _
 have hMl : M.length ≤ s.size := by
  rw [← hM]
  have := marks_len s.size s.data.toList 0
  rwa [len_eq] at this
 have hMv : ∀ m ∈ M, Utf8.valid (m.1 : Int) = true ∧ m.2.1 < m.2.2 ∧ m.2.2 ≤ s.size := fun m hm => by
  rw [← hM] at hm
  have h1 := marks_mem _ _ _ m hm
  rw [len_eq] at h1
  exact ⟨marks_valid _ _ _ m hm, h1.2.1, by omega⟩
 rw [hM] at HSR
 have HM := Lib.hid (And.intro hraw (And.intro hMl hMv))
 have hMI : ((M.length : Nat) : Int) ≤ 1000000 := by omega
 clear hM hraw hMl hMv
 go_enter Tryz.func56, Tryz.ntmps56
 go_wp2_with fail
 refine HSR.out.mono ?_
 rintro e w1 ⟨xv, rfl, hxr, hx1⟩
 obtain ⟨xp, xc, rfl⟩ := own_slice hxr
 have HXR := Lib.hid (And.intro hxr hx1)
 clear hxr hx1
 go_wp2_with fail
 go_loopw [7, 9] (fun lv iv W => ∃ i : Nat, iv = .int .i64 (i : Nat) ∧ i ≤ M.length ∧ W.ownsRow w1.heap.size 96 4 lv (tbT.els k (rawM s.data.toList (M.take i))).length (elRs (tbT.els k (rawM s.data.toList (M.take i)))) ∧ Ext w1 W) (fun _ iv _ => M.length + 1 - (intOf iv).toNat)
 case atStart => exact ⟨0, rfl, by omega, World.ownsRow_nil _ _ _ _, Ext.refl _⟩
 case round =>
  obtain ⟨i, rfl, hi, hrow, hx⟩ := hrel
  by_cases hlt : i < M.length
  ·have hd : decide (i < M.length) = true := decide_eq_true hlt
   have hI : ((i : Nat) : Int) < (M.length : Nat) := by omega
   obtain ⟨g, rfl, _, _, hxc⟩ := own_at HXR.out.1 (by omega)
   obtain ⟨q1, q2, q3⟩ := runeCells_get M i hlt
   have c0 := hx.cell ((hxc (i * 3) (by omega)).trans q1)
   have c1 := hx.cell ((hxc (i * 3 + 1) (by omega)).trans q2)
   have c2 := hx.cell ((hxc (i * 3 + 2) (by omega)).trans q3)
   obtain ⟨hv, hm1, hm2⟩ := HM.out.2.2 M[i] (List.getElem_mem hlt)
   have htk := rawM_take s.data.toList M i hlt
   obtain ⟨⟨r, fr, to'⟩, hmi⟩ : ∃ m, M[i] = m := ⟨_, rfl⟩
   rw [hmi] at c0 c1 c2 hv hm1 hm2 htk
   simp only at c0 c1 c2 hv hm1 hm2
   have hmI : ((to' : Nat) : Int) ≤ 1000000 := by omega
   have hfI : ((fr : Nat) : Int) ≤ (to' : Nat) := by omega
   have hels : tbT.els k (rawM s.data.toList (M.take (i + 1))) = tbT.els k (rawM s.data.toList (M.take i)) ++ tbT.els k (rawM s.data.toList [(r, fr, to')]) := by
    rw [htk, els_append]
   have hln : (tbT.els k (rawM s.data.toList (M.take i))).length ≤ 20 * 1000000 := by
    have h1 := els_len k (rawM s.data.toList (M.take i))
    have h2 : (rawM s.data.toList (M.take i)).length ≤ 1000000 := by
     unfold rawM
     rw [List.length_map, List.length_take]
     omega
    omega
   obtain ⟨E, hE⟩ : ∃ E, tbT.els k (rawM s.data.toList (M.take i)) = E := ⟨_, rfl⟩
   rw [hE] at hrow hels hln
   have HROW := Lib.hid (And.intro hrow (And.intro hx hln))
   clear hrow hxc q1 q2 q3 htk hmi hE hln
   by_cases hr : r = 65533
   ·have hbr : (((r : Nat) : Int) == 65533) = true := by rw [hr]; rfl
    by_cases hw1 : to' - fr = 1
    ·have hbw : (((to' : Nat) : Int) - (fr : Nat) == 1) = true := by
      rw [show ((to' : Nat) : Int) - (fr : Nat) = 1 by omega]; rfl
     have hfl : fr < s.size := by omega
     have hflI : ((fr : Nat) : Int) < (s.size : Nat) := by omega
     have hone : rawM s.data.toList [(r, fr, to')] = [((((s[fr]'hfl).toNat : Nat) : Int), true)] := by
      unfold rawM
      rw [List.map_cons, List.map_nil, if_pos ⟨hr, hw1⟩]
      rw [getD_byte s fr hfl]
     rw [hone] at hels
     obtain ⟨b, hb⟩ : ∃ b : Nat, (s[fr]'hfl).toNat = b := ⟨_, rfl⟩
     rw [hb] at hels
     have HELS := Lib.hid hels
     clear hels hone hr hw1 hm1 hm2 hv
     have y0 : ∀ w', EOn (fun _ => True) wr w' → w'.cell? ⟨g, i * 3, none⟩ = some (.int .i32 (r : Nat)) := fun w' hx => hx.cell trivial c0
     have y1 : ∀ w', EOn (fun _ => True) wr w' → w'.cell? ⟨g, i * 3 + 1, none⟩ = some (.int .i64 (fr : Nat)) := fun w' hx => hx.cell trivial c1
     have y2 : ∀ w', EOn (fun _ => True) wr w' → w'.cell? ⟨g, i * 3 + 2, none⟩ = some (.int .i64 (to' : Nat)) := fun w' hx => hx.cell trivial c2
     have HC := Lib.hid (And.intro c0 c1)
     clear c0 c1 c2
     go_wp2_with fail
     refine wp_lex (fun _ => True) [true, true, true, true, true, true, true, true, true, true, true, true, true, true, true, true, true, true, true, true] (by kernel_rfl) (by kernel_rfl) ?_
     repeat first
      | refine wpG_move' ?_
      | refine wpG_assign' ?_
      | refine wpG_val' ?_
      | refine wpG_no' ?_
     clear y0 y1 y2
     refine wpG_end (fun w2 hx2 => ?_)
     have c0 := hx2.cell HC.out.1
     have c1 := hx2.cell HC.out.2
     replace HROW := Lib.hid (And.intro (ownsRow_ext HROW.out.1 hx2) (And.intro (HROW.out.2.1.trans hx2) HROW.out.2.2))
     replace hx := hx.trans hx2
     clear hx2 HC
     go_wp2_with fail
     refine gQ_normal ?_
     go_wp2_with (at_builtin; refine Hid.out ?_)
     refine Lib.hid ?_
     refine wpList_app rfl (.tmp 40) (.tmp 49) 91 rfl 96 i0 (.agg #[.int .i32 0, .bool false, .int .u8 0, .int .i64 0]) 4 16 Tryz.underlying91 hi0 hz0 hz1 hz3 rfl (by decide) rfl HROW.out.1 HROW.out.2.1 [.int .i32 0, .bool true, .int .u8 (b : Nat), .int .i64 0] rfl rfl (by intro u hu; simp at hu; rcases hu with rfl | rfl | rfl | rfl <;> rfl) ?c0 (by decide) ?_
     case c0 => have := HROW.out.2.2; omega
     intro v' w4 hown4 hx4 _
     have HO4 := Lib.hid (And.intro hown4 hx4)
     clear hown4 hx4 HROW
     go_wp2_with fail
     refine ⟨⟨i + 1, by simp, by omega, ?_, HO4.out.2⟩, by simp [intOf]; omega⟩
     rw [HELS.out, elRs_append, List.length_append]
     exact HO4.out.1
    ·have hbw : (((to' : Nat) : Int) - (fr : Nat) == 1) = false := beq_false_of_ne (by omega)
     have hone : rawM s.data.toList [(r, fr, to')] = [(((r : Nat) : Int), false)] := by
      unfold rawM
      rw [List.map_cons, List.map_nil, if_neg (fun h => hw1 h.2)]
     rw [hone] at hels
     have HELS := Lib.hid hels
     clear hels hone hr hw1 hm1 hm2
     have y0 : ∀ w', EOn (fun _ => True) wr w' → w'.cell? ⟨g, i * 3, none⟩ = some (.int .i32 (r : Nat)) := fun w' hx => hx.cell trivial c0
     have y1 : ∀ w', EOn (fun _ => True) wr w' → w'.cell? ⟨g, i * 3 + 1, none⟩ = some (.int .i64 (fr : Nat)) := fun w' hx => hx.cell trivial c1
     have y2 : ∀ w', EOn (fun _ => True) wr w' → w'.cell? ⟨g, i * 3 + 2, none⟩ = some (.int .i64 (to' : Nat)) := fun w' hx => hx.cell trivial c2
     have HC := Lib.hid (And.intro c0 c1)
     clear c0 c1 c2
     go_wp2_with fail
     refine wp_lex (fun _ => True) [true, true, true, true, true, true, true, true, true, true, true, true, true, true, true, true, true, true, true, true] (by kernel_rfl) (by kernel_rfl) ?_
     repeat first
      | refine wpG_move' ?_
      | refine wpG_assign' ?_
      | refine wpG_val' ?_
      | refine wpG_no' ?_
     clear y0 y1 y2
     refine wpG_end (fun w2 hx2 => ?_)
     have c0 := hx2.cell HC.out.1
     have c1 := hx2.cell HC.out.2
     replace HROW := Lib.hid (And.intro (ownsRow_ext HROW.out.1 hx2) (And.intro (HROW.out.2.1.trans hx2) HROW.out.2.2))
     replace hx := hx.trans hx2
     clear hx2 HC
     go_wp2_with fail
     refine gQ_normal ?_
     go_wp2_with fail
     refine (HAP.out _ hv w2 (HT.out.mono (HXR.out.2.trans hx))).mono ?_
     rintro e w3 ⟨v3, rfl, hrow3, hx3⟩
     obtain ⟨A, hA⟩ : ∃ A, faT k ((r : Nat) : Int) = A := ⟨_, rfl⟩
     have hAl := faT_len k ((r : Nat) : Int)
     rw [hA] at hrow3 hAl
     obtain ⟨p3, c3, rfl⟩ := own_slice hrow3
     have hblk : ∃ g cur, p3 = some ⟨g, 0, none⟩ ∧ w3.heap[g]? = some (.cells cur 21 (0, 0)) ∧ ∀ q (hq : q < A.length), cur[q]? = some (.int .i32 A[q]) := by
      rcases hrow3.2 with ⟨e1, e2⟩ | ⟨g, cap, cur, e1, hb, hgb, hcap, _, _, htk⟩
      ·omega
      ·cases e1
       refine ⟨g, cur, rfl, hgb, fun q hq => ?_⟩
       have h1 : (i32s A)[q]? = some (.int .i32 A[q]) := by
        unfold i32s
        rw [List.getElem?_map, List.getElem?_eq_getElem hq]
        rfl
       rw [← htk, List.getElem?_take, if_pos (by omega)] at h1
       rw [← h1]
       simp
     obtain ⟨g3, cur3, rfl, hb3, hcur3⟩ := hblk
     have HA := Lib.hid (show E ++ A.map tbT.mk1 = tbT.els k (rawM s.data.toList (M.take (i + 1))) by
      rw [HELS.out, ← hA]
      show _ = E ++ ((faT k ((r : Nat) : Int)).map tbT.mk1 ++ [])
      rw [List.append_nil])
     have hAI : ((A.length : Nat) : Int) ≤ 20 := by omega
     have HB := Lib.hid (And.intro hb3 (And.intro hcur3 (And.intro (ownsRow_ext HROW.out.1 hx3) (And.intro (HROW.out.2.1.trans hx3) (And.intro HROW.out.2.2 hAl.2)))))
     clear hrow3 hAl hA hb3 hcur3 hx3 hx
     obtain ⟨Wo, rfl⟩ : ∃ Wo, Wo = wr := ⟨wr, rfl⟩
     go_wp2_with fail
     go_loopw [7, 11] (fun lv kv W => ∃ j : Nat, kv = .int .i64 (j : Nat) ∧ j ≤ A.length ∧ W.ownsRow w1.heap.size 96 4 lv (E ++ (A.take j).map tbT.mk1).length (elRs (E ++ (A.take j).map tbT.mk1)) ∧ Ext w1 W ∧ W.heap[g3]? = some (.cells cur3 21 (0, 0))) (fun _ kv _ => A.length + 1 - (intOf kv).toNat)
     case atStart => exact ⟨0, rfl, by omega, by simpa using HB.out.2.2.1, HB.out.2.2.2.1, HB.out.1⟩
     case round =>
      obtain ⟨j, rfl, hj, hrowj, hxj, hbj⟩ := hrel
      by_cases hjl : j < A.length
      ·have hdj : decide (j < A.length) = true := decide_eq_true hjl
       have hjI : ((j : Nat) : Int) < (A.length : Nat) := by omega
       obtain ⟨x, hxA⟩ : ∃ x, A[j] = x := ⟨_, rfl⟩
       have hcx : ∀ w', EOn (fun a => a.block = g3) wr w' → w'.cell? ⟨g3, j, none⟩ = some (.int .i32 x) := fun w' hx => hx.cell rfl ((cell_blk hbj j).trans (by rw [HB.out.2.1 j hjl, hxA]))
       have hstep : E ++ (A.take (j + 1)).map tbT.mk1 = (E ++ (A.take j).map tbT.mk1) ++ [tbT.mk1 x] := by
        rw [List.take_add_one, List.getElem?_eq_getElem hjl, hxA]
        simp
       have hEl : (E ++ (A.take j).map tbT.mk1).length ≤ 20 * 1000000 + 20 := by
        rw [List.length_append, List.length_map, List.length_take]
        have := HB.out.2.2.2.2
        omega
       obtain ⟨F, hF⟩ : ∃ F, E ++ (A.take j).map tbT.mk1 = F := ⟨_, rfl⟩
       rw [hF] at hrowj hstep hEl
       have hkx : tbT.mk1 x = ⟨x, odT x, false⟩ := rfl
       obtain ⟨od, hod⟩ : ∃ o, odT x = o := ⟨_, rfl⟩
       rw [hkx, hod] at hstep
       have HOX := Lib.hid (show ∀ w', Ext w1 w' → Calls Tryz.prog 81 #[.pointer (some ⟨tB, 0, none⟩), .int .i32 x] w' fun e w'' => e = .returned (.int .i64 od) ∧ w'' = w' from fun w' hx => by
        rw [← hod]
        exact HOD.out x w' (HT.out.mono (HXR.out.2.trans hx)))
       have HJ := Lib.hid (And.intro hrowj (And.intro hxj (And.intro hbj (And.intro hstep hEl))))
       clear hxA hrowj hbj hstep hEl hF hkx hod
       go_wp2_with fail
       refine wp_lexN ((fun a => a.block = g3)) [true, true, true, true, true, true, true, true, true, true, false, true, false, false] (by kernel_rfl) (by kernel_rfl) ?_
       repeat first
        | refine wpG_move' ?_
        | refine wpG_assign' ?_
        | refine wpG_val' ?_
        | refine wpG_no' ?_
       refine wpG_do (by rfl) (fun w5 hx5 K hK => ?_)
       go_wp2_with fail
       refine (HOX.out w5 (hxj.trans hx5)).mono ?_
       rintro e w6 ⟨rfl, e6⟩
       obtain rfl := e6.symm
       clear e6
       refine hK _ _ ⟨EOn.refl _ _, ?_⟩
       clear hK hcx
       repeat first
        | refine wpG_move' ?_
        | refine wpG_assign' ?_
        | refine wpG_val' ?_
        | refine wpG_no' ?_
       refine wpG_do (by rfl) (fun w7 hx7 K hK => ?_)
       go_wp2_with fail
       refine ⟨EOn.of_ext ((Ext.refl w7).alloc _), ?_⟩
       have hx57 := (hx5.trans hx7).alloc (.cells #[.int .i32 x, .bool false, .int .u8 0, .int .i64 od] 96)
       have hnew := World.alloc_heap_new w7 (.cells #[.int .i32 x, .bool false, .int .u8 0, .int .i64 od] 96)
       generalize w7.alloc (.cells #[.int .i32 x, .bool false, .int .u8 0, .int .i64 od] 96) = w8 at hx57 hnew ⊢
       generalize w7.heap.size = gb at hnew ⊢
       refine wpG_apps rfl (fun a w h => by cases h.1) (.tmp 65) (.tmp 77) 91 rfl 96 i0 (.agg #[.int .i32 0, .bool false, .int .u8 0, .int .i64 0]) 4 16 Tryz.underlying91 hi0 hz0 hz1 hz3 rfl (by decide) rfl HJ.out.1 hxj hx57 [.int .i32 x, .bool false, .int .u8 0, .int .i64 od] gb 0 1 1 rfl rfl ?c1 (by intro u hu; simp at hu; rcases hu with rfl | rfl | rfl | rfl <;> rfl) ?c2 ?c3 (by decide) ?_
       case c1 =>
        intro q hq
        match q, hq with
        | 0, _ => exact (cell_blk hnew 0).trans rfl
        | 1, _ => exact (cell_blk hnew 1).trans rfl
        | 2, _ => exact (cell_blk hnew 2).trans rfl
        | 3, _ => exact (cell_blk hnew 3).trans rfl
       case c2 =>
        intro ad hS hlt c z e
        have := hx57.blk HJ.out.2.2.1
        rw [← hS, e] at this
        simp at this
       case c3 => have := HJ.out.2.2.2.2; omega
       intro v' w9 hown9 hx09 hk9
       have hb9 := hk9 g3 _ (hx57.blk HJ.out.2.2.1) (fun c z e => by simp at e)
       have HO9 := Lib.hid (And.intro hown9 (And.intro hx09 hb9))
       clear hown9 hx09 hb9 hk9 hnew hx57 hx5 hx7
       refine wpG_end (fun w10 hx10 => ?_)
       go_wp2_with fail
       refine gQ_normal ⟨rfl, ?_⟩
       go_wp2_with fail
       go_roundw
       case rel =>
        refine ⟨j + 1, by simp, by omega, ?_, HO9.out.2.1.trans hx10, hx10.blk HO9.out.2.2⟩
        rw [HJ.out.2.2.2.1, List.length_append, elRs_append]
        exact ownsRow_ext HO9.out.1 hx10
       case measure => simp [intOf]; omega
      ·have hdj : decide (j < A.length) = false := decide_eq_false hjl
       have hjI : ¬ ((j : Nat) : Int) < (A.length : Nat) := by omega
       rw [List.take_of_length_le (by omega), HA.out] at hrowj
       have HJ := Lib.hid (And.intro hrowj hxj)
       clear hrowj hxj hbj
       go_wp2_with fail
       go_roundw
       case rel => exact ⟨i + 1, by simp, by omega, HJ.out.1, HJ.out.2⟩
       case measure => simp [intOf]; omega
   ·have hbr : (((r : Nat) : Int) == 65533) = false := beq_false_of_ne (by omega)
    have hone : rawM s.data.toList [(r, fr, to')] = [(((r : Nat) : Int), false)] := by
     unfold rawM
     rw [List.map_cons, List.map_nil, if_neg (fun h => hr h.1)]
    rw [hone] at hels
    have HELS := Lib.hid hels
    clear hels hone hr hm1 hm2
    have y0 : ∀ w', EOn (fun _ => True) wr w' → w'.cell? ⟨g, i * 3, none⟩ = some (.int .i32 (r : Nat)) := fun w' hx => hx.cell trivial c0
    have y1 : ∀ w', EOn (fun _ => True) wr w' → w'.cell? ⟨g, i * 3 + 1, none⟩ = some (.int .i64 (fr : Nat)) := fun w' hx => hx.cell trivial c1
    have y2 : ∀ w', EOn (fun _ => True) wr w' → w'.cell? ⟨g, i * 3 + 2, none⟩ = some (.int .i64 (to' : Nat)) := fun w' hx => hx.cell trivial c2
    have HC := Lib.hid (And.intro c0 c1)
    clear c0 c1 c2
    go_wp2_with fail
    refine wp_lex (fun _ => True) [true, true, true, true, true, true, true, true, true, true, true, true, true, true, true, true, true, true, true, true] (by kernel_rfl) (by kernel_rfl) ?_
    repeat first
     | refine wpG_move' ?_
     | refine wpG_assign' ?_
     | refine wpG_val' ?_
     | refine wpG_no' ?_
    clear y0 y1 y2
    refine wpG_end (fun w2 hx2 => ?_)
    have c0 := hx2.cell HC.out.1
    have c1 := hx2.cell HC.out.2
    replace HROW := Lib.hid (And.intro (ownsRow_ext HROW.out.1 hx2) (And.intro (HROW.out.2.1.trans hx2) HROW.out.2.2))
    replace hx := hx.trans hx2
    clear hx2 HC
    go_wp2_with fail
    refine gQ_normal ?_
    go_wp2_with fail
    refine (HAP.out _ hv w2 (HT.out.mono (HXR.out.2.trans hx))).mono ?_
    rintro e w3 ⟨v3, rfl, hrow3, hx3⟩
    obtain ⟨A, hA⟩ : ∃ A, faT k ((r : Nat) : Int) = A := ⟨_, rfl⟩
    have hAl := faT_len k ((r : Nat) : Int)
    rw [hA] at hrow3 hAl
    obtain ⟨p3, c3, rfl⟩ := own_slice hrow3
    have hblk : ∃ g cur, p3 = some ⟨g, 0, none⟩ ∧ w3.heap[g]? = some (.cells cur 21 (0, 0)) ∧ ∀ q (hq : q < A.length), cur[q]? = some (.int .i32 A[q]) := by
     rcases hrow3.2 with ⟨e1, e2⟩ | ⟨g, cap, cur, e1, hb, hgb, hcap, _, _, htk⟩
     ·omega
     ·cases e1
      refine ⟨g, cur, rfl, hgb, fun q hq => ?_⟩
      have h1 : (i32s A)[q]? = some (.int .i32 A[q]) := by
       unfold i32s
       rw [List.getElem?_map, List.getElem?_eq_getElem hq]
       rfl
      rw [← htk, List.getElem?_take, if_pos (by omega)] at h1
      rw [← h1]
      simp
    obtain ⟨g3, cur3, rfl, hb3, hcur3⟩ := hblk
    have HA := Lib.hid (show E ++ A.map tbT.mk1 = tbT.els k (rawM s.data.toList (M.take (i + 1))) by
     rw [HELS.out, ← hA]
     show _ = E ++ ((faT k ((r : Nat) : Int)).map tbT.mk1 ++ [])
     rw [List.append_nil])
    have hAI : ((A.length : Nat) : Int) ≤ 20 := by omega
    have HB := Lib.hid (And.intro hb3 (And.intro hcur3 (And.intro (ownsRow_ext HROW.out.1 hx3) (And.intro (HROW.out.2.1.trans hx3) (And.intro HROW.out.2.2 hAl.2)))))
    clear hrow3 hAl hA hb3 hcur3 hx3 hx
    obtain ⟨Wo, rfl⟩ : ∃ Wo, Wo = wr := ⟨wr, rfl⟩
    go_wp2_with fail
    go_loopw [7, 11] (fun lv kv W => ∃ j : Nat, kv = .int .i64 (j : Nat) ∧ j ≤ A.length ∧ W.ownsRow w1.heap.size 96 4 lv (E ++ (A.take j).map tbT.mk1).length (elRs (E ++ (A.take j).map tbT.mk1)) ∧ Ext w1 W ∧ W.heap[g3]? = some (.cells cur3 21 (0, 0))) (fun _ kv _ => A.length + 1 - (intOf kv).toNat)
    case atStart => exact ⟨0, rfl, by omega, by simpa using HB.out.2.2.1, HB.out.2.2.2.1, HB.out.1⟩
    case round =>
     obtain ⟨j, rfl, hj, hrowj, hxj, hbj⟩ := hrel
     by_cases hjl : j < A.length
     ·have hdj : decide (j < A.length) = true := decide_eq_true hjl
      have hjI : ((j : Nat) : Int) < (A.length : Nat) := by omega
      obtain ⟨x, hxA⟩ : ∃ x, A[j] = x := ⟨_, rfl⟩
      have hcx : ∀ w', EOn (fun a => a.block = g3) wr w' → w'.cell? ⟨g3, j, none⟩ = some (.int .i32 x) := fun w' hx => hx.cell rfl ((cell_blk hbj j).trans (by rw [HB.out.2.1 j hjl, hxA]))
      have hstep : E ++ (A.take (j + 1)).map tbT.mk1 = (E ++ (A.take j).map tbT.mk1) ++ [tbT.mk1 x] := by
       rw [List.take_add_one, List.getElem?_eq_getElem hjl, hxA]
       simp
      have hEl : (E ++ (A.take j).map tbT.mk1).length ≤ 20 * 1000000 + 20 := by
       rw [List.length_append, List.length_map, List.length_take]
       have := HB.out.2.2.2.2
       omega
      obtain ⟨F, hF⟩ : ∃ F, E ++ (A.take j).map tbT.mk1 = F := ⟨_, rfl⟩
      rw [hF] at hrowj hstep hEl
      have hkx : tbT.mk1 x = ⟨x, odT x, false⟩ := rfl
      obtain ⟨od, hod⟩ : ∃ o, odT x = o := ⟨_, rfl⟩
      rw [hkx, hod] at hstep
      have HOX := Lib.hid (show ∀ w', Ext w1 w' → Calls Tryz.prog 81 #[.pointer (some ⟨tB, 0, none⟩), .int .i32 x] w' fun e w'' => e = .returned (.int .i64 od) ∧ w'' = w' from fun w' hx => by
       rw [← hod]
       exact HOD.out x w' (HT.out.mono (HXR.out.2.trans hx)))
      have HJ := Lib.hid (And.intro hrowj (And.intro hxj (And.intro hbj (And.intro hstep hEl))))
      clear hxA hrowj hbj hstep hEl hF hkx hod
      go_wp2_with fail
      refine wp_lexN ((fun a => a.block = g3)) [true, true, true, true, true, true, true, true, true, true, false, true, false, false] (by kernel_rfl) (by kernel_rfl) ?_
      repeat first
       | refine wpG_move' ?_
       | refine wpG_assign' ?_
       | refine wpG_val' ?_
       | refine wpG_no' ?_
      refine wpG_do (by rfl) (fun w5 hx5 K hK => ?_)
      go_wp2_with fail
      refine (HOX.out w5 (hxj.trans hx5)).mono ?_
      rintro e w6 ⟨rfl, e6⟩
      obtain rfl := e6.symm
      clear e6
      refine hK _ _ ⟨EOn.refl _ _, ?_⟩
      clear hK hcx
      repeat first
       | refine wpG_move' ?_
       | refine wpG_assign' ?_
       | refine wpG_val' ?_
       | refine wpG_no' ?_
      refine wpG_do (by rfl) (fun w7 hx7 K hK => ?_)
      go_wp2_with fail
      refine ⟨EOn.of_ext ((Ext.refl w7).alloc _), ?_⟩
      have hx57 := (hx5.trans hx7).alloc (.cells #[.int .i32 x, .bool false, .int .u8 0, .int .i64 od] 96)
      have hnew := World.alloc_heap_new w7 (.cells #[.int .i32 x, .bool false, .int .u8 0, .int .i64 od] 96)
      generalize w7.alloc (.cells #[.int .i32 x, .bool false, .int .u8 0, .int .i64 od] 96) = w8 at hx57 hnew ⊢
      generalize w7.heap.size = gb at hnew ⊢
      refine wpG_apps rfl (fun a w h => by cases h.1) (.tmp 65) (.tmp 77) 91 rfl 96 i0 (.agg #[.int .i32 0, .bool false, .int .u8 0, .int .i64 0]) 4 16 Tryz.underlying91 hi0 hz0 hz1 hz3 rfl (by decide) rfl HJ.out.1 hxj hx57 [.int .i32 x, .bool false, .int .u8 0, .int .i64 od] gb 0 1 1 rfl rfl ?c1 (by intro u hu; simp at hu; rcases hu with rfl | rfl | rfl | rfl <;> rfl) ?c2 ?c3 (by decide) ?_
      case c1 =>
       intro q hq
       match q, hq with
       | 0, _ => exact (cell_blk hnew 0).trans rfl
       | 1, _ => exact (cell_blk hnew 1).trans rfl
       | 2, _ => exact (cell_blk hnew 2).trans rfl
       | 3, _ => exact (cell_blk hnew 3).trans rfl
      case c2 =>
       intro ad hS hlt c z e
       have := hx57.blk HJ.out.2.2.1
       rw [← hS, e] at this
       simp at this
      case c3 => have := HJ.out.2.2.2.2; omega
      intro v' w9 hown9 hx09 hk9
      have hb9 := hk9 g3 _ (hx57.blk HJ.out.2.2.1) (fun c z e => by simp at e)
      have HO9 := Lib.hid (And.intro hown9 (And.intro hx09 hb9))
      clear hown9 hx09 hb9 hk9 hnew hx57 hx5 hx7
      refine wpG_end (fun w10 hx10 => ?_)
      go_wp2_with fail
      refine gQ_normal ⟨rfl, ?_⟩
      go_wp2_with fail
      go_roundw
      case rel =>
       refine ⟨j + 1, by simp, by omega, ?_, HO9.out.2.1.trans hx10, hx10.blk HO9.out.2.2⟩
       rw [HJ.out.2.2.2.1, List.length_append, elRs_append]
       exact ownsRow_ext HO9.out.1 hx10
      case measure => simp [intOf]; omega
     ·have hdj : decide (j < A.length) = false := decide_eq_false hjl
      have hjI : ¬ ((j : Nat) : Int) < (A.length : Nat) := by omega
      rw [List.take_of_length_le (by omega), HA.out] at hrowj
      have HJ := Lib.hid (And.intro hrowj hxj)
      clear hrowj hxj hbj
      go_wp2_with fail
      go_roundw
      case rel => exact ⟨i + 1, by simp, by omega, HJ.out.1, HJ.out.2⟩
      case measure => simp [intOf]; omega
  ·have hd : decide (i < M.length) = false := decide_eq_false hlt
   have hI : ¬ ((i : Nat) : Int) < (M.length : Nat) := by omega
   rw [List.take_of_length_le (by omega), HM.out.1] at hrow
   have HROW := Lib.hid (And.intro (own_lower hrow HXR.out.2.sz) (HXR.out.2.trans hx))
   clear hrow hx
   go_wp2_with fail
   go_ret
   exact ⟨_, rfl, HROW.out.1, HROW.out.2⟩
end Go.Proofs.YtokeamebcdhnpaaGreatDoor
end

section
namespace Go.Proofs.YtokeamebcdhnpaaGreatDoor
open Go.RowKit Go.Rp Go.Shelf Go.Maps Go.Nm

theorem Srt_ins {x : El} : ∀ {P Q : List El}, Srt (P ++ Q) → (∀ y ∈ Q.head?, 0 < x.ord ∧ x.ord < y.ord) → (∀ y ∈ P.getLast?, ¬ (0 < x.ord ∧ x.ord < y.ord)) → Srt (P ++ x :: Q)
 | [], [], _, _, _ => trivial
 | [], y :: t, h, h1, _ => ⟨fun h2 => by have := h1 y (by simp); omega, h⟩
 | [p], Q, h, h1, h2 => ⟨h2 p (by simp), Srt_ins (P := []) h.tail h1 (fun y hy => by simp at hy)⟩
 | p :: q :: t, Q, h, h1, h2 => ⟨h.1, Srt_ins (P := q :: t) h.tail h1 (fun y hy => h2 y (by simpa using hy))⟩
set_option maxRecDepth 100000 in
set_option maxHeartbeats 8000000 in
theorem c_rsortedA (g cap : Nat) (post : List Value) (R : List El) (w : World) (h : ArrR w g R post) (hl : R.length ≤ 100000000) :
  Calls Tryz.prog 57 #[.slice (some ⟨g, 0, none⟩) R.length cap] w fun e w' => e = .returned (.tuple #[]) ∧ ArrR w' g (sortL R) post ∧ w.grownBy w' (some g) := by
 have hlI : ((R.length : Nat) : Int) ≤ 100000000 := by omega
 obtain ⟨n, hn⟩ : ∃ n, R.length = n := ⟨_, rfl⟩
 rw [hn] at hlI ⊢
 have HN := Lib.hid hn
 clear hn hl
 go_enter Tryz.func57, Tryz.ntmps57
 go_wp2_with fail
 go_loopw [2] (fun iv W => ∃ (i : Nat) (R' : List El), iv = .int .i64 (i : Nat) ∧ 1 ≤ i ∧ i ≤ n + 1 ∧ Hid (R'.length = n ∧ sortL R' = sortL R ∧ Srt (R'.take i)) ∧ ArrR W g R' post ∧ w.grownBy W (some g)) (fun iv _ => n + 2 - (intOf iv).toNat)
 case atStart => exact ⟨1, R, rfl, by omega, by omega, Lib.hid ⟨HN.out, rfl, by cases R with | nil => trivial | cons x t => trivial⟩, h, World.grownBy.refl _ _⟩
 case round =>
  clear h
  obtain ⟨i, R', rfl, hi1, hi2, HR, hA, hg⟩ := hrel
  by_cases hlt : i < n
  ·have hd : decide (i < n) = true := decide_eq_true hlt
   have hI : ((i : Nat) : Int) < (n : Nat) := by omega
   obtain ⟨x, hx⟩ : ∃ x, R'[i]'(by have := HR.out.1; omega) = x := ⟨_, rfl⟩
   have hsp : R' = R'.take i ++ x :: R'.drop (i + 1) := by
    rw [← hx, ← List.drop_eq_getElem_cons, List.take_append_drop]
   have HS := Lib.hid (show R' = R'.take i ++ x :: ([] ++ R'.drop (i + 1)) ∧ (R'.take i).length = i from ⟨hsp, by rw [List.length_take]; have := HR.out.1; omega⟩)
   clear hx hsp
   obtain ⟨Wo, rfl⟩ : ∃ Wo, Wo = wr := ⟨wr, rfl⟩
   go_wp2_with fail
   go_loopw [3] (fun kv W => ∃ (k : Nat) (P Q : List El), kv = .int .i64 (k : Nat) ∧ k ≤ i ∧ Hid (P.length = k ∧ P.length + Q.length = i ∧ Srt (P ++ Q) ∧ (∀ y ∈ Q.head?, 0 < x.ord ∧ x.ord < y.ord) ∧ sortL (P ++ x :: (Q ++ R'.drop (i + 1))) = sortL R) ∧ ArrR W g (P ++ x :: (Q ++ R'.drop (i + 1))) post ∧ w.grownBy W (some g)) (fun kv _ => (intOf kv).toNat)
   case atStart => exact ⟨i, R'.take i, [], rfl, Nat.le_refl _, Lib.hid ⟨HS.out.2, by simpa using HS.out.2, by simpa using HR.out.2.2, fun y hy => by simp at hy, by rw [← HS.out.1]; exact HR.out.2.1⟩, by rw [← HS.out.1]; exact hA, hg⟩
   case round =>
    clear hA hg
    obtain ⟨k, P, Q, rfl, hk, HP, hA, hg⟩ := hrel
    have hDl : (R'.drop (i + 1)).length = n - (i + 1) := by rw [List.length_drop, HR.out.1]
    obtain ⟨D, hD⟩ : ∃ D, R'.drop (i + 1) = D := ⟨_, rfl⟩
    rw [hD] at hA HP hDl
    have HD := Lib.hid (And.intro hD hDl)
    clear hD hDl
    have HEND := Lib.hid (fun W (hAW : ArrR W g (P ++ x :: (Q ++ D)) post) (hgW : w.grownBy W (some g)) (hs : ∀ y ∈ P.getLast?, ¬ (0 < x.ord ∧ x.ord < y.ord)) => show ∃ R2 : List El, Hid (R2.length = n ∧ sortL R2 = sortL R ∧ Srt (R2.take (i + 1))) ∧ ArrR W g R2 post ∧ w.grownBy W (some g) from
     ⟨P ++ x :: (Q ++ D), Lib.hid ⟨by
      have h1 := HP.out
      have h2 := HD.out.2
      simp only [List.length_append, List.length_cons]
      omega, HP.out.2.2.2.2, by
      have h1 := HP.out
      have e : (P ++ x :: (Q ++ D)).take (i + 1) = P ++ x :: Q := by
       rw [show P ++ x :: (Q ++ D) = (P ++ x :: Q) ++ D by simp, List.take_append_of_le_length (by simp; omega), List.take_of_length_le (by simp; omega)]
      rw [e]
      exact Srt_ins h1.2.2.1 h1.2.2.2.1 hs⟩, hAW, hgW⟩)
    rcases List.eq_nil_or_concat P with rfl | ⟨P, y, rfl⟩
    ·obtain rfl : k = 0 := by simpa using HP.out.1.symm
     have HE := Lib.hid (HEND.out wr hA hg (fun y hy => by simp at hy))
     clear hA hg HEND
     go_wp2_with fail
     refine wp_lex (fun _ => True) [true, true, true, true, true, true, true, true, true, true, true, true, true, true, true, true, true, true, true, true, true, true, true, true] (by kernel_rfl) (by kernel_rfl) ?_
     repeat first
      | refine wpG_move' ?_
      | refine wpG_assign' ?_
      | refine wpG_val' ?_
      | refine wpG_no' ?_
     refine wpG_end (fun w5 hx5 => ?_)
     obtain ⟨R2, q1, q2, q3⟩ := HE.out
     have HE5 := Lib.hid (And.intro (show ArrR w5 g R2 post from hx5.blk q2) (q3.trans (ext_grown hx5 (some g))))
     clear hx5 HE q2 q3
     go_wp2_with fail
     refine gQ_normal ?_
     go_wp2_with fail
     go_roundw
     case rel => exact ⟨i + 1, R2, by simp, by omega, by omega, q1, HE5.out.1, HE5.out.2⟩
     case measure => simp [intOf]; omega
    ·rw [List.concat_eq_append] at hA HP HEND
     obtain ⟨k1, rfl⟩ : ∃ k1, k = k1 + 1 := ⟨k - 1, by have h := HP.out.1; rw [List.length_append] at h; simp at h; omega⟩
     have hk1 : P.length = k1 := by have h := HP.out.1; rw [List.length_append] at h; simp at h; omega
     obtain ⟨L, hL⟩ : ∃ L, P ++ [y] ++ x :: (Q ++ D) = L := ⟨_, rfl⟩
     have hLl : L.length = n := by
      rw [← hL]
      have h1 := HP.out.2.1
      have h2 := HD.out.2
      simp only [List.length_append, List.length_cons, List.length_nil] at h1 ⊢
      omega
     have hiy : ∃ hi : k1 < L.length, L[k1] = y := by
      subst hL hk1
      exact ⟨by simp, by simp⟩
     have hix : ∃ hi : k1 + 1 < L.length, L[k1 + 1] = x := by
      subst hL hk1
      exact ⟨by simp, by simp⟩
     obtain ⟨hiy, ey⟩ := hiy
     obtain ⟨hix, ex⟩ := hix
     rw [hL] at hA HEND
     obtain ⟨c0, c1, c2, c3⟩ := hA.get hiy
     obtain ⟨d0, d1, d2, d3⟩ := hA.get hix
     rw [ey] at c0 c1 c2 c3
     rw [ex] at d0 d1 d2 d3
     have hn1 : ((k1 : Nat) : Int) + 1 < (n : Nat) := by omega
     have hn0 : ((k1 : Nat) : Int) < (n : Nat) := by omega
     obtain ⟨xo, hxo⟩ : ∃ z, x.ord = z := ⟨_, rfl⟩
     obtain ⟨yo, hyo⟩ : ∃ z, y.ord = z := ⟨_, rfl⟩
     obtain ⟨xa, hxa⟩ : ∃ z, aR x = z := ⟨_, rfl⟩
     obtain ⟨ya, hya⟩ : ∃ z, aR y = z := ⟨_, rfl⟩
     obtain ⟨xb, hxb⟩ : ∃ z, x.bad = z := ⟨_, rfl⟩
     obtain ⟨yb, hyb⟩ : ∃ z, y.bad = z := ⟨_, rfl⟩
     obtain ⟨xc, hxc⟩ : ∃ z, cR x = z := ⟨_, rfl⟩
     obtain ⟨yc, hyc⟩ : ∃ z, cR y = z := ⟨_, rfl⟩
     have HV := Lib.hid (show Value.agg (elR y).toArray = .agg #[.int .i32 ya, .bool yb, .int .u8 yc, .int .i64 yo] ∧ Value.agg (elR x).toArray = .agg #[.int .i32 xa, .bool xb, .int .u8 xc, .int .i64 xo] by
      rw [← hya, ← hyb, ← hyc, ← hyo, ← hxa, ← hxb, ← hxc, ← hxo]; exact ⟨rfl, rfl⟩)
     have HO := Lib.hid (And.intro hyo hxo)
     rw [hya] at c0
     rw [hyb] at c1
     rw [hyc] at c2
     rw [hyo] at c3
     rw [hxa] at d0
     rw [hxb] at d1
     rw [hxc] at d2
     rw [hxo] at d3
     have y0 : ∀ w', EOn (fun _ => True) wr w' → w'.cell? ⟨g, k1 * 4, none⟩ = some (.int .i32 ya) := fun w' hx => hx.cell trivial c0
     have y1 : ∀ w', EOn (fun _ => True) wr w' → w'.cell? ⟨g, k1 * 4 + 1, none⟩ = some (.bool yb) := fun w' hx => hx.cell trivial c1
     have y2 : ∀ w', EOn (fun _ => True) wr w' → w'.cell? ⟨g, k1 * 4 + 2, none⟩ = some (.int .u8 yc) := fun w' hx => hx.cell trivial c2
     have y3 : ∀ w', EOn (fun _ => True) wr w' → w'.cell? ⟨g, k1 * 4 + 3, none⟩ = some (.int .i64 yo) := fun w' hx => hx.cell trivial c3
     have z0 : ∀ w', EOn (fun _ => True) wr w' → w'.cell? ⟨g, (k1 + 1) * 4, none⟩ = some (.int .i32 xa) := fun w' hx => hx.cell trivial d0
     have z1 : ∀ w', EOn (fun _ => True) wr w' → w'.cell? ⟨g, (k1 + 1) * 4 + 1, none⟩ = some (.bool xb) := fun w' hx => hx.cell trivial d1
     have z2 : ∀ w', EOn (fun _ => True) wr w' → w'.cell? ⟨g, (k1 + 1) * 4 + 2, none⟩ = some (.int .u8 xc) := fun w' hx => hx.cell trivial d2
     have z3 : ∀ w', EOn (fun _ => True) wr w' → w'.cell? ⟨g, (k1 + 1) * 4 + 3, none⟩ = some (.int .i64 xo) := fun w' hx => hx.cell trivial d3
     have HI := Lib.hid (And.intro hiy (And.intro hix (And.intro hL hk1)))
     have HAG := Lib.hid (And.intro hA hg)
     clear hL hLl hk1 hiy ey hix ex c0 c1 c2 c3 d0 d1 d2 d3 hxo hyo hxa hya hxb hyb hxc hyc hA hg
     by_cases h0 : 0 < xo
     ·by_cases h1 : xo < yo
      ·have e1 := decide_eq_true h1
       have H01 := Lib.hid (And.intro h0 h1)
       clear HEND
       go_wp2_with fail
       refine wp_lex (fun _ => True) [true, true, true, true, true, true, true, true, true, true, true, true, true, true, true, true, true, true, true, true, true, true, true, true] (by kernel_rfl) (by kernel_rfl) ?_
       repeat first
        | refine wpG_move' ?_
        | refine wpG_assign' ?_
        | refine wpG_val' ?_
        | refine wpG_no' ?_
       refine wpG_end (fun w5 hx5 => ?_)
       replace y0 := fun w' hx => y0 w' (EOn.trans (EOn.of_ext hx5) hx)
       replace y1 := fun w' hx => y1 w' (EOn.trans (EOn.of_ext hx5) hx)
       replace y2 := fun w' hx => y2 w' (EOn.trans (EOn.of_ext hx5) hx)
       replace y3 := fun w' hx => y3 w' (EOn.trans (EOn.of_ext hx5) hx)
       replace z0 := fun w' hx => z0 w' (EOn.trans (EOn.of_ext hx5) hx)
       replace z1 := fun w' hx => z1 w' (EOn.trans (EOn.of_ext hx5) hx)
       replace z2 := fun w' hx => z2 w' (EOn.trans (EOn.of_ext hx5) hx)
       replace z3 := fun w' hx => z3 w' (EOn.trans (EOn.of_ext hx5) hx)
       replace HAG := Lib.hid (And.intro (show ArrR w5 g L post from hx5.blk HAG.out.1) (HAG.out.2.trans (ext_grown hx5 (some g))))
       clear hx5
       go_wp2_with fail
       refine gQ_normal ?_
       go_wp2_with fail
       refine wp_reck (fun _ => True) [0, 1, 2, 3, 4, 5, 6, 7, 9, 10, 11, 12] [8, 13, 14, 15, 16, 17] [true, true] (by kernel_rfl) (by kernel_rfl) (by simp only [List.map_cons, List.map_nil, nth]; rfl) (by simp only [List.map_cons, List.map_nil, nth]; rfl) (fun wq hxq => ?_)
       repeat first
        | refine wpP_move' ?_
        | refine wpP_val' ?_
       refine wpP_end ?_
       replace y0 := fun w' hx => y0 w' (EOn.trans (EOn.of_ext hxq) hx)
       replace y1 := fun w' hx => y1 w' (EOn.trans (EOn.of_ext hxq) hx)
       replace y2 := fun w' hx => y2 w' (EOn.trans (EOn.of_ext hxq) hx)
       replace y3 := fun w' hx => y3 w' (EOn.trans (EOn.of_ext hxq) hx)
       replace z0 := fun w' hx => z0 w' (EOn.trans (EOn.of_ext hxq) hx)
       replace z1 := fun w' hx => z1 w' (EOn.trans (EOn.of_ext hxq) hx)
       replace z2 := fun w' hx => z2 w' (EOn.trans (EOn.of_ext hxq) hx)
       replace z3 := fun w' hx => z3 w' (EOn.trans (EOn.of_ext hxq) hx)
       replace HAG := Lib.hid (And.intro (show ArrR wq g L post from hxq.blk HAG.out.1) (HAG.out.2.trans (ext_grown hxq (some g))))
       clear hxq
       repeat first
        | refine wpG_move' ?_
        | refine wpG_assign' ?_
        | refine wpG_val' ?_
        | refine wpG_no' ?_
       refine wpG_end (fun w6 hx6 => ?_)
       have hA6 : ArrR w6 g L post := hx6.blk HAG.out.1
       have hg6 := HAG.out.2.trans (ext_grown hx6 (some g))
       clear hx6 y0 y1 y2 y3 z0 z1 z2 z3 HAG
       have hS1 := hA6.setR HI.out.1 x
       have hI1 : k1 + 1 < (L.set k1 x).length := by rw [List.length_set]; exact HI.out.2.1
       have hS2 := hS1.setR hI1 y
       have hsw : (L.set k1 x).set (k1 + 1) y = P ++ x :: (y :: (Q ++ D)) := by
        rw [← HI.out.2.2.1, ← HI.out.2.2.2]
        simp
       rw [hsw] at hS2
       have HG := Lib.hid ((hg6.trans (setR_grown w6 g (k1 * 4) x)).trans (setR_grown (setR w6 g (k1 * 4) x) g ((k1 + 1) * 4) y))
       have HA6 := Lib.hid hA6
       have HS1 := Lib.hid hS1
       have HS2 := Lib.hid hS2
       have HI1 := Lib.hid hI1
       clear hsw hA6 hS1 hS2 hg6 hI1
       go_wp2_with (first | (refine wpList_storeR rfl (.tmp 51) (.tmp 45) rfl (i := k1) x rfl HV.out.2.symm rfl HA6.out HI.out.1 ?_; obtain ⟨W1, hW1⟩ : ∃ W, setR w6 g (k1 * 4) x = W := ⟨_, rfl⟩; rw [hW1] at HS1 HS2 HG ⊢; clear hW1 HA6) | (refine wpList_storeR rfl (.tmp 52) (.tmp 50) rfl (i := k1 + 1) y rfl HV.out.1.symm rfl HS1.out HI1.out ?_; obtain ⟨W2, hW2⟩ : ∃ W, setR W1 g ((k1 + 1) * 4) y = W := ⟨_, rfl⟩; rw [hW2] at HS2 HG ⊢; clear hW2 HS1))
       refine gQ_normal ?_
       go_wp2_with fail
       go_roundw
       case rel =>
        refine ⟨k1, P, y :: Q, by simp, by omega, Lib.hid ⟨HI.out.2.2.2, ?_, ?_, ?_, ?_⟩, ?_, HG.out⟩
        ·have := HP.out.2.1
         simp only [List.length_append, List.length_cons, List.length_nil] at this ⊢
         omega
        ·have := HP.out.2.2.1
         simpa using this
        ·intro u hu
         obtain rfl : y = u := by simpa using hu
         rw [HO.out.1, HO.out.2]
         exact H01.out
        ·have h2 := HP.out.2.2.2.2
         rw [HD.out.1, ← h2, List.append_assoc]
         refine sortL_front P ?_
         show sortL (x :: y :: (Q ++ D)) = sortL (y :: x :: (Q ++ D))
         exact (sortL_two (by rw [HO.out.1, HO.out.2]; exact H01.out) _).symm
        ·rw [HD.out.1]
         exact HS2.out
       case measure => simp [intOf]
      ·have e1 := decide_eq_false h1
       have HE := Lib.hid (HEND.out wr HAG.out.1 HAG.out.2 (fun u hu => by
        obtain rfl : y = u := by simpa using hu
        have := HO.out
        omega))
       clear HEND
       go_wp2_with fail
       refine wp_lex (fun _ => True) [true, true, true, true, true, true, true, true, true, true, true, true, true, true, true, true, true, true, true, true, true, true, true, true] (by kernel_rfl) (by kernel_rfl) ?_
       repeat first
        | refine wpG_move' ?_
        | refine wpG_assign' ?_
        | refine wpG_val' ?_
        | refine wpG_no' ?_
       clear y0 y1 y2 y3 z0 z1 z2 z3
       refine wpG_end (fun w5 hx5 => ?_)
       obtain ⟨R2, q1, q2, q3⟩ := HE.out
       have HE5 := Lib.hid (And.intro (show ArrR w5 g R2 post from hx5.blk q2) (q3.trans (ext_grown hx5 (some g))))
       clear hx5 HE q2 q3
       go_wp2_with fail
       refine gQ_normal ?_
       go_wp2_with fail
       go_roundw
       case rel => exact ⟨i + 1, R2, by simp, by omega, by omega, q1, HE5.out.1, HE5.out.2⟩
       case measure => simp [intOf]; omega
     ·have e0 := decide_eq_false h0
      have HE := Lib.hid (HEND.out wr HAG.out.1 HAG.out.2 (fun u hu => by
       obtain rfl : y = u := by simpa using hu
       have := HO.out
       omega))
      clear HEND
      go_wp2_with fail
      refine wp_lex (fun _ => True) [true, true, true, true, true, true, true, true, true, true, true, true, true, true, true, true, true, true, true, true, true, true, true, true] (by kernel_rfl) (by kernel_rfl) ?_
      repeat first
       | refine wpG_move' ?_
       | refine wpG_assign' ?_
       | refine wpG_val' ?_
       | refine wpG_no' ?_
      clear y0 y1 y2 y3 z0 z1 z2 z3
      refine wpG_end (fun w5 hx5 => ?_)
      obtain ⟨R2, q1, q2, q3⟩ := HE.out
      have HE5 := Lib.hid (And.intro (show ArrR w5 g R2 post from hx5.blk q2) (q3.trans (ext_grown hx5 (some g))))
      clear hx5 HE q2 q3
      go_wp2_with fail
      refine gQ_normal ?_
      go_wp2_with fail
      go_roundw
      case rel => exact ⟨i + 1, R2, by simp, by omega, by omega, q1, HE5.out.1, HE5.out.2⟩
      case measure => simp [intOf]; omega
  ·have hd : decide (i < n) = false := decide_eq_false hlt
   have hI : ¬ ((i : Nat) : Int) < (n : Nat) := by omega
   have HE := Lib.hid (show ArrR wr g (sortL R) post ∧ w.grownBy wr (some g) by
    have h1 := HR.out.2.2
    rw [List.take_of_length_le (by have := HR.out.1; omega)] at h1
    rw [← HR.out.2.1, h1.eq]
    exact ⟨hA, hg⟩)
   clear hA hg
   go_wp2_with fail
   refine bodyPost_end (results_none rfl _ _ _) rfl ?_
   exact ⟨rfl, HE.out.1, HE.out.2⟩
/-- A row of the call's own, sorted. -/
theorem c_rsorted (n cap : Nat) (p : Option Addr) (R : List El) (w : World) (h : w.ownsRow n 96 4 (.slice p R.length cap) R.length (elRs R)) (hn : n ≤ w.heap.size) (hl : R.length ≤ 100000000) :
  Calls Tryz.prog 57 #[.slice p R.length cap] w fun e w' => e = .returned (.tuple #[]) ∧ w'.ownsRow n 96 4 (.slice p R.length cap) R.length (elRs (sortL R)) ∧ Below n w w' := by
 by_cases hR : R = []
 ·subst hR
  have HH := Lib.hid h
  clear h
  go_enter Tryz.func57, Tryz.ntmps57
  go_wp2_with fail
  go_loopw [2] (fun iv W => iv = .int .i64 1 ∧ Hid (W.ownsRow n 96 4 (.slice p 0 cap) 0 [] ∧ Below n w W)) (fun _ _ => 0)
  case atStart => exact ⟨rfl, Lib.hid ⟨HH.out, Below.refl _ _⟩⟩
  case round =>
   obtain ⟨rfl, HZ⟩ := hrel
   go_wp2_with fail
   refine bodyPost_end (results_none rfl _ _ _) rfl ?_
   exact ⟨rfl, HZ.out.1, HZ.out.2⟩
 ·obtain ⟨g, post, rfl, hg, hA, hc, hm, hsz⟩ := arrR_of h hR
  refine (c_rsortedA g cap post R w hA hl).mono ?_
  rintro e w' ⟨rfl, hA', hgr⟩
  refine ⟨rfl, ?_, ?_⟩
  ·have h2 : (elRs (sortL R) ++ post).length = cap * 4 := by
    rw [List.length_append, elRs_length] at hsz ⊢
    rw [sortL_len]
    exact hsz
   have h1 := own_of_arr hA' hg (by rw [sortL_len]; exact hc) hm h2
   rw [sortL_len] at h1
   exact h1
  ·exact Below.grown (Below.refl n w) hgr hn (fun k e => by cases e; exact hg)
end Go.Proofs.YtokeamebcdhnpaaGreatDoor
end
