/-
  A text without what ends its line.
-/
import Derived.Test.YtlmkbldiicbejaaGreatDoorLnIJ
namespace Go.Proofs.YtlmkbldiicbejaaGreatDoor
open Go.RowKit Go.Rp Go.Maps Go.Cl Go.Shelf Go.Gr Go.Ln

set_option maxRecDepth 100000 in
set_option maxHeartbeats 2000000 in
theorem c_CloneS (B : Nat) (v : Value) (l : List (List UInt8)) (w : World) (h : w.ownsRow B 9 1 v l.length (strW l)) (hl : l.length ≤ 10000) (h0 : 0 < l.length) :
    Calls Tryz.prog 86 #[v] w fun e w' => ∃ v', e = .returned v' ∧ w'.ownsRow w.heap.size 9 1 v' l.length (strW l) ∧ Ext w w' := by
  have q22 : ∀ (w : World) (a : Option Addr) (n c n' c' : Nat), (binOp .eql 99 (.slice a n c) (.slice none n' c')).run Tryz.prog w = .ok (.bool a.isNone) w := fun w a n c n' c' => Lib.run_eql_slice_nil w _ _ a n c n' c' Tryz.underlying99
  obtain ⟨i0, hi0, hz0, hz1, hz3⟩ := info_parts Tryz.infoStr
  obtain ⟨p, cap, rfl⟩ := own_slice h
  obtain ⟨g, rfl, _, hg, hcel⟩ := own_at h h0
  have hsl : (strW l).length = l.length := by simp [strW]
  have HCE := Lib.hid hcel
  clear hcel h
  go_enter Tryz.func86, Tryz.ntmps86
  go_wp2_with (at_builtin; refine Hid.out ?_)
  refine Lib.hid ?_
  refine wpList_apps rfl (.tmp 5) (.tmp 6) 99 rfl 9 i0 (.string ByteArray.empty) 1 16 Tryz.underlying99 hi0 hz0 hz1 hz3 rfl (by decide) rfl (W0 := w) (World.ownsRow_made w #[] 0 (Nat.le_refl _) (Nat.zero_le _) rfl) ((Ext.refl _).alloc _) (strW l) g 0 l.length cap rfl (by rw [hsl]; omega) ?a1 (by intro u hu; obtain ⟨k, _, rfl⟩ := List.mem_map.mp hu; rfl) ?a2 (by decide) ?_
  case a1 =>
    intro j hj
    rw [Nat.zero_add]
    exact ((Ext.refl w).alloc _).cell ((HCE.out j (by omega)).trans (List.getElem?_eq_getElem hj))
  case a2 => omega
  intro v' w9 hown9 hx9 _
  have HO := Lib.hid (And.intro (show w9.ownsRow w.heap.size 9 1 v' l.length (strW l) by simpa using hown9) hx9)
  clear hown9 hx9
  go_wp2_with fail
  exact ret_one rfl rfl rfl ⟨_, rfl, HO.out.1, HO.out.2⟩
set_option maxRecDepth 100000 in
set_option maxHeartbeats 2000000 in
theorem c_Names (db : Nat) (N : List (List UInt8)) (D : List (Nat × Nat × Nat)) (w : World) (h : DbIs w db N D) (hl : N.length ≤ 10000) (h0 : 0 < N.length) :
    Calls Tryz.prog 62 #[.pointer (some ⟨db, 0, none⟩)] w fun e w' => ∃ v', e = .returned v' ∧ w'.ownsRow w.heap.size 9 1 v' N.length (strW N) ∧ Ext w w' := by
  obtain ⟨nv, mb, sv, rv, hd, ⟨B, hn⟩, _, _⟩ := h.ex
  have d0 := (cell_blk hd 0).trans rfl
  have HC := Lib.hid (c_CloneS B nv N w hn hl h0)
  obtain ⟨p, cap, rfl⟩ := own_slice hn
  clear hd hn
  go_enter Tryz.func62, Tryz.ntmps62
  go_wp2_with fail
  refine HC.out.mono ?_
  rintro e w1 ⟨v', rfl, h1, h2⟩
  have HO := Lib.hid (And.intro h1 h2)
  clear h1 h2 HC
  go_wp2_with fail
  exact ret_one rfl rfl rfl ⟨_, rfl, HO.out.1, HO.out.2⟩
theorem extract_all (s : ByteArray) : s.extract 0 s.size = s := by simp
theorem extract_extract0 (s : ByteArray) (m k : Nat) (hk : k ≤ m) : (s.extract 0 m).extract 0 k = s.extract 0 k := by
  rw [ByteArray.extract_extract]
  congr 1
  omega
theorem emp_zero {s : ByteArray} (h : s.size = 0) : s.toList.isEmpty = true := by
  have he : s = ⟨#[]⟩ := by
    have := len_eq s
    rw [h] at this
    have h2 := List.length_eq_zero_iff.1 this
    cases s with
    | mk d => congr 1; exact Array.toList_eq_nil_iff.1 h2
  rw [he]
  exact (show (⟨#[]⟩ : ByteArray).toList.isEmpty = true by kernel_rfl)
theorem nmL_at (c : Nat) (hc : c < 26) : ∃ x, (namesP textLp.data.toList)[c]? = some x := ⟨_, List.getElem?_eq_getElem (by rw [lenL]; exact hc)⟩
theorem nm_ne {i j : Nat} {x y : List UInt8} (hi : (namesP textLp.data.toList)[i]? = some x) (hj : (namesP textLp.data.toList)[j]? = some y) (h : i ≠ j) : x ≠ y := by
  obtain ⟨h1, rfl⟩ := List.getElem?_eq_some_iff.1 hi
  obtain ⟨h2, rfl⟩ := List.getElem?_eq_some_iff.1 hj
  have hp := List.pairwise_iff_getElem.1 nodL
  rcases Nat.lt_or_gt_of_ne h with h3 | h3
  · exact hp i j h1 h2 h3
  · exact fun e => hp j i h2 h1 h3 e.symm
set_option maxRecDepth 100000 in
set_option maxHeartbeats 2000000 in
theorem c_inner (db : Nat) (s : ByteArray) (w : World) (hD : DbIs w db (namesP textLp.data.toList) rngL) (hT : TabsW w) (hz : s.size ≤ 65536) :
    Calls Tryz.prog 50 #[.pointer (some ⟨db, 0, none⟩), .string s] w fun e w' => e = .returned (.string (s.extract 0 (trailL okI s.size s.data.toList))) ∧ Ext w w' := by
  have HT := Lib.hid hT
  have HD := Lib.hid hD
  obtain ⟨E, hE⟩ : ∃ E, trailL okI s.size s.data.toList = E := ⟨_, rfl⟩
  rw [hE]
  have HE := Lib.hid hE
  have HN := Lib.hid (c_Names db _ _ w hD (by rw [lenL]; omega) (by rw [lenL]; omega))
  clear hT hD hE
  go_enter Tryz.func50, Tryz.ntmps50
  go_wp2_with fail
  refine wp_scope_straight ?_
  go_wp2_with fail
  refine HN.out.mono ?_
  rintro e w1 ⟨v, rfl, h1, h2⟩
  have HNR := Lib.hid h1
  have HX1 := Lib.hid h2
  obtain ⟨pn, cn, rfl⟩ := own_slice h1
  clear h1 h2 HN
  go_wp2_with fail
  refine wp_label ?_
  go_wp2_with fail
  have HNM := Lib.hid (fun (c : Nat) (hc : c < 26) => nmL_at c hc)
  have hlenL := lenL
  have HNI := Lib.hid (fun (i j : Nat) (x y : List UInt8) => @nm_ne i j x y)
  have HN1 := Lib.hid nmL1
  have HN2 := Lib.hid nmL2
  have HN3 := Lib.hid nmL3
  generalize namesP textLp.data.toList = NL at HNM hlenL HNI HN1 HN2 HN3 HNR HD ⊢
  rw [hlenL] at HNR ⊢
  clear hlenL
  obtain ⟨gn, rfl, _, _, hnc⟩ := own_at HNR.out (by omega)
  have HNC := Lib.hid hnc
  clear hnc
  go_loopw [1, 6, 7] (fun sv _ _ W => ∃ (m f : Nat), sv = .string (s.extract 0 m) ∧ m ≤ f ∧ m ≤ s.size ∧ Hid (trailL okI f (s.extract 0 m).data.toList = E) ∧ Hid (Ext w1 W)) (fun sv _ _ _ => match sv with | .string t => t.size | _ => 0)
  case atStart => exact ⟨s.size, s.size, by congr 1; exact (extract_all s).symm, Nat.le_refl _, Nat.le_refl _, by rw [extract_all]; exact HE, Lib.hid (Ext.refl _)⟩
  case round =>
    obtain ⟨m, f, rfl, hf, hts, HF, HX⟩ := hrel
    obtain ⟨W, rfl⟩ : ∃ W, W = wr := ⟨_, rfl⟩
    have hsz : (s.extract 0 m).size = m := by simp; omega
    have HEX := Lib.hid (fun k (hk : k ≤ m) => show (s.extract 0 m).extract 0 k = s.extract 0 k from extract_extract0 s m k hk)
    have HTK := Lib.hid (show ∀ k, k ≤ m → (s.extract 0 k).data.toList = (s.extract 0 m).data.toList.take k from fun k hk => by rw [← HEX.out k hk, toList_extract]; simp)
    generalize ht : s.extract 0 m = t at HF hsz HEX HTK ⊢
    have HTE := Lib.hid ht
    clear ht
    by_cases h0 : m = 0
    · have HM0 := Lib.hid h0
      have hne : t.toList.isEmpty = true := emp_zero (by omega)
      have HR := Lib.hid (show E = 0 by
        rw [← HF.out]
        have : t.data.toList = [] := List.length_eq_zero_iff.1 ((len_eq t).trans (by omega))
        rw [this]
        cases f with
        | zero => simp [trailL]
        | succ f => simp [trailL])
      clear h0
      go_wp2_with fail
      refine noGoto_ret (bodyPost_ret (results_tmp rfl _ _ _) rfl ⟨?_, HX1.out.trans HX.out⟩)
      rw [show s.extract 0 E = t by have h1 := HM0.out; have h2 := HR.out; have h3 := HTE.out; rw [h2]; rw [h1] at h3; exact h3]
      rfl
    · have hne := emp_false (s := t) (by omega)
      have hl := size_neL (s := t) (by omega)
      obtain ⟨f', rfl⟩ : ∃ f', f = f' + 1 := ⟨f - 1, by omega⟩
      have HST := Lib.hid (show E = if okI (Lib.decodeLastL t.data.toList).1 = true then trailL okI f' (t.data.toList.take (t.data.toList.length - (Lib.decodeLastL t.data.toList).2)) else m by
        rw [← HF.out, trailL, if_neg hl, len_eq, hsz])
      have HL := Lib.hid (c_uLast t W (HT.out.ext (HX1.out.trans HX.out)) (by omega) (by omega))
      obtain ⟨hw1, hw2, hw3⟩ := lastL_wid t.data.toList hl
      rw [len_eq] at hw2 HST
      generalize Lib.decodeLastL t.data.toList = d at HL HST hw1 hw2 hw3
      clear hl h0
      go_wp2_with fail
      refine HL.out.mono ?_
      rintro e w2 ⟨rfl, hx⟩
      replace HX := Lib.hid (HX.out.trans hx)
      clear hx HL
      go_wp2_with fail
      refine (c_Get db _ rngL d.1 w2 (HD.out.ext (HX1.out.trans HX.out)) rngL_rise (by have := rngL_len; omega) (by omega) (by omega)).mono ?_
      rintro e w3 ⟨rfl, hx⟩
      replace HX := Lib.hid (HX.out.trans hx)
      clear hx
      rw [rnN_nat _ hw3]
      have HC := Lib.hid (show okI d.1 = decide (getR rngL d.1 = 1 ∨ getR rngL d.1 = 2 ∨ getR rngL d.1 = 3) from rfl)
      have hcl : getR rngL d.1 < 26 := by have := clsL_le d.1; unfold clsL at this; omega
      have htI : ((m : Nat) : Int) ≤ 65536 := by omega
      have hd2 : ((d.2 : Nat) : Int) ≤ (m : Nat) := by omega
      have hd3 : (1 : Int) ≤ ((d.2 : Nat) : Int) := by omega
      generalize getR rngL d.1 = c at HC hcl ⊢
      obtain ⟨x, hx⟩ := HNM.out c hcl
      have hcI : ((c : Nat) : Int) < 26 := by omega
      have hdc : decide (c < 26) = true := decide_eq_true hcl
      have hcell : w3.cell? ⟨gn, c, none⟩ = some (.string ⟨x.toArray⟩) := HX.out.cell ((HNC.out c (by omega)).trans (by simp [strW, hx]))
      by_cases hc : c ∈ [1, 2, 3]
      · have HOK := Lib.hid (show E = trailL okI f' (s.extract 0 (m - d.2)).data.toList by
          rw [HST.out, HTK.out (m - d.2) (by omega), if_pos (by rw [HC.out]; simpa using hc), hsz])
        simp only [List.mem_cons, List.not_mem_nil, or_false] at hc
        clear HC
        rcases hc with rfl | rfl | rfl
        · obtain rfl := Option.some.inj (hx.symm.trans HN1.out)
          clear hx
          go_wp2_with fail
          exact ⟨⟨m - d.2, f', by congr 1; exact HEX.out _ (by omega), by omega, by omega, Lib.hid HOK.out.symm, HX⟩, by simp; omega⟩
        · obtain rfl := Option.some.inj (hx.symm.trans HN2.out)
          clear hx
          go_wp2_with fail
          exact ⟨⟨m - d.2, f', by congr 1; exact HEX.out _ (by omega), by omega, by omega, Lib.hid HOK.out.symm, HX⟩, by simp; omega⟩
        · obtain rfl := Option.some.inj (hx.symm.trans HN3.out)
          clear hx
          go_wp2_with fail
          exact ⟨⟨m - d.2, f', by congr 1; exact HEX.out _ (by omega), by omega, by omega, Lib.hid HOK.out.symm, HX⟩, by simp; omega⟩
      · have h1 : x ≠ [66, 107] := HNI.out c 1 x _ hx HN1.out (fun e => hc (by rw [e]; decide))
        have h2 : x ≠ [67, 114] := HNI.out c 2 x _ hx HN2.out (fun e => hc (by rw [e]; decide))
        have h3 : x ≠ [76, 102] := HNI.out c 3 x _ hx HN3.out (fun e => hc (by rw [e]; decide))
        have HNO := Lib.hid (show m = E by
          rw [HST.out, if_neg (by rw [HC.out]; simpa using hc)])
        have b1 : (x == [66, 107]) = false := beq_eq_false_iff_ne.2 h1
        have b2 : (x == [67, 114]) = false := beq_eq_false_iff_ne.2 h2
        have b3 : (x == [76, 102]) = false := beq_eq_false_iff_ne.2 h3
        clear HC hc hx h1 h2 h3
        go_wp2_with fail
        refine noGoto_ret (bodyPost_ret (results_tmp rfl _ _ _) rfl ⟨?_, HX1.out.trans HX.out⟩)
        rw [← HNO.out, HTE.out]
        rfl
end Go.Proofs.YtlmkbldiicbejaaGreatDoor
