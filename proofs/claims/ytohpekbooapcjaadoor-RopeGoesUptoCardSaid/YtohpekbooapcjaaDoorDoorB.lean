/-
  The rune at a place of a rope; what is known of the text ahead of a place, or of the rune in which it is.
-/
import Derived.Test.YtohpekbooapcjaaDoorDoorA
namespace Go.Proofs.YtohpekbooapcjaaDoor
open Go.RowKit Go.Rp

theorem runeAt_pl (s : ByteArray) (k : Nat) (hk : k < s.size) (h : edge s.data.toList k) : runeAt (marks s.size s.data.toList 0) (k : Nat) = (run (s.data.toList.drop k), wid (s.data.toList.drop k)) := by
  have hl := len_eq s
  obtain ⟨m, hm, hmk⟩ := (marks_edge s.size s.data.toList 0 (by omega) k).2 ⟨by omega, by omega, h⟩
  unfold runeAt
  cases hf : (marks s.size s.data.toList 0).find? (fun m => ((m.2.1 : Nat) : Int) == (k : Nat)) with
  | none =>
    have := List.find?_eq_none.1 hf m hm
    simp [hmk] at this
  | some m2 =>
    have h1 := List.find?_some hf
    have h2 := List.mem_of_find?_eq_some hf
    obtain ⟨i, hi, rfl⟩ := List.getElem_of_mem h2
    obtain ⟨q, g1, g2, g3, g4⟩ := marks_get s.size s.data.toList 0 i (by omega) hi
    rw [g1] at h1 ⊢
    simp only [Nat.zero_add, beq_iff_eq] at h1 ⊢
    obtain rfl : q = k := by omega
    simp
theorem runeAt_not (s : ByteArray) (q : Int) (h : ∀ k : Nat, q = (k : Nat) → k < s.size → ¬ edge s.data.toList k) : runeAt (marks s.size s.data.toList 0) q = (0, 0) := by
  have hl := len_eq s
  unfold runeAt
  cases hf : (marks s.size s.data.toList 0).find? (fun m => ((m.2.1 : Nat) : Int) == q) with
  | none => rfl
  | some m2 =>
    have h1 := List.find?_some hf
    have h2 := List.mem_of_find?_eq_some hf
    simp only [beq_iff_eq] at h1
    obtain ⟨g1, g2, g3⟩ := (marks_edge s.size s.data.toList 0 (by omega) m2.2.1).1 ⟨m2, h2, rfl⟩
    exact absurd g3 (h m2.2.1 h1.symm (by omega))

theorem dec_window (l : List UInt8) (k : Nat) (hk : k < l.length) : dec (((l.drop (k - 3)).take (min l.length (k + 4) - (k - 3))).drop (k - (k - 3))) = dec (l.drop k) := by
  rw [List.drop_take, List.drop_drop, show k - 3 + (k - (k - 3)) = k from by omega]
  exact dec_takes _ _ (by rw [List.length_drop]; omega)

set_option maxRecDepth 100000 in
set_option maxHeartbeats 2000000 in
/-- The rune at a place. -/
theorem c_Rune (v : Value) (o : Option T) (q : Int) (w : World) (h : IsRope w v o) (hT : Lib.Utf8Tabs 0 1 w) (hs : (txt o).size ≤ 1048576) :
    Calls Tryd.prog 43 #[v, .int .i64 q] w fun e w' => e = .returned (.tuple #[.int .i32 ((runeAt (marks (txt o).size (txt o).data.toList 0) q).1 : Nat), .int .i64 ((runeAt (marks (txt o).size (txt o).data.toList 0) q).2 : Nat)]) ∧ Ext w w' := by
  have hX := Ext.refl w
  have hl := len_eq (txt o)
  by_cases h0 : q < 0
  · have R := Lib.hid (runeAt_not (txt o) q (fun k hk => by omega))
    go_enter Tryd.func43, Tryd.ntmps43
    go_wp2_with fail
    rw [R.out]
    exact ret_two rfl rfl rfl rfl ⟨rfl, hX⟩
  by_cases h1 : ((txt o).size : Int) ≤ q
  · have R := Lib.hid (runeAt_not (txt o) q (fun k hk => by omega))
    go_enter Tryd.func43, Tryd.ntmps43
    go_wp2_with fail
    refine (c_Len v o _ h (by omega)).mono ?_
    rintro e u1 ⟨rfl, hx⟩
    replace hX := hX.trans hx
    clear hx
    go_wp2_with fail
    rw [R.out]
    exact ret_two rfl rfl rfl rfl ⟨rfl, hX⟩
  obtain ⟨k, rfl⟩ : ∃ k : Nat, q = (k : Int) := ⟨q.toNat, by omega⟩
  have hk : k < (txt o).size := by omega
  by_cases he : edge (txt o).data.toList k
  · have R := Lib.hid (runeAt_pl (txt o) k hk he)
    have HE := Lib.hid he
    have hd := dec_window (txt o).data.toList k (by omega)
    rw [hl, ← toList_extract] at hd
    have z2 : ((txt o).extract (k - 3) (min (txt o).size (k + 4))).size ≤ 7 := by rw [ByteArray.size_extract]; omega
    have z3 : k - (k - 3) < ((txt o).extract (k - 3) (min (txt o).size (k + 4))).size := by rw [ByteArray.size_extract]; omega
    obtain ⟨u, hu⟩ : ∃ u, (txt o).extract (k - 3) (min (txt o).size (k + 4)) = u := ⟨_, rfl⟩
    obtain ⟨n, hn⟩ : ∃ n, k - (k - 3) = n := ⟨_, rfl⟩
    rw [hu, hn] at hd z3
    rw [hu] at z2
    have z4 : 0 < (u.extract n u.size).size := by rw [ByteArray.size_extract]; omega
    have hu2 : (u.extract n u.size).data.toList = u.data.toList.drop n := by
      rw [toList_extract, take_all (by rw [List.length_drop, len_eq]; omega)]
    have D1 := Lib.hid (show run (u.extract n u.size).data.toList = run ((txt o).data.toList.drop k) by rw [hu2]; exact congrArg Prod.fst hd)
    have D2 := Lib.hid (show wid (u.extract n u.size).data.toList = wid ((txt o).data.toList.drop k) by rw [hu2]; exact congrArg Prod.snd hd)
    have HU := Lib.hid hu
    have HN := Lib.hid hn
    clear he hd hu hn hu2
    go_enter Tryd.func43, Tryd.ntmps43
    go_wp2_with fail
    refine (c_Len v o _ h (by omega)).mono ?_
    rintro e u2 ⟨rfl, hx⟩
    replace hX := hX.trans hx
    replace h := h.mono hx
    clear hx
    go_wp2_with fail
    refine (c_edge v o k true _ h (tabs_mono hX hT) (by omega) hs (by omega) ⟨fun _ => HE.out, fun _ => rfl⟩).mono ?_
    rintro e u3 ⟨rfl, hx⟩
    replace hX := hX.trans hx
    replace h := h.mono hx
    clear hx
    go_wp2_with fail
    refine (c_near v o k _ h (by omega) hs (by omega)).mono ?_
    rintro e u4 ⟨rfl, hx⟩
    replace hX := hX.trans hx
    replace h := h.mono hx
    clear hx
    rw [HU.out, HN.out]
    go_wp2_with fail
    refine (c_Decode (u.extract n u.size) _ (tabs_mono hX hT) z4).mono ?_
    rintro e u5 ⟨rfl, hx⟩
    replace hX := hX.trans hx
    clear hx
    rw [D1.out, D2.out]
    go_wp2_with fail
    rw [R.out]
    exact ret_two rfl rfl rfl rfl ⟨rfl, hX⟩
  · have R := Lib.hid (runeAt_not (txt o) (k : Nat) (fun k2 hk2 _ => by
      obtain rfl : k = k2 := by omega
      exact he))
    have HE := Lib.hid he
    clear he
    go_enter Tryd.func43, Tryd.ntmps43
    go_wp2_with fail
    refine (c_Len v o _ h (by omega)).mono ?_
    rintro e u6 ⟨rfl, hx⟩
    replace hX := hX.trans hx
    replace h := h.mono hx
    clear hx
    go_wp2_with fail
    refine (c_edge v o k false _ h (tabs_mono hX hT) (by omega) hs (by omega) ⟨fun h => (by cases h), fun h => absurd h HE.out⟩).mono ?_
    rintro e u7 ⟨rfl, hx⟩
    replace hX := hX.trans hx
    replace h := h.mono hx
    clear hx
    go_wp2_with fail
    rw [R.out]
    exact ret_two rfl rfl rfl rfl ⟨rfl, hX⟩

set_option maxRecDepth 100000 in
set_option maxHeartbeats 4000000 in
/-- What is known of the text ahead of a place. -/
theorem c_ahead (v : Value) (o : Option T) (n : Int) (w : World) (h : IsRope w v o) (hT : Lib.Utf8Tabs 0 1 w) (hs : (txt o).size ≤ 1048576) :
    Calls Tryd.prog 30 #[v, .int .i64 n] w fun e w' => e = .returned (.agg (sumA ((txt o).extract 0 (eb (txt o).data.toList (clampN n (txt o)))))) ∧ Ext w w' := by
  have hk : clampN n (txt o) ≤ (txt o).size := by unfold clampN; omega
  have hk2 : min (max n 0) ((txt o).size : Int) = (clampN n (txt o) : Nat) := by unfold clampN; omega
  generalize clampN n (txt o) = k at hk hk2
  have HK := Lib.hid hk2
  clear hk2
  go_enter Tryd.func30, Tryd.ntmps30
  go_upto_region 1 with fail
  refine wp_gen (fun W => Ext w W ∧ W.heap[w.heap.size]? = some (.cells #[.int .i64 0, .int .i64 0, .int .i64 0, .int .i64 0, .string { data := #[] }, .string { data := #[] }] 57 (0, 0))) ⟨(Ext.refl w).alloc _, alloc_blk _ _⟩ (fun w0 hw0 => ?_)
  obtain ⟨hX, hb0⟩ := hw0
  go_wp2_with fail
  refine (c_Len v o _ (h.mono hX) (by omega)).mono ?_
  rintro e w1 ⟨rfl, hx1⟩
  go_wp2_with fail
  rw [HK.out]
  replace hX := hX.trans hx1
  replace hb0 := hx1.blk hb0
  obtain ⟨na, hna, ca⟩ := node_of h hX
  refine ca.mono ?_
  rintro e w3 ⟨rfl, rfl⟩
  clear ca hx1
  cases h with
  | nil =>
    obtain rfl : na = .nilIface := hna
    have hc1 := cell_blk hb0
    have hf1 := frz_blk hb0
    have hk0 : k = 0 := by simpa [txt] using hk
    subst hk0
    go_wp2_with fail
    refine Q_gen (fun W => Ext w W ∧ W.heap[w.heap.size]? = some (.cells (sumA ByteArray.empty) 57 (0, 0))) ⟨?_, ?_⟩ (fun W hW => ?_)
    · repeat refine Ext.setCell ?_ (Nat.le_refl _) _
      exact hX
    · exact (set6_blk hb0 _ _ _ _ _ _).trans (by rw [sumA_empty])
    · obtain ⟨hx7, hb7⟩ := hW
      rw [sumA_empty] at hb7
      have hc7 := cell_blk hb7
      have e0 : (txt none).extract 0 (eb (txt none).data.toList 0) = ByteArray.empty := rfl
      rw [e0, sumA_empty]
      exact bodyPost_ret (by simp [results, Tryd.results30, go_sem, hc7]) rfl ⟨rfl, hx7⟩
  | mk b n' o hn' hc =>
    have hr := IsRope.mk b n' o hn' hc
    rcases hn'.iface with ⟨rfl, rfl⟩ | ⟨T0, x0, t0, rfl, rfl, hn0⟩
    · have hn1 : na = .nilIface := hna
      subst hn1
      have hc1 := cell_blk hb0
      have hf1 := frz_blk hb0
      have hk0 : k = 0 := by simpa [txt] using hk
      subst hk0
      go_wp2_with fail
      refine Q_gen (fun W => Ext w W ∧ W.heap[w.heap.size]? = some (.cells (sumA ByteArray.empty) 57 (0, 0))) ⟨?_, ?_⟩ (fun W hW => ?_)
      · repeat refine Ext.setCell ?_ (Nat.le_refl _) _
        exact hX
      · exact (set6_blk hb0 _ _ _ _ _ _).trans (by rw [sumA_empty])
      · obtain ⟨hx7, hb7⟩ := hW
        rw [sumA_empty] at hb7
        have hc7 := cell_blk hb7
        have e0 : (txt none).extract 0 (eb (txt none).data.toList 0) = ByteArray.empty := rfl
        rw [e0, sumA_empty]
        exact bodyPost_ret (by simp [results, Tryd.results30, go_sem, hc7]) rfl ⟨rfl, hx7⟩
    · obtain ⟨T1, x1, rfl⟩ := (show IsNode _ na t0 from hna).iface
      have hkt : k ≤ t0.text.size := hk
      have hpos := hn0.size
      go_wp2_with fail
      go_loopw [1] (fun x w' => ∃ j : Nat, x = .int .i64 (j : Nat) ∧ j ≤ k ∧ Hid (eb t0.text.data.toList j = eb t0.text.data.toList k) ∧ Ext w3 w') (fun x _ => (intOf x).toNat)
      case atStart => exact ⟨k, rfl, Nat.le_refl _, rfl, Ext.refl _⟩
      case round =>
        obtain ⟨j, rfl, hj, hinv, hx4⟩ := hrel
        by_cases he : edge t0.text.data.toList j
        · have hje : eb t0.text.data.toList k = j := by rw [← hinv.out]; exact eb_of _ _ he
          have HE := Lib.hid he
          have HJ := Lib.hid hje
          clear he hje
          go_wp2_with fail
          refine (c_edge _ (some t0) j true _ (hr.mono (hX.trans hx4)) (tabs_mono (hX.trans hx4) hT) hpos hs (Nat.le_trans hj hkt) ⟨fun _ => HE.out, fun _ => rfl⟩).mono ?_
          rintro e w5 ⟨rfl, hx5⟩
          have hX5 := hX.trans (hx4.trans hx5)
          have hcc := cell_blk (hX5.blk hc)
          go_wp2_with fail
          refine upon_ahead j (can_ahead hn0 hs) hX5 (Nat.le_trans hj hkt) rfl (fun w6 hx6 => ?_)
          have hb6 := (hx4.trans (hx5.trans hx6)).blk hb0
          have hX6 := hX5.trans hx6
          have hc6 := cell_blk hb6
          have hf6 := frz_blk hb6
          clear hcc
          unfold sumA
          go_simp
          go_wp2_with fail
          refine Q_gen (fun W => Ext w W ∧ W.heap[w.heap.size]? = some (.cells (sumA (t0.text.extract 0 j)) 57 (0, 0))) ⟨?_, ?_⟩ (fun W hW => ?_)
          · repeat refine Ext.setCell ?_ (Nat.le_refl _) _
            exact hX6
          · refine (set6_blk hb6 _ _ _ _ _ _).trans ?_
            unfold sumA
            have hjt := Nat.le_trans hj hkt
            try rw [ByteArray.size_extract, show min j t0.text.size - 0 = j from by omega]
            try rw [show min j t0.text.size = j from by omega]
          · obtain ⟨hx7, hb7⟩ := hW
            have hc7 := cell_blk hb7
            exact bodyPost_ret (v := .agg (sumA (t0.text.extract 0 j))) (by simp [results, Tryd.results30, go_sem, hc7, sumA]) rfl ⟨by rw [← HJ.out]; rfl, hx7⟩
        · have hj0 : 0 < j := by
            apply Nat.pos_of_ne_zero
            intro e
            subst e
            exact he (edge_zero _)
          have hje : eb t0.text.data.toList (j - 1) = eb t0.text.data.toList k := by
            rw [← hinv.out]
            obtain ⟨i, rfl⟩ : ∃ i, j = i + 1 := ⟨j - 1, by omega⟩
            exact (eb_not _ _ he).symm
          have HE := Lib.hid he
          have HJ := Lib.hid hje
          clear he hje
          go_wp2_with fail
          refine (c_edge _ (some t0) j false _ (hr.mono (hX.trans hx4)) (tabs_mono (hX.trans hx4) hT) hpos hs (Nat.le_trans hj hkt) ⟨fun h => (by cases h), fun h => absurd h HE.out⟩).mono ?_
          rintro e w5 ⟨rfl, hx5⟩
          go_wp2_with fail
          go_roundw
          case rel => exact ⟨j - 1, by go_num, by omega, HJ, hx4.trans hx5⟩
          case measure => simp [intOf]; omega

theorem c_RuneOf (v : Value) (o : Option T) (n : Int) (w : World) (h : IsRope w v o) (hT : Lib.Utf8Tabs 0 1 w) (hs : (txt o).size ≤ 1048576) :
    Calls Tryd.prog 11 #[v, .int .i64 n] w fun e w' => e = .returned (.int .i64 (gR (txt o).data.toList (clampN n (txt o)) : Nat)) ∧ Ext w w' := by
  have hg : gR (txt o).data.toList (clampN n (txt o)) = nRunes ((txt o).extract 0 (eb (txt o).data.toList (clampN n (txt o)))) := by
    unfold gR nRunes
    rw [toList_extract]
    simp
  rw [hg]
  go_enter Tryd.func11, Tryd.ntmps11
  go_wp2_with fail
  refine (c_ahead v o n _ h hT hs).mono ?_
  rintro e w1 ⟨rfl, hx1⟩
  unfold sumA
  go_wp2_with fail
  exact ret_one rfl rfl rfl ⟨rfl, hx1⟩
theorem c_UnitOf (v : Value) (o : Option T) (n : Int) (w : World) (h : IsRope w v o) (hT : Lib.Utf8Tabs 0 1 w) (hs : (txt o).size ≤ 1048576) :
    Calls Tryd.prog 13 #[v, .int .i64 n] w fun e w' => e = .returned (.int .i64 (gU (txt o).data.toList (clampN n (txt o)) : Nat)) ∧ Ext w w' := by
  have hg : gU (txt o).data.toList (clampN n (txt o)) = nUnits ((txt o).extract 0 (eb (txt o).data.toList (clampN n (txt o)))) := by
    unfold gU nUnits
    rw [toList_extract]
    simp
  rw [hg]
  go_enter Tryd.func13, Tryd.ntmps13
  go_wp2_with fail
  refine (c_ahead v o n _ h hT hs).mono ?_
  rintro e w1 ⟨rfl, hx1⟩
  unfold sumA
  go_wp2_with fail
  exact ret_one rfl rfl rfl ⟨rfl, hx1⟩
end Go.Proofs.YtohpekbooapcjaaDoor
