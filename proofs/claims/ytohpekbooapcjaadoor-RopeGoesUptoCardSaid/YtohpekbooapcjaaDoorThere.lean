/-
  Numbers of runes, units and lines lead there and back: the walk of RopeThere.
-/
import Derived.Test.YtohpekbooapcjaaDoorDoorD
namespace Go.Proofs.YtohpekbooapcjaaDoor
open Go.RowKit Go.Rp

theorem marks_from (s : ByteArray) (i : Nat) (h : i < (marks s.size s.data.toList 0).length) : (marks s.size s.data.toList 0)[i].2.1 = pl s.data.toList i := by
  unfold pl
  rw [len_eq, List.getElem?_eq_getElem h]
theorem pl_end (s : ByteArray) : pl s.data.toList (marks s.size s.data.toList 0).length = s.size := by
  unfold pl
  rw [len_eq, List.getElem?_eq_none (Nat.le_refl _)]
theorem pl_le (s : ByteArray) (i : Nat) : pl s.data.toList i ≤ s.size := by
  have := (pl_edge s.data.toList i).2.1
  rw [len_eq] at this
  exact this
theorem gR_pl' (s : ByteArray) (i : Nat) (h : i ≤ (marks s.size s.data.toList 0).length) : gR s.data.toList (pl s.data.toList i) = i := gR_pl _ _ (by rw [len_eq]; exact h)
theorem gR_low' (s : ByteArray) (i : Nat) (h : i ≤ (marks s.size s.data.toList 0).length) : (∀ a, a < pl s.data.toList i → gR s.data.toList a < i) ∧ ∀ a, a < pl s.data.toList i → gU s.data.toList a < gU s.data.toList (pl s.data.toList i) := by
  have h2 : i ≤ (marks s.data.toList.length s.data.toList 0).length := by rw [len_eq]; exact h
  refine ⟨fun a ha => ?_, fun a ha => (gR_low _ i a h2 ha).2⟩
  have := (gR_low _ i a h2 ha).1
  rw [gR_pl _ _ h2] at this
  exact this
theorem clamp_of (s : ByteArray) (k : Nat) (h : k ≤ s.size) : clampN (k : Nat) s = k := by unfold clampN; omega

set_option maxRecDepth 100000 in
set_option maxHeartbeats 8000000 in
theorem c_There (v : Value) (l : List ByteArray) (w : World) (h : StrRow w v l) (hT : Lib.Utf8Tabs 0 1 w) (hs : ∀ s ∈ l, s.size ≤ 140737488351232) :
    Calls Tryd.prog 3 #[v] w fun e w' => e = .returned (.bool true) ∧ Ext w w' := by
  have hX := Ext.refl w
  obtain ⟨pv, cv, rfl⟩ := h.form
  by_cases hw : 200 < l.length ∨ (300 : Int) < (total l : Nat)
  · have HW := Lib.hid hw
    clear hw
    go_enter Tryd.func3, Tryd.ntmps3
    go_wp2_with fail
    refine (c_wide _ l 300 true _ h hs ⟨fun _ => HW.out, fun _ => rfl⟩).mono ?_
    rintro e u1 ⟨rfl, hx⟩
    replace hX := hX.trans hx
    clear hx
    go_wp2_with fail
    refine (c_live _).mono ?_
    rintro e u2 ⟨rfl, hx⟩
    replace hX := hX.trans hx
    clear hx
    go_wp2_with fail
    exact ret_one rfl rfl rfl ⟨rfl, hX⟩
  have hw1 : l.length ≤ 200 := by omega
  have hw2 : total l ≤ 300 := by omega
  have HW := Lib.hid hw
  clear hw
  go_enter Tryd.func3, Tryd.ntmps3
  go_wp2_with fail
  refine (c_wide _ l 300 false _ h hs ⟨fun h => (by cases h), fun h => absurd h HW.out⟩).mono ?_
  rintro e u3 ⟨rfl, hx⟩
  replace hX := hX.trans hx
  replace h := h.mono hx
  clear hx
  go_wp2_with fail
  refine (c_made _ l _ h hw1 (by omega)).mono ?_
  rintro e u4 ⟨r, o, rfl, hr, ho, hx⟩
  replace hX := hX.trans hx
  clear hx
  have hsz : (txt o).size ≤ 300 := by rw [ho, glue_size]; omega
  obtain ⟨s, hse⟩ : ∃ s, glue l = s := ⟨_, rfl⟩
  rw [hse] at ho ⊢
  have hss : s.size ≤ 300 := by rw [← ho]; exact hsz
  have HO := Lib.hid ho
  clear ho hse
  go_wp2_with fail
  have hlen := marks_len s.size s.data.toList 0
  rw [len_eq] at hlen
  have hfrom := marks_from s
  have hend := pl_end s
  have hgr := gR_pl' s
  have hgl := gR_low' s
  have hS := c_SRunes s
  have hall := marks_all s.size s.data.toList 0
  generalize marks s.size s.data.toList 0 = M at *
  have HS := Lib.hid hS
  have HF := Lib.hid hfrom
  have HEND := Lib.hid hend
  have HGR := Lib.hid hgr
  have HGL := Lib.hid hgl
  clear hS hfrom hend hgr hgl hall
  refine (HS.out _ (by omega)).mono ?_
  rintro e w1 ⟨x, rfl, hown, hx1⟩
  have hX1 := hX.trans hx1
  have hr1 := hr.mono hx1
  clear hr hX
  have hsl : ∃ a cap, x = .slice a M.length cap := by
    rcases hown.2 with ⟨h1, h2⟩ | ⟨g, cap, _, h1, _⟩
    · exact ⟨none, 0, by rw [h1, h2]⟩
    · exact ⟨_, cap, h1⟩
  obtain ⟨ad, cap, rfl⟩ := hsl
  have hszI : ((txt o).size : Nat) ≤ 1048576 := by omega
  go_wp2_with fail
  go_loopw [7, 8, 9, 10, 11, 12] (fun x _ _ _ _ _ w' => ∃ i : Nat, x = .int .i64 (i : Nat) ∧ i ≤ M.length + 1 ∧ Ext w1 w') (fun x _ _ _ _ _ _ => M.length + 2 - (intOf x).toNat)
  case atStart => exact ⟨0, rfl, by omega, Ext.refl _⟩
  case round =>
    obtain ⟨i, rfl, hi, hx2⟩ := hrel
    by_cases hlt : i ≤ M.length
    · have hrw := hr1.mono hx2
      have hTw := tabs_mono (hX1.trans hx2) hT
      obtain ⟨K, hK⟩ : ∃ K, pl s.data.toList i = K := ⟨_, rfl⟩
      have hKs : K ≤ s.size := by rw [← hK]; exact pl_le s i
      have g1 : gR s.data.toList K = i := by rw [← hK]; exact HGR.out i hlt
      have g2 := HGL.out i hlt
      rw [hK] at g2
      have hcl := clamp_of s K hKs
      -- the four contracts, at the place
      have cR : ∀ W, Ext w1 W → Calls Tryd.prog 11 #[r, .int .i64 (K : Nat)] W fun e W' => e = .returned (.int .i64 (i : Nat)) ∧ Ext W W' := by
        intro W hW
        have := c_RuneOf r o (K : Nat) W (hr1.mono hW) (tabs_mono (hX1.trans hW) hT) hszI
        rw [HO.out, hcl, g1] at this
        exact this
      have cU : ∀ W, Ext w1 W → Calls Tryd.prog 13 #[r, .int .i64 (K : Nat)] W fun e W' => e = .returned (.int .i64 (gU s.data.toList K : Nat)) ∧ Ext W W' := by
        intro W hW
        have := c_UnitOf r o (K : Nat) W (hr1.mono hW) (tabs_mono (hX1.trans hW) hT) hszI
        rw [HO.out, hcl] at this
        exact this
      have aR : ∀ W, Ext w1 W → Calls Tryd.prog 10 #[r, .int .i64 (i : Nat)] W fun e W' => e = .returned (.tuple #[.int .i64 (K : Nat), .bool true]) ∧ Ext W W' := by
        intro W hW
        exact c_AtRune_yes r o i K W (hr1.mono hW) (tabs_mono (hX1.trans hW) hT) hszI (by rw [HO.out]; exact hKs) (by rw [HO.out]; exact g1) (by rw [HO.out]; exact g2.1)
      have aU : ∀ W, Ext w1 W → Calls Tryd.prog 12 #[r, .int .i64 (gU s.data.toList K : Nat)] W fun e W' => e = .returned (.tuple #[.int .i64 (K : Nat), .bool true]) ∧ Ext W W' := by
        intro W hW
        exact c_AtUnit_yes r o _ K W (hr1.mono hW) (tabs_mono (hX1.trans hW) hT) hszI (by rw [HO.out]; exact hKs) (by rw [HO.out]) (by rw [HO.out]; exact g2.2)
      generalize gU s.data.toList K = U at *
      have CR := Lib.hid cR
      have CU := Lib.hid cU
      have AR := Lib.hid aR
      have AU := Lib.hid aU
      clear cR cU aR aU g1 g2 hcl
      by_cases hin : i < M.length
      · have hg : ∃ g, ad = some ⟨g, 0, none⟩ := by
          rcases hown.2 with ⟨_, h2⟩ | ⟨g, cap', _, h1, _⟩
          · omega
          · exact ⟨g, by injection h1⟩
        obtain ⟨g, rfl⟩ := hg
        have d1 := ((ownsRow_ext hown hx2).cellAt (i * 3 + 1) (by omega)).trans (runeCells_get M i hin).2.1
        rw [HF.out i hin, hK] at d1
        have D := Lib.hid hK
        clear hK
        go_wp2_with fail
        refine (CR.out _ hx2).mono ?_
        rintro e w2 ⟨rfl, hy1⟩
        have hz1 := hx2.trans hy1
        go_wp2_with fail
        refine (AR.out _ hz1).mono ?_
        rintro e w3 ⟨rfl, hy2⟩
        have hz2 := hz1.trans hy2
        go_wp2_with fail
        refine (CU.out _ hz2).mono ?_
        rintro e w4 ⟨rfl, hy3⟩
        have hz3 := hz2.trans hy3
        go_wp2_with fail
        refine (AU.out _ hz3).mono ?_
        rintro e w5 ⟨rfl, hy4⟩
        have hz4 := hz3.trans hy4
        go_wp2_with fail
        refine (CR.out _ hz4).mono ?_
        rintro e w6 ⟨rfl, hy5⟩
        have hz5 := hz4.trans hy5
        go_wp2_with fail
        go_roundw
        case rel => exact ⟨i + 1, by go_num, by omega, hz5⟩
        case measure => simp [intOf]; omega
      · have hie : i = M.length := by omega
        have hKe : K = s.size := by rw [← hK, hie]; exact HEND.out
        have KE := Lib.hid hKe.symm
        clear hK hKe hie
        go_wp2_with fail
        rw [KE.out]
        refine (CR.out _ hx2).mono ?_
        rintro e w2 ⟨rfl, hy1⟩
        have hz1 := hx2.trans hy1
        go_wp2_with fail
        refine (AR.out _ hz1).mono ?_
        rintro e w3 ⟨rfl, hy2⟩
        have hz2 := hz1.trans hy2
        go_wp2_with fail
        refine (CU.out _ hz2).mono ?_
        rintro e w4 ⟨rfl, hy3⟩
        have hz3 := hz2.trans hy3
        go_wp2_with fail
        refine (AU.out _ hz3).mono ?_
        rintro e w5 ⟨rfl, hy4⟩
        have hz4 := hz3.trans hy4
        go_wp2_with fail
        refine (CR.out _ hz4).mono ?_
        rintro e w6 ⟨rfl, hy5⟩
        have hz5 := hz4.trans hy5
        go_wp2_with fail
        go_roundw
        case rel => exact ⟨i + 1, by go_num, by omega, hz5⟩
        case measure => simp [intOf]; omega
    · have hgt : M.length < i := by omega
      have hnb : nBreaks (txt o) ≤ 300 := by have := nBreaks_le (txt o); omega
      go_wp2_with fail
      go_loopw [13, 14, 15] (fun x _ _ w' => ∃ n : Nat, x = .int .i64 (n : Nat) ∧ n ≤ nBreaks (txt o) + 1 ∧ Ext w1 w') (fun x _ _ _ => nBreaks (txt o) + 2 - (intOf x).toNat)
      case atStart => exact ⟨0, rfl, by omega, hx2⟩
      case round =>
        obtain ⟨n, rfl, hn, hx3⟩ := hrel
        by_cases hin : n ≤ nBreaks (txt o)
        · go_wp2_with fail
          refine (c_Breaks r o _ (hr1.mono hx3) (by omega)).mono ?_
          rintro e w2 ⟨rfl, hy1⟩
          have hz1 := hx3.trans hy1
          go_wp2_with fail
          refine (c_AtLine_yes r o n _ (hr1.mono hz1) hszI hin).mono ?_
          rintro e w3 ⟨k, rfl, hk1, hk2, hk3, hy2⟩
          have hz2 := hz1.trans hy2
          have HK := Lib.hid hk2
          have HCL := Lib.hid (clamp_of (txt o) k hk1)
          clear hk2 hk3
          go_wp2_with fail
          refine (c_LineOf r o (k : Nat) _ (hr1.mono hz2) hszI).mono ?_
          rintro e w4 ⟨rfl, hy3⟩
          rw [HCL.out, show nBreaks ((txt o).extract 0 k) = n from HK.out]
          have hz3 := hz2.trans hy3
          go_wp2_with fail
          go_roundw
          case rel => exact ⟨n + 1, by go_num, by omega, hz3⟩
          case measure => simp [intOf]; omega
        · have hgt2 : nBreaks (txt o) < n := by omega
          go_wp2_with fail
          refine (c_Breaks r o _ (hr1.mono hx3) (by omega)).mono ?_
          rintro e w2 ⟨rfl, hy1⟩
          have hz1 := hx3.trans hy1
          go_wp2_with fail
          refine (c_Breaks r o _ (hr1.mono hz1) (by omega)).mono ?_
          rintro e w3 ⟨rfl, hy2⟩
          have hz2 := hz1.trans hy2
          go_wp2_with fail
          refine (c_AtLine_no r o ((nBreaks (txt o) : Nat) + 1) _ (hr1.mono hz2) hszI (by omega)).mono ?_
          rintro e w4 ⟨rfl, hy3⟩
          have hz3 := hz2.trans hy3
          go_wp2_with fail
          refine (c_live _).mono ?_
          rintro e w5 ⟨rfl, hy4⟩
          go_wp2_with fail
          exact ret_one rfl rfl rfl ⟨rfl, hX1.trans (hz3.trans hy4)⟩
end Go.Proofs.YtohpekbooapcjaaDoor
