/-
  Places of lines, of runes and of units: the rope's answers are the document's.
-/
import Derived.Test.YtohpekbooapcjaaDoorPlaceA
import Derived.Test.YtohpekbooapcjaaDoorThere
namespace Go.Proofs.YtohpekbooapcjaaDoor
open Go.RowKit Go.Rp

theorem brkN_mono (s : ByteArray) (a b : Nat) (h : a ≤ b) : brkN s a ≤ brkN s b := by
  rw [brk_lines, brk_lines]
  exact linesAt_mono s a b h

set_option maxHeartbeats 1000000 in
theorem c_refAtLine_no (s : ByteArray) (q : Int) (w : World) (hs : s.size ≤ 1048576) (h64 : q ≤ 9223372036854775807) (hq : q < 0 ∨ (nBreaks s : Nat) < q) :
    Calls Tryd.prog 48 #[.string s, .int .i64 q] w fun e w' => e = .returned (.tuple #[.int .i64 0, .bool false]) ∧ Ext w w' := by
  by_cases h0 : q < 0
  · have hq1 : ¬ (q = 0) := by omega
    have hq2 : ¬ (0 < q) := by omega
    clear hq
    go_enter Tryd.func48, Tryd.ntmps48
    go_wp2_with fail
    go_loop [1, 6] (fun x y => x = .int .i64 q ∧ y = .int .i64 0) (fun _ _ => 0)
    case atStart => exact ⟨rfl, rfl⟩
    case round =>
      obtain ⟨rfl, rfl⟩ := hrel
      by_cases hz : 0 < s.size
      · go_wp2_with fail
        exact ret_two rfl rfl rfl rfl ⟨rfl, Ext.refl _⟩
      · go_wp2_with fail
        exact ret_two rfl rfl rfl rfl ⟨rfl, Ext.refl _⟩
  · obtain ⟨qn, rfl⟩ : ∃ n : Nat, q = (n : Int) := ⟨q.toNat, by omega⟩
    have hbig : nBreaks s < qn := by omega
    have hq1 : ¬ ((qn : Int) = 0) := by omega
    have HB := Lib.hid hbig
    clear hq h0 hbig
    go_enter Tryd.func48, Tryd.ntmps48
    go_wp2_with fail
    go_loop [1, 6] (fun x y => ∃ k : Nat, ∃ n : Int, y = .int .i64 (k : Nat) ∧ k ≤ s.size ∧ x = .int .i64 n ∧ 0 < n ∧ Hid (n = (qn : Int) - (brkN s k : Nat))) (fun _ y => s.size + 1 - (intOf y).toNat)
    case atStart => exact ⟨0, qn, rfl, by omega, rfl, by have := HB.out; omega, by unfold Hid; simp [brkN]⟩
    case round =>
      obtain ⟨k, n, rfl, h1, rfl, h2, h3⟩ := hrel
      by_cases hks : k < s.size
      · have hst := brkN_step s k hks
        have hm := brkN_mono s (k + 1) s.size (by omega)
        have he := brkN_end s s.size (Nat.le_refl _)
        have hb := HB.out
        have h3' := h3.out
        by_cases h10 : (s[k].toNat : Int) = 10
        · rw [if_pos h10] at hst
          have hn2 : ¬ (n - 1 = 0) := by omega
          have hn3 : 0 < n - 1 := by omega
          have hn4 : -9223372036854775808 ≤ n - 1 ∧ n - 1 ≤ 9223372036854775807 := by
            constructor
            · omega
            · omega
          have H3 : Hid (n - 1 = (qn : Int) - (brkN s (k + 1) : Nat)) := by unfold Hid; omega
          clear hst h3' h3 hm he hb
          go_wp2_with fail
          go_round
          case rel => exact ⟨k + 1, n - 1, by go_num, by omega, by go_num, hn3, H3⟩
          case measure => simp [intOf]; omega
        · rw [if_neg h10] at hst
          have H3 : Hid (n = (qn : Int) - (brkN s (k + 1) : Nat)) := by unfold Hid; omega
          clear hst h3' h3 hm he hb
          go_wp2_with fail
          go_round
          case rel => exact ⟨k + 1, n, by go_num, by omega, rfl, h2, H3⟩
          case measure => simp [intOf]; omega
      · go_wp2_with fail
        exact ret_two rfl rfl rfl rfl ⟨rfl, Ext.refl _⟩

theorem line_place (s : ByteArray) (q : Nat) (hq : q ≤ nBreaks s) : ∃ K, K ≤ s.size ∧ brkN s K = q ∧ ∀ a, a < K → brkN s a < q := by
  have key : ∀ n, q ≤ brkN s n → ∃ K, K ≤ n ∧ q ≤ brkN s K ∧ ∀ a, a < K → brkN s a < q := by
    intro n
    induction n with
    | zero => intro h; exact ⟨0, Nat.le_refl _, h, fun a ha => by omega⟩
    | succ n ih =>
      intro h
      by_cases h2 : q ≤ brkN s n
      · obtain ⟨K, k1, k2, k3⟩ := ih h2
        exact ⟨K, by omega, k2, k3⟩
      · exact ⟨n + 1, Nat.le_refl _, h, fun a ha => by have := brkN_mono s a n (by omega); omega⟩
  obtain ⟨K, k1, k2, k3⟩ := key s.size (by rw [brkN_end s s.size (Nat.le_refl _)]; exact hq)
  refine ⟨K, k1, ?_, k3⟩
  rw [brk_lines] at k2 ⊢
  exact linesAt_hit s q K k2 (fun a ha => by have := k3 a ha; rw [brk_lines] at this; omega)

theorem pair_AtLine (v : Value) (o : Option T) (q : Int) (hs : (txt o).size ≤ 1048576) (h64 : q ≤ 9223372036854775807) : ∃ (a : Int) (b : Bool),
    (∀ w, IsRope w v o → Calls Tryd.prog 15 #[v, .int .i64 q] w fun e w' => e = .returned (.tuple #[.int .i64 a, .bool b]) ∧ Ext w w') ∧
    (∀ w, Calls Tryd.prog 48 #[.string (txt o), .int .i64 q] w fun e w' => e = .returned (.tuple #[.int .i64 a, .bool b]) ∧ Ext w w') := by
  by_cases h : q < 0 ∨ (nBreaks (txt o) : Nat) < q
  · exact ⟨0, false, fun w hr => c_AtLine_no v o q w hr hs h, fun w => c_refAtLine_no (txt o) q w hs h64 h⟩
  · obtain ⟨n, rfl⟩ : ∃ n : Nat, q = (n : Int) := ⟨q.toNat, by omega⟩
    have hn : n ≤ nBreaks (txt o) := by omega
    obtain ⟨K, k1, k2, k3⟩ := line_place (txt o) n hn
    refine ⟨K, true, fun w hr => ?_, fun w => c_refAtLine_yes (txt o) n K w hs k1 k2 k3⟩
    refine (c_AtLine_yes v o n w hr hs hn).mono ?_
    rintro e w1 ⟨k, rfl, j1, j2, j3, hx⟩
    have hkK : k = K := by
      rcases Nat.lt_trichotomy k K with hlt | heq | hgt
      · have := k3 k hlt
        rw [brk_lines] at this
        omega
      · exact heq
      · have := j3 K hgt
        rw [← brk_lines] at this
        omega
    subst hkK
    exact ⟨rfl, hx⟩

set_option maxRecDepth 100000 in
set_option maxHeartbeats 2000000 in
theorem pair_AtRune (v : Value) (o : Option T) (q : Int) (hs : (txt o).size ≤ 1048576) : ∃ (a : Int) (b : Bool),
    (∀ w, IsRope w v o → Lib.Utf8Tabs 0 1 w → Calls Tryd.prog 10 #[v, .int .i64 q] w fun e w' => e = .returned (.tuple #[.int .i64 a, .bool b]) ∧ Ext w w') ∧
    (∀ w, Calls Tryd.prog 46 #[.string (txt o), .int .i64 q] w fun e w' => e = .returned (.tuple #[.int .i64 a, .bool b]) ∧ Ext w w') := by
  have hlen := marks_len (txt o).size (txt o).data.toList 0
  rw [len_eq] at hlen
  have hfrom := marks_from (txt o)
  have hend := pl_end (txt o)
  have hgr := gR_pl' (txt o)
  have hgl := gR_low' (txt o)
  have hall := gR_all (txt o).data.toList
  rw [len_eq] at hall
  have hmono := fun k hk => (gR_mono (txt o).data.toList k (txt o).size hk (by rw [len_eq]; exact Nat.le_refl _)).1
  have hS := c_SRunes (txt o)
  generalize marks (txt o).size (txt o).data.toList 0 = M at *
  have HS := Lib.hid hS
  clear hS
  by_cases h : 0 ≤ q ∧ q ≤ M.length
  · obtain ⟨n, rfl⟩ : ∃ n : Nat, q = (n : Int) := ⟨q.toNat, by omega⟩
    have hn : n ≤ M.length := by omega
    refine ⟨pl (txt o).data.toList n, true, fun w hr hT => c_AtRune_yes v o n _ w hr hT hs (pl_le _ n) (hgr n hn) (hgl n hn).1, fun w => ?_⟩
    have HF := Lib.hid hfrom
    have HEND := Lib.hid hend
    clear hfrom hend hgr hgl hall hmono h
    go_enter Tryd.func46, Tryd.ntmps46
    go_wp2_with fail
    refine (HS.out _ (by omega)).mono ?_
    rintro e w1 ⟨x, rfl, hown, hx1⟩
    have hsl : ∃ a cap, x = .slice a M.length cap := by
      rcases hown.2 with ⟨h1, h2⟩ | ⟨g, cap, _, h1, _⟩
      · exact ⟨none, 0, by rw [h1, h2]⟩
      · exact ⟨_, cap, h1⟩
    obtain ⟨ad, cap, rfl⟩ := hsl
    by_cases hlt : n < M.length
    · have hg : ∃ g, ad = some ⟨g, 0, none⟩ := by
        rcases hown.2 with ⟨_, h2⟩ | ⟨g, cap', _, h1, _⟩
        · omega
        · exact ⟨g, by injection h1⟩
      obtain ⟨g, rfl⟩ := hg
      have d1 := (hown.cellAt (n * 3 + 1) (by omega)).trans (runeCells_get M n hlt).2.1
      rw [HF.out n hlt] at d1
      go_wp2_with fail
      exact ret_two rfl rfl rfl rfl ⟨rfl, hx1⟩
    · have hne : n = M.length := by omega
      have hpe : pl (txt o).data.toList n = (txt o).size := by rw [hne]; exact HEND.out
      have hq2 : ((n : Int) == (M.length : Nat)) = true := by rw [hne]; simp
      have hlt2 : ¬ ((n : Int) < (M.length : Nat)) := by omega
      have HP := Lib.hid hpe
      clear hne hpe
      go_wp2_with fail
      refine ret_two rfl rfl rfl rfl ⟨?_, hx1⟩
      rw [HP.out]
      try rfl
  · refine ⟨0, false, fun w hr hT => c_AtRune_no v o q w hr hT hs (fun k hk e => ?_), fun w => ?_⟩
    · have := hmono k hk
      rw [hall.1] at this
      omega
    · have hq2 : (q == (M.length : Nat)) = false := beq_false_of_ne (by omega)
      clear hfrom hend hgr hgl hall hmono
      by_cases h0 : q < 0
      · have h1 : ¬ 0 ≤ q := by omega
        clear h
        go_enter Tryd.func46, Tryd.ntmps46
        go_wp2_with fail
        refine (HS.out _ (by omega)).mono ?_
        rintro e w1 ⟨x, rfl, hown, hx1⟩
        have hsl : ∃ a cap, x = .slice a M.length cap := by
          rcases hown.2 with ⟨h1, h2⟩ | ⟨g, cap, _, h1, _⟩
          · exact ⟨none, 0, by rw [h1, h2]⟩
          · exact ⟨_, cap, h1⟩
        obtain ⟨ad, cap, rfl⟩ := hsl
        go_wp2_with fail
        exact ret_two rfl rfl rfl rfl ⟨rfl, hx1⟩
      · have h1 : ((M.length : Nat) : Int) ≤ q := by omega
        clear h
        go_enter Tryd.func46, Tryd.ntmps46
        go_wp2_with fail
        refine (HS.out _ (by omega)).mono ?_
        rintro e w1 ⟨x, rfl, hown, hx1⟩
        have hsl : ∃ a cap, x = .slice a M.length cap := by
          rcases hown.2 with ⟨h1, h2⟩ | ⟨g, cap, _, h1, _⟩
          · exact ⟨none, 0, by rw [h1, h2]⟩
          · exact ⟨_, cap, h1⟩
        obtain ⟨ad, cap, rfl⟩ := hsl
        go_wp2_with fail
        exact ret_two rfl rfl rfl rfl ⟨rfl, hx1⟩
end Go.Proofs.YtohpekbooapcjaaDoor
