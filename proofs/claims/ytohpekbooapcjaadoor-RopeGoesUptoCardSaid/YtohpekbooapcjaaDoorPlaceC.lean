/-
  Numbers of runes and units ahead of a place; places of units.
-/
import Derived.Test.YtohpekbooapcjaaDoorPlaceB
namespace Go.Proofs.YtohpekbooapcjaaDoor
open Go.RowKit Go.Rp

theorem unitsOf_one (M : List (Nat × Nat × Nat)) (i : Nat) (h : i < M.length) : unitsOf (M.take (i + 1)) = unitsOf (M.take i) + (if 65535 < M[i].1 then 2 else 1) := by
  rw [List.take_succ_eq_append_getElem h, unitsOf_append]
  simp [unitsOf]
theorem unitsOf_lt (M : List (Nat × Nat × Nat)) (a b : Nat) (h : a < b) (hb : b ≤ M.length) : unitsOf (M.take a) < unitsOf (M.take b) := by
  induction b with
  | zero => omega
  | succ b ih =>
    have h1 := unitsOf_one M b (by omega)
    by_cases hab : a = b
    · subst hab
      rw [h1]
      split <;> omega
    · have := ih (by omega) (by omega)
      rw [h1]
      omega
theorem gU_take (s : ByteArray) (k : Nat) (hk : k ≤ s.size) : ∃ j, j ≤ (marks s.size s.data.toList 0).length ∧ gU s.data.toList k = unitsOf ((marks s.size s.data.toList 0).take j) := by
  have hl := len_eq s
  have he := eb_edge s.data.toList k
  have hle := eb_le s.data.toList k
  have h1 := edge_pl s.data.toList (eb s.data.toList k) he (by omega)
  have h2 := gU_pl s.data.toList _ h1.2
  rw [h1.1] at h2
  have h3 : gU s.data.toList (eb s.data.toList k) = gU s.data.toList k := by
    unfold gU
    rw [eb_of _ _ he]
  rw [hl] at h2 h1
  exact ⟨_, h1.2, h3.symm.trans h2⟩

/-- How a row of runes is written. -/
theorem row_form {w : World} {base : Nat} {e : TypeId} {size : Nat} {v : Value} {n : Nat} {xs : List Value} (h : w.ownsRow base e size v n xs) : ∃ a cap, v = .slice a n cap := by
  rcases h.2 with ⟨h1, h2⟩ | ⟨g, cap, _, h1, _⟩
  · exact ⟨none, 0, by rw [h1, h2]⟩
  · exact ⟨_, cap, h1⟩
theorem row_ptr {w : World} {base : Nat} {e : TypeId} {size : Nat} {a : Option Addr} {n cap : Nat} {xs : List Value} (h : w.ownsRow base e size (.slice a n cap) n xs) (hn : 0 < n) : ∃ g, a = some ⟨g, 0, none⟩ := by
  rcases h.2 with ⟨_, h2⟩ | ⟨g, cap', _, h1, _⟩
  · omega
  · exact ⟨g, by injection h1⟩

/-- The runes of the first i that end up to a place. -/
def upTo (M : List (Nat × Nat × Nat)) (c i : Nat) : List (Nat × Nat × Nat) := (M.take i).filter (fun m => decide (m.2.2 ≤ c))
theorem upTo_in (M : List (Nat × Nat × Nat)) (c i : Nat) (h : i < M.length) (hc : M[i].2.2 ≤ c) : upTo M c (i + 1) = upTo M c i ++ [M[i]] := by
  unfold upTo
  rw [List.take_succ_eq_append_getElem h, List.filter_append]
  simp [hc]
theorem upTo_out (M : List (Nat × Nat × Nat)) (c i : Nat) (h : i < M.length) (hc : ¬ M[i].2.2 ≤ c) : upTo M c (i + 1) = upTo M c i := by
  unfold upTo
  rw [List.take_succ_eq_append_getElem h, List.filter_append]
  simp [hc]
theorem upTo_len (M : List (Nat × Nat × Nat)) (c i : Nat) : (upTo M c i).length ≤ M.length := by
  unfold upTo
  have h1 := List.length_filter_le (fun m : Nat × Nat × Nat => decide (m.2.2 ≤ c)) (M.take i)
  rw [List.length_take] at h1
  omega

set_option maxRecDepth 100000 in
set_option maxHeartbeats 4000000 in
theorem c_refRuneOf (s : ByteArray) (q : Int) (w : World) (hs : s.size ≤ 1048576) :
    Calls Tryd.prog 45 #[.string s, .int .i64 q] w fun e w' => e = .returned (.tuple #[.int .i64 (gR s.data.toList (clampN q s) : Nat), .int .i64 (gU s.data.toList (clampN q s) : Nat)]) ∧ Ext w w' := by
  have hl := len_eq s
  have hk1 : clampN q s ≤ s.size := by unfold clampN; omega
  have hk2 : ∀ j : Nat, 0 < j → j ≤ s.size → ((j : Int) ≤ q ↔ j ≤ clampN q s) := fun j h0 hj => by unfold clampN; omega
  have hlen := marks_len s.size s.data.toList 0
  rw [hl] at hlen
  have hall := marks_all s.size s.data.toList 0
  rw [hl] at hall
  have hup := marks_upto s.data.toList (clampN q s) (by omega)
  have hru := marks_runes s.data.toList.length (s.data.toList.take (eb s.data.toList (clampN q s))) 0 (by simp; omega)
  rw [← hup, hl] at hru
  generalize clampN q s = c at *
  have hfin : (upTo (marks s.size s.data.toList 0) c (marks s.size s.data.toList 0).length).length = gR s.data.toList c ∧ unitsOf (upTo (marks s.size s.data.toList 0) c (marks s.size s.data.toList 0).length) = gU s.data.toList c := by
    unfold upTo
    rw [List.take_length]
    exact hru
  have hS := c_SRunes s
  generalize marks s.size s.data.toList 0 = M at *
  have HS := Lib.hid hS
  have HK := Lib.hid hk2
  have HF := Lib.hid hfin
  clear hS hk2 hfin hup hru
  go_enter Tryd.func45, Tryd.ntmps45
  go_wp2_with fail
  refine (HS.out _ (by omega)).mono ?_
  rintro e w1 ⟨x, rfl, hown, hx1⟩
  obtain ⟨ad, cap, rfl⟩ := row_form hown
  go_wp2_with fail
  go_loop [6, 7, 9] (fun n u i => ∃ k : Nat, i = .int .i64 (k : Nat) ∧ k ≤ M.length ∧ n = .int .i64 ((upTo M c k).length : Nat) ∧ u = .int .i64 (unitsOf (upTo M c k) : Nat)) (fun _ _ i => M.length + 1 - (intOf i).toNat)
  case atStart => exact ⟨0, rfl, by omega, rfl, rfl⟩
  case round =>
    obtain ⟨k, rfl, h1, rfl, rfl⟩ := hrel
    have b1 := upTo_len M c k
    have b2 := unitsOf_ge (upTo M c k)
    by_cases hlt : k < M.length
    · obtain ⟨g, rfl⟩ := row_ptr hown (by omega)
      obtain ⟨k0, _, k2⟩ := runeCells_get M k hlt
      have d0 := (hown.cellAt (k * 3) (by omega)).trans k0
      have d2 := (hown.cellAt (k * 3 + 2) (by omega)).trans k2
      clear k0 k2
      obtain ⟨a0, a1, a2⟩ := hall M[k] (List.getElem_mem hlt)
      by_cases hc : M[k].2.2 ≤ c
      · have hq : ((M[k].2.2 : Nat) : Int) ≤ q := (HK.out _ (by omega) (by omega)).2 hc
        have e1 := upTo_in M c k hlt hc
        have e2 : unitsOf (upTo M c (k + 1)) = unitsOf (upTo M c k) + (if 65535 < M[k].1 then 2 else 1) := by rw [e1, unitsOf_append]; simp [unitsOf]
        have e3 : (upTo M c (k + 1)).length = (upTo M c k).length + 1 := by rw [e1]; simp
        by_cases hb : 65535 < M[k].1
        · rw [if_pos hb] at e2
          have E2 := Lib.hid e2
          have E3 := Lib.hid e3
          clear e1 e2 e3
          go_wp2_with fail
          go_round
          case rel => exact ⟨k + 1, by go_num, by omega, by rw [E3.out]; go_num, by rw [E2.out]; go_num⟩
          case measure => simp [intOf]; omega
        · rw [if_neg hb] at e2
          have E2 := Lib.hid e2
          have E3 := Lib.hid e3
          clear e1 e2 e3
          go_wp2_with fail
          go_round
          case rel => exact ⟨k + 1, by go_num, by omega, by rw [E3.out]; go_num, by rw [E2.out]; go_num⟩
          case measure => simp [intOf]; omega
      · have hq : ¬ ((M[k].2.2 : Nat) : Int) ≤ q := fun h => hc ((HK.out _ (by omega) (by omega)).1 h)
        have e1 := upTo_out M c k hlt hc
        have E1 := Lib.hid e1
        clear e1
        go_wp2_with fail
        go_round
        case rel => exact ⟨k + 1, by go_num, by omega, by rw [E1.out], by rw [E1.out]⟩
        case measure => simp [intOf]; omega
    · have hkl : k = M.length := by omega
      have e1 : (upTo M c k).length = gR s.data.toList c := by rw [hkl]; exact HF.out.1
      have e2 : unitsOf (upTo M c k) = gU s.data.toList c := by rw [hkl]; exact HF.out.2
      have E1 := Lib.hid e1
      have E2 := Lib.hid e2
      clear hkl e1 e2
      go_wp2_with fail
      refine ret_two rfl rfl rfl rfl ⟨?_, hx1⟩
      rw [← E1.out, ← E2.out]
      try rfl

set_option maxRecDepth 100000 in
set_option maxHeartbeats 4000000 in
theorem pair_AtUnit (v : Value) (o : Option T) (q : Int) (hs : (txt o).size ≤ 1048576) : ∃ (a : Int) (b : Bool),
    (∀ w, IsRope w v o → Lib.Utf8Tabs 0 1 w → Calls Tryd.prog 12 #[v, .int .i64 q] w fun e w' => e = .returned (.tuple #[.int .i64 a, .bool b]) ∧ Ext w w') ∧
    (∀ w, Calls Tryd.prog 47 #[.string (txt o), .int .i64 q] w fun e w' => e = .returned (.tuple #[.int .i64 a, .bool b]) ∧ Ext w w') := by
  have hlen := marks_len (txt o).size (txt o).data.toList 0
  rw [len_eq] at hlen
  have hfrom := marks_from (txt o)
  have hend := pl_end (txt o)
  have hgl := gR_low' (txt o)
  have hgu : ∀ i, i ≤ (marks (txt o).size (txt o).data.toList 0).length → gU (txt o).data.toList (pl (txt o).data.toList i) = unitsOf ((marks (txt o).size (txt o).data.toList 0).take i) := fun i hi => by
    have := gU_pl (txt o).data.toList i (by rw [len_eq]; exact hi)
    rw [len_eq] at this
    exact this
  have himg := gU_take (txt o)
  have hall := marks_all (txt o).size (txt o).data.toList 0
  have hS := c_SRunes (txt o)
  generalize marks (txt o).size (txt o).data.toList 0 = M at *
  have HS := Lib.hid hS
  clear hS
  by_cases h : ∃ i, i ≤ M.length ∧ ((unitsOf (M.take i) : Nat) : Int) = q
  · obtain ⟨I, hI, rfl⟩ := h
    refine ⟨pl (txt o).data.toList I, true, fun w hr hT => c_AtUnit_yes v o _ _ w hr hT hs (pl_le _ I) (hgu I hI) (fun a ha => ?_), fun w => ?_⟩
    · have := (hgl I hI).2 a ha
      rw [hgu I hI] at this
      exact this
    · have HF := Lib.hid hfrom
      have HEND := Lib.hid hend
      clear hfrom hend hgl hgu himg
      go_enter Tryd.func47, Tryd.ntmps47
      go_wp2_with fail
      refine (HS.out _ (by omega)).mono ?_
      rintro e w1 ⟨x, rfl, hown, hx1⟩
      obtain ⟨ad, cap, rfl⟩ := row_form hown
      go_wp2_with fail
      go_loop [7, 8] (fun u i => ∃ k : Nat, i = .int .i64 (k : Nat) ∧ k ≤ I ∧ u = .int .i64 (unitsOf (M.take k) : Nat)) (fun _ i => M.length + 1 - (intOf i).toNat)
      case atStart => exact ⟨0, rfl, by omega, rfl⟩
      case round =>
        obtain ⟨k, rfl, h1, rfl⟩ := hrel
        have b2 := unitsOf_ge (M.take k)
        rw [List.length_take] at b2
        by_cases hlt : k < M.length
        · obtain ⟨g, rfl⟩ := row_ptr hown (by omega)
          obtain ⟨k0, k1, _⟩ := runeCells_get M k hlt
          have d0 := (hown.cellAt (k * 3) (by omega)).trans k0
          have d1 := (hown.cellAt (k * 3 + 1) (by omega)).trans k1
          rw [HF.out k hlt] at d1
          clear k0 k1
          obtain ⟨a0, a1, a2⟩ := hall M[k] (List.getElem_mem hlt)
          by_cases hkI : k = I
          · have hbq : (((unitsOf (M.take k) : Nat) : Int) == ((unitsOf (M.take I) : Nat) : Int)) = true := by rw [hkI]; simp
            have hpk : pl (txt o).data.toList k = pl (txt o).data.toList I := by rw [hkI]
            have HP := Lib.hid hpk
            clear hkI hpk
            go_wp2_with fail
            refine ret_two rfl rfl rfl rfl ⟨?_, hx1⟩
            rw [← HP.out]
            try rfl
          · have hlt2 := unitsOf_lt M k I (by omega) hI
            have hbq : (((unitsOf (M.take k) : Nat) : Int) == ((unitsOf (M.take I) : Nat) : Int)) = false := beq_false_of_ne (by omega)
            have hst := unitsOf_one M k hlt
            have hkI2 : k + 1 ≤ I := by omega
            clear hkI
            by_cases hb : 65535 < M[k].1
            · rw [if_pos hb] at hst
              have HT := Lib.hid hst
              clear hst
              go_wp2_with fail
              go_round
              case rel => exact ⟨k + 1, by go_num, hkI2, by rw [HT.out]; go_num⟩
              case measure => simp [intOf]; omega
            · rw [if_neg hb] at hst
              have HT := Lib.hid hst
              clear hst
              go_wp2_with fail
              go_round
              case rel => exact ⟨k + 1, by go_num, hkI2, by rw [HT.out]; go_num⟩
              case measure => simp [intOf]; omega
        · have hkI : k = I := by omega
          have hIe : I = M.length := by omega
          have hbq : (((unitsOf (M.take k) : Nat) : Int) == ((unitsOf (M.take I) : Nat) : Int)) = true := by rw [hkI]; simp
          have hpe : pl (txt o).data.toList I = (txt o).size := by rw [hIe]; exact HEND.out
          have HP := Lib.hid hpe
          clear hkI hIe hpe
          go_wp2_with fail
          refine ret_two rfl rfl rfl rfl ⟨?_, hx1⟩
          rw [HP.out]
          try rfl
  · refine ⟨0, false, fun w hr hT => c_AtUnit_no v o q w hr hT hs (fun k hk e => ?_), fun w => ?_⟩
    · obtain ⟨j, j1, j2⟩ := himg k hk
      exact h ⟨j, j1, by rw [← j2]; exact e⟩
    · have HN := Lib.hid h
      clear h hfrom hend hgl hgu himg
      go_enter Tryd.func47, Tryd.ntmps47
      go_wp2_with fail
      refine (HS.out _ (by omega)).mono ?_
      rintro e w1 ⟨x, rfl, hown, hx1⟩
      obtain ⟨ad, cap, rfl⟩ := row_form hown
      go_wp2_with fail
      go_loop [7, 8] (fun u i => ∃ k : Nat, i = .int .i64 (k : Nat) ∧ k ≤ M.length ∧ u = .int .i64 (unitsOf (M.take k) : Nat)) (fun _ i => M.length + 1 - (intOf i).toNat)
      case atStart => exact ⟨0, rfl, by omega, rfl⟩
      case round =>
        obtain ⟨k, rfl, h1, rfl⟩ := hrel
        have b2 := unitsOf_ge (M.take k)
        rw [List.length_take] at b2
        have hbq : (((unitsOf (M.take k) : Nat) : Int) == q) = false := beq_false_of_ne (fun e => HN.out ⟨k, h1, e⟩)
        by_cases hlt : k < M.length
        · obtain ⟨g, rfl⟩ := row_ptr hown (by omega)
          obtain ⟨k0, _, _⟩ := runeCells_get M k hlt
          have d0 := (hown.cellAt (k * 3) (by omega)).trans k0
          clear k0
          obtain ⟨a0, a1, a2⟩ := hall M[k] (List.getElem_mem hlt)
          have hst := unitsOf_one M k hlt
          by_cases hb : 65535 < M[k].1
          · rw [if_pos hb] at hst
            have HT := Lib.hid hst
            clear hst
            go_wp2_with fail
            go_round
            case rel => exact ⟨k + 1, by go_num, by omega, by rw [HT.out]; go_num⟩
            case measure => simp [intOf]; omega
          · rw [if_neg hb] at hst
            have HT := Lib.hid hst
            clear hst
            go_wp2_with fail
            go_round
            case rel => exact ⟨k + 1, by go_num, by omega, by rw [HT.out]; go_num⟩
            case measure => simp [intOf]; omega
        · go_wp2_with fail
          exact ret_two rfl rfl rfl rfl ⟨rfl, hx1⟩
end Go.Proofs.YtohpekbooapcjaaDoor
