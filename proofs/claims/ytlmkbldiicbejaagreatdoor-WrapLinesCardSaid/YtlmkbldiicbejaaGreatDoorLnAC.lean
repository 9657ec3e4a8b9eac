/-
  Classes of a text's runes: one among some; what stands ahead. What holds together: pairs of classes, numbers, regions. Numbers and regions ahead of a place; what holds letters together.
-/
import Derived.Test.YtlmkbldiicbejaaGreatDoorLnTM
import Derived.Test.YtlmkbldiicbejaaGreatDoorBxM
section
namespace Go.Proofs.YtlmkbldiicbejaaGreatDoor
open Go.RowKit Go.Rp Go.Maps Go.Cl Go.Shelf Go.Gr Go.Ln

set_option maxRecDepth 100000 in
set_option maxHeartbeats 4000000 in
theorem c_Index (p : Option Addr) (cap : Nat) (l : List Int) (x : Int) (w : World) (h : IRow w (.slice p l.length cap) l) (hl : l.length ≤ 100) :
    Calls Tryz.prog 166 #[.slice p l.length cap, .int .i64 x] w fun e w' => ∃ k : Int, e = .returned (.int .i64 k) ∧ Hid (0 ≤ k ↔ x ∈ l) ∧ w' = w := by
  have HR := Lib.hid h
  obtain ⟨p', cap', e, hc, hcc⟩ := h
  obtain ⟨rfl, -, rfl⟩ := Value.slice.inj e
  have HCC := Lib.hid hcc
  have hlI : ((l.length : Nat) : Int) ≤ 100 := by omega
  clear hcc e
  go_enter Tryz.func166, Tryz.ntmps166
  go_wp2_with fail
  go_loopw [4, 8] (fun _ iv W => ∃ i : Nat, iv = .int .i64 (i : Nat) ∧ i ≤ l.length ∧ Hid (∀ j (h : j < l.length), j < i → l[j] ≠ x) ∧ W = w) (fun _ iv _ => l.length + 1 - (intOf iv).toNat)
  case atStart => exact ⟨0, rfl, Nat.zero_le _, Lib.hid (fun j h h2 => by omega), rfl⟩
  case round =>
    obtain ⟨i, rfl, hi, HJ, rfl⟩ := hrel
    by_cases hil : i < l.length
    · have hI : ((i : Nat) : Int) < (l.length : Nat) := by omega
      have hd : decide (i < l.length) = true := decide_eq_true hil
      obtain ⟨b, off, rfl, _, h6⟩ := HCC.out (by intro e; subst e; simp at hil)
      have h7 := h6 i hil
      by_cases hx : x = l[i]
      · have hxe : (x == l[i]) = true := by simp [hx]
        have HM := Lib.hid (show x ∈ l by rw [hx]; exact List.getElem_mem hil)
        clear h6 hx
        go_wp2_with fail
        exact bodyPost_ret (results_tmp rfl _ _ _) rfl ⟨_, rfl, Lib.hid ⟨fun _ => HM.out, fun _ => by omega⟩, rfl⟩
      · have hxe : (x == l[i]) = false := beq_eq_false_iff_ne.2 hx
        have HJ2 := Lib.hid (show ∀ j (h : j < l.length), j < i + 1 → l[j] ≠ x from fun j h h2 => by
          rcases Nat.lt_or_ge j i with h3 | h3
          · exact HJ.out j h h3
          · obtain rfl : j = i := by omega
            exact fun e => hx e.symm)
        clear h6 hx
        go_wp2_with fail
        exact ⟨⟨i + 1, by simp, by omega, HJ2, trivial⟩, by simp only [intOf]; omega⟩
    · have hI : ¬ ((i : Nat) : Int) < (l.length : Nat) := by omega
      have hd : decide (i < l.length) = false := decide_eq_false hil
      have HN := Lib.hid (show x ∉ l from fun hm => by
        obtain ⟨j, hj, e⟩ := List.getElem_of_mem hm
        exact HJ.out j hj (by omega) e)
      go_wp2_with fail
      exact bodyPost_ret (results_tmp rfl _ _ _) rfl ⟨_, rfl, Lib.hid ⟨fun h => by omega, fun h => absurd h HN.out⟩, rfl⟩
set_option maxRecDepth 100000 in
set_option maxHeartbeats 4000000 in
theorem c_Contains (p : Option Addr) (cap : Nat) (l : List Int) (x : Int) (w : World) (h : IRow w (.slice p l.length cap) l) (hl : l.length ≤ 100) :
    Calls Tryz.prog 141 #[.slice p l.length cap, .int .i64 x] w fun e w' => ∃ b : Bool, e = .returned (.bool b) ∧ Hid (b = true ↔ x ∈ l) ∧ w' = w := by
  have HI := Lib.hid (c_Index p cap l x w h hl)
  go_enter Tryz.func141, Tryz.ntmps141
  go_wp2_with fail
  refine HI.out.mono ?_
  rintro e w1 ⟨k, rfl, HK, rfl⟩
  go_wp2_with fail
  exact ret_one rfl rfl rfl ⟨_, rfl, Lib.hid (by rw [← HK.out]; simp), rfl⟩
set_option maxRecDepth 100000 in
set_option maxHeartbeats 4000000 in
theorem c_among (p : Option Addr) (cap : Nat) (l : List Int) (x : Int) (w : World) (h : IRow w (.slice p l.length cap) l) (hl : l.length ≤ 100) :
    Calls Tryz.prog 110 #[.int .i64 x, .slice p l.length cap] w fun e w' => ∃ b : Bool, e = .returned (.bool b) ∧ Hid (b = true ↔ x ∈ l) ∧ w' = w := by
  have HI := Lib.hid (c_Contains p cap l x w h hl)
  go_enter Tryz.func110, Tryz.ntmps110
  go_wp2_with fail
  refine HI.out.mono ?_
  rintro e w1 ⟨b, rfl, HK, rfl⟩
  go_wp2_with fail
  exact ret_one rfl rfl rfl ⟨_, rfl, HK, rfl⟩
theorem nrow_at {w : World} {p : Option Addr} {n cap : Nat} {C : List Nat} (h : NRow w (.slice p n cap) C) (hl : 0 < C.length) : ∃ g, p = some ⟨g, 0, none⟩ ∧ g < w.heap.size ∧ ∀ i (h : i < C.length), w.cell? ⟨g, i, none⟩ = some (.int .i64 (C[i] : Nat)) := by
  obtain ⟨p', cap', e, _, h2⟩ := h
  obtain ⟨rfl, -, rfl⟩ := Value.slice.inj e
  exact h2 (List.length_pos_iff.1 hl)
theorem am_row {w : World} {cs : Array Value} {n : Nat} (hn : n = cs.size) (hc : cs.toList = iW (cs.toList.map intOf)) : IRow (w.alloc (.cells cs 3)) (.slice (some ⟨w.heap.size, 0, none⟩) n n) (cs.toList.map intOf) := by
  have hb := World.alloc_heap_new w (.cells cs 3)
  refine ⟨_, n, by rw [hn]; simp, by rw [hn]; simp, fun _ => ⟨w.heap.size, 0, rfl, by rw [World.size_alloc]; omega, fun i hi => ?_⟩⟩
  rw [Nat.zero_add, cell_blk hb i]
  have h2 : cs.toList[i]? = some (.int .i64 (cs.toList.map intOf)[i]) := by
    have h3 : (iW (cs.toList.map intOf))[i]? = some (.int .i64 (cs.toList.map intOf)[i]) := by
      rw [iW, List.getElem?_map, List.getElem?_eq_getElem hi]
      rfl
    rw [← hc] at h3
    exact h3
  have h4 : cs[i]? = cs.toList[i]? := by simp
  rw [h4]
  exact h2
/-- One among some that were just laid. -/
theorem am_step {c : Int} {cs : Array Value} {n b : Nat} {w0 w : World} {A : Prop} {Q : Ending → World → Prop} (HX : Hid (Ext w0 w)) (HA : Hid A)
    (h : ∀ (m : Bool) W', Hid (Ext w0 W') → Hid (A ∧ (m = true ↔ c ∈ cs.toList.map intOf)) → Q (.returned (.bool m)) W') (hn : n = cs.size) (hc : cs.toList = iW (cs.toList.map intOf)) (hs : cs.size ≤ 100) (hb : b = w.heap.size) :
    Calls Tryz.prog 110 #[.int .i64 c, .slice (some ⟨b, 0, none⟩) n n] (w.alloc (.cells cs 3)) Q := by
  subst hb
  have hr := am_row (w := w) hn hc
  have hlen : (cs.toList.map intOf).length = n := by rw [hn]; simp
  have := c_among (some ⟨w.heap.size, 0, none⟩) n (cs.toList.map intOf) c _ (by rw [hlen]; exact hr) (by rw [hlen, hn]; exact hs)
  rw [hlen] at this
  refine this.mono ?_
  rintro e w' ⟨b, rfl, hb, rfl⟩
  exact h b _ (Lib.hid (HX.out.alloc _)) (Lib.hid ⟨HA.out, hb.out⟩)
theorem bool_is {m : Bool} {p : Prop} [Decidable p] (h : m = true ↔ p) : m = decide p := by
  rw [Bool.eq_iff_iff, h, decide_eq_true_iff]
set_option maxRecDepth 100000 in
set_option maxHeartbeats 4000000 in
theorem c_must (c : Int) (w : World) :
    Calls Tryz.prog 82 #[.int .i64 c] w fun e w' => e = .returned (.bool (decide (MustL c))) ∧ Ext w w' := by
  have HX := Lib.hid (Ext.refl w)
  have HA := Lib.hid True.intro
  go_enter Tryz.func82, Tryz.ntmps82
  go_wp2_with fail
  refine am_step HX HA ?_ rfl rfl (by decide) rfl
  intro m W' HX HA
  go_wp2_with fail
  refine ret_one rfl rfl rfl ⟨congrArg (fun b => Ending.returned (.bool b)) (bool_is ?_), HX.out⟩
  have h := HA.out.2
  simp [intOf] at h
  simpa [MustL] using h
set_option maxRecDepth 100000 in
set_option maxHeartbeats 4000000 in
theorem c_past (vat : Value) (p : Option Addr) (cap : Nat) (C : List Nat) (n k : Nat) (w : World) (h : NRow w (.slice p C.length cap) C) (hn : n ≤ C.length) (hl : C.length ≤ 65536) :
    Calls Tryz.prog 109 #[.agg #[vat, .slice p C.length cap], .int .i64 (n : Nat), .int .i64 (k : Nat)] w fun e w' => e = .returned (.int .i64 (pastL C k n : Nat)) ∧ Ext w w' := by
  have HR := Lib.hid h
  have hnI : ((n : Nat) : Int) ≤ 65536 := by omega
  go_enter Tryz.func109, Tryz.ntmps109
  go_wp2_with fail
  have hbb := World.alloc_heap_new w (.cells #[vat, .slice p C.length cap] 144)
  have HXB := Lib.hid ((Ext.refl w).alloc (.cells #[vat, .slice p C.length cap] 144))
  generalize w.alloc (.cells #[vat, .slice p C.length cap] 144) = w1 at hbb HXB ⊢
  generalize w.heap.size = tb at hbb ⊢
  have k0 : w1.cell? ⟨tb, 0, none⟩ = some vat := (cell_blk hbb 0).trans rfl
  have k1 : w1.cell? ⟨tb, 1, none⟩ = some (.slice p C.length cap) := (cell_blk hbb 1).trans rfl
  have HBB := Lib.hid hbb
  clear hbb
  go_loopw [1] (fun nv W => ∃ m : Nat, nv = .int .i64 (m : Nat) ∧ m ≤ n ∧ Hid (pastL C k m = pastL C k n) ∧ W = w1) (fun nv _ => (intOf nv).toNat)
  case atStart => exact ⟨n, rfl, Nat.le_refl _, Lib.hid rfl, rfl⟩
  case round =>
    obtain ⟨m, rfl, hm, HM, rfl⟩ := hrel
    rcases m with _ | m
    · have HE := Lib.hid (show (0 : Nat) = pastL C k n by rw [← HM.out]; rfl)
      go_wp2_with fail
      refine bodyPost_ret (results_tmp rfl _ _ _) rfl ⟨?_, HXB.out⟩
      exact congrArg (fun n : Nat => Ending.returned (.int .i64 (n : Nat))) HE.out
    · have hI : ((m : Nat) : Int) < (C.length : Nat) := by omega
      have hd : decide (m < C.length) = true := decide_eq_true (by omega)
      have hp : (0 : Int) < ((m + 1 : Nat) : Int) := by omega
      rw [show ((m + 1 : Nat) : Int) = (m : Int) + 1 by omega] at hp ⊢
      obtain ⟨g, rfl, hg, hcc⟩ := nrow_at HR.out (show 0 < C.length by omega)
      have h7 := HXB.out.cell (hcc m (by omega))
      have HMV := Lib.hid (show pastL C k (m + 1) = if C.getD m 0 = k then pastL C k m else m + 1 from rfl)
      have hgd : C.getD m 0 = C[m]'(by omega) := by simp [List.getD_eq_getElem?_getD, show m < C.length by omega]
      rw [hgd] at HMV
      have hmI : ((m : Nat) : Int) + 1 ≤ 65536 := by omega
      generalize C[m]'(by omega) = y at h7 HMV
      by_cases hy : y = k
      · subst hy
        have HM2 := Lib.hid (show pastL C y m = pastL C y n by rw [← HM.out, HMV.out, if_pos rfl])
        clear hcc hgd
        go_wp2_with fail
        exact ⟨⟨m, by simp, by omega, HM2, trivial⟩, by simp only [intOf]; omega⟩
      · have hyb : (((y : Nat) : Int) == ((k : Nat) : Int)) = false := beq_eq_false_iff_ne.2 (by omega)
        have HM2 := Lib.hid (show m + 1 = pastL C k n by rw [← HM.out, HMV.out, if_neg hy])
        clear hcc hgd
        go_wp2_with fail
        refine bodyPost_ret (results_tmp rfl _ _ _) rfl ⟨?_, HXB.out⟩
        rw [← HM2.out]
        exact congrArg Ending.returned (congrArg (Value.int .i64) (show (m : Int) + 1 = ((m + 1 : Nat) : Int) by omega))
set_option maxRecDepth 100000 in
set_option maxHeartbeats 4000000 in
theorem c_last (vat : Value) (p : Option Addr) (cap : Nat) (C : List Nat) (n : Nat) (w : World) (h : NRow w (.slice p C.length cap) C) (hn : n ≤ C.length) (hl : C.length ≤ 65536) :
    Calls Tryz.prog 108 #[.agg #[vat, .slice p C.length cap], .int .i64 (n : Nat)] w fun e w' => e = .returned (.int .i64 (lastL C n)) ∧ Ext w w' := by
  have HR := Lib.hid h
  have hnI : ((n : Nat) : Int) ≤ 65536 := by omega
  rcases n with _ | m
  · have HE := Lib.hid (show lastL C 0 = -1 from rfl)
    go_enter Tryz.func108, Tryz.ntmps108
    go_wp2_with fail
    exact ret_one rfl rfl rfl ⟨congrArg Ending.returned (congrArg (Value.int .i64) HE.out.symm), (Ext.refl w).alloc _⟩
  · obtain ⟨g, rfl, hg, hcc⟩ := nrow_at h (show 0 < C.length by omega)
    have HE := Lib.hid (show lastL C (m + 1) = (C[m]'(by omega) : Nat) by simp [lastL, List.getD_eq_getElem?_getD, show m < C.length by omega])
    have hI : ((m : Nat) : Int) < (C.length : Nat) := by omega
    have hd : decide (m < C.length) = true := decide_eq_true (by omega)
    have h7 : ∀ o, (w.alloc o).cell? ⟨g, m, none⟩ = some (.int .i64 (C[m]'(by omega) : Nat)) := fun o => ((Ext.refl w).alloc o).cell (hcc m (by omega))
    generalize C[m]'(by omega) = y at h7 HE
    rw [show ((m + 1 : Nat) : Int) = (m : Int) + 1 by omega] at hnI ⊢
    have hz : (((m : Nat) : Int) + 1 == 0) = false := beq_eq_false_iff_ne.2 (by omega)
    clear hcc hg
    go_enter Tryz.func108, Tryz.ntmps108
    go_wp2_with fail
    exact ret_one rfl rfl rfl ⟨congrArg Ending.returned (congrArg (Value.int .i64) HE.out.symm), (Ext.refl w).alloc _⟩
theorem c_past8 (vat : Value) (p : Option Addr) (cap : Nat) (C : List Nat) (n : Nat) (w : World) (h : NRow w (.slice p C.length cap) C) (hn : n ≤ C.length) (hl : C.length ≤ 65536) :
    Calls Tryz.prog 109 #[.agg #[vat, .slice p C.length cap], .int .i64 (n : Nat), .int .i64 8] w fun e w' => e = .returned (.int .i64 (pastL C 8 n : Nat)) ∧ Ext w w' := c_past vat p cap C n 8 w h hn hl
theorem c_past4 (vat : Value) (p : Option Addr) (cap : Nat) (C : List Nat) (n : Nat) (w : World) (h : NRow w (.slice p C.length cap) C) (hn : n ≤ C.length) (hl : C.length ≤ 65536) :
    Calls Tryz.prog 109 #[.agg #[vat, .slice p C.length cap], .int .i64 (n : Nat), .int .i64 4] w fun e w' => e = .returned (.int .i64 (pastL C 4 n : Nat)) ∧ Ext w w' := c_past vat p cap C n 4 w h hn hl
end Go.Proofs.YtlmkbldiicbejaaGreatDoor
end

section
namespace Go.Proofs.YtlmkbldiicbejaaGreatDoor
open Go.RowKit Go.Rp Go.Maps Go.Cl Go.Shelf Go.Gr Go.Ln

set_option maxRecDepth 100000 in
set_option maxHeartbeats 4000000 in
theorem c_pairs (b q : Int) (w : World) :
    Calls Tryz.prog 142 #[.int .i64 b, .int .i64 q] w fun e w' => e = .returned (.bool (decide (PairsL b q))) ∧ Ext w w' := by
  have HX := Lib.hid (Ext.refl w)
  have HA := Lib.hid True.intro
  have HSZ := Lib.hid True.intro
  by_cases hb : b ∈ [0, 20, 22, 23, 21, 16, 14, 15, 10]
  · simp only [List.mem_cons, List.not_mem_nil, or_false] at hb
    rcases hb with rfl | rfl | rfl | rfl | rfl | rfl | rfl | rfl | rfl
    all_goals
      go_enter Tryz.func142, Tryz.ntmps142
      go_wp2_with fail
      all_goals repeat' (first | (refine am_step HX HA ?_ rfl rfl (by decide) (by first | rfl | exact HSZ.out); intro m W HX HA; cases m <;> go_wp2_with fail))
      all_goals refine ret_one rfl rfl rfl ⟨congrArg (fun b => Ending.returned (.bool b)) ?_, HX.out⟩
      all_goals
        have ha := HA.out
        first
          | (simp [intOf] at ha; done)
          | (simp [intOf] at ha; simp_all [PairsL])
          | simp_all [PairsL]
  · simp only [List.mem_cons, List.not_mem_nil, or_false, not_or] at hb
    have HB := Lib.hid hb
    have b0 : (b == 0) = false := beq_eq_false_iff_ne.2 hb.1
    have b1 : (b == 20) = false := beq_eq_false_iff_ne.2 hb.2.1
    have b2 : (b == 22) = false := beq_eq_false_iff_ne.2 hb.2.2.1
    have b3 : (b == 23) = false := beq_eq_false_iff_ne.2 hb.2.2.2.1
    have b4 : (b == 21) = false := beq_eq_false_iff_ne.2 hb.2.2.2.2.1
    have b6 : (b == 14) = false := beq_eq_false_iff_ne.2 hb.2.2.2.2.2.2.1
    have b8 : (b == 10) = false := beq_eq_false_iff_ne.2 hb.2.2.2.2.2.2.2.2
    clear hb
    go_enter Tryz.func142, Tryz.ntmps142
    go_wp2_with fail
    all_goals repeat' (first | (refine am_step HX HA ?_ rfl rfl (by decide) (by first | rfl | exact HSZ.out); intro m W HX HA; cases m <;> go_wp2_with fail))
    all_goals refine ret_one rfl rfl rfl ⟨congrArg (fun b => Ending.returned (.bool b)) ?_, HX.out⟩
    all_goals
      have ha := HA.out
      have hb := HB.out
      first
        | (simp [intOf] at ha; done)
        | (simp [intOf] at ha; simp_all [PairsL])
        | simp_all [PairsL]
end Go.Proofs.YtlmkbldiicbejaaGreatDoor
end

section
namespace Go.Proofs.YtlmkbldiicbejaaGreatDoor
open Go.RowKit Go.Rp Go.Maps Go.Cl Go.Shelf Go.Gr Go.Ln

theorem last_pos {C : List Nat} {n : Nat} {l : List Int} (h : lastL C n ∈ l) (hl : (-1 : Int) ∉ l) : ∃ m, n = m + 1 := by
  rcases n with _ | m
  · exact absurd h hl
  · exact ⟨m, rfl⟩
set_option maxRecDepth 100000 in
set_option maxHeartbeats 4000000 in
theorem c_lnumber (vat : Value) (p : Option Addr) (cap : Nat) (C : List Nat) (n : Nat) (w : World) (h : NRow w (.slice p C.length cap) C) (hn : n ≤ C.length) (hl : C.length ≤ 65536) :
    Calls Tryz.prog 143 #[.agg #[vat, .slice p C.length cap], .int .i64 (n : Nat)] w fun e w' => e = .returned (.bool (decide (NumL C n))) ∧ Ext w w' := by
  have HR := Lib.hid h
  have HN := Lib.hid (show NumL C n = (lastL C (numB C (numA C (pastL C 8 n))) = 20) from rfl)
  clear h
  go_enter Tryz.func143, Tryz.ntmps143
  go_wp2_with fail
  have HX0 := Lib.hid ((Ext.refl w).alloc (.cells #[vat, .slice p C.length cap] 144))
  have HB0 := Lib.hid (World.alloc_heap_new w (.cells #[vat, .slice p C.length cap] 144))
  have HSZ := Lib.hid (show w.heap.size + 1 = (w.alloc (.cells #[vat, .slice p C.length cap] 144)).heap.size by rw [World.size_alloc])
  generalize w.alloc (.cells #[vat, .slice p C.length cap] 144) = w0 at HX0 HB0 HSZ ⊢
  generalize w.heap.size = tb at HB0 HSZ ⊢
  replace HR := Lib.hid (HR.out.ext HX0.out)
  have HX := Lib.hid (Ext.refl w0)
  have k0 : w0.cell? ⟨tb, 0, none⟩ = some vat := (cell_blk HB0.out 0).trans rfl
  have k1 : w0.cell? ⟨tb, 1, none⟩ = some (.slice p C.length cap) := (cell_blk HB0.out 1).trans rfl
  refine (c_past8 vat p cap C n w0 (HR.out.ext HX.out) (by omega) hl).mono ?_
  rintro e w1 ⟨rfl, hx⟩
  replace HX := Lib.hid (HX.out.trans hx)
  clear hx k0 k1
  have k0 := (cell_blk (HX.out.blk HB0.out) 0).trans rfl
  have k1 := (cell_blk (HX.out.blk HB0.out) 1).trans rfl
  have hp := pastL_le C 8 n
  generalize pastL C 8 n = a at hp HN ⊢
  go_wp2_with fail
  refine (c_last vat p cap C a w1 (HR.out.ext HX.out) (by omega) hl).mono ?_
  rintro e w2 ⟨rfl, hx⟩
  replace HX := Lib.hid (HX.out.trans hx)
  clear hx k0 k1
  have k0 := (cell_blk (HX.out.blk HB0.out) 0).trans rfl
  have k1 := (cell_blk (HX.out.blk HB0.out) 1).trans rfl
  go_wp2_with fail
  have HA := Lib.hid True.intro
  refine am_step HX HA ?_ rfl rfl (by decide) (by first | rfl | exact HSZ.out)
  intro m w3 HX HA
  clear k0 k1
  have k0 := (cell_blk (HX.out.blk HB0.out) 0).trans rfl
  have k1 := (cell_blk (HX.out.blk HB0.out) 1).trans rfl
  rcases m with _ | _
  · have HE := Lib.hid (show numA C a = a by
      have h := HA.out.2
      simp [intOf] at h
      unfold numA
      rw [if_neg (by simpa using h)])
    rw [HE.out] at HN
    clear HE
    go_wp2_with fail
    refine (c_last vat p cap C a w3 (HR.out.ext HX.out) (by omega) hl).mono ?_
    rintro e w5 ⟨rfl, hx⟩
    replace HX := Lib.hid (HX.out.trans hx)
    clear hx k0 k1
    have k0 := (cell_blk (HX.out.blk HB0.out) 0).trans rfl
    have k1 := (cell_blk (HX.out.blk HB0.out) 1).trans rfl
    go_wp2_with fail
    refine am_step HX HA ?_ rfl rfl (by decide) (by first | rfl | exact HSZ.out)
    intro m w6 HX HA
    clear k0 k1
    have k0 := (cell_blk (HX.out.blk HB0.out) 0).trans rfl
    have k1 := (cell_blk (HX.out.blk HB0.out) 1).trans rfl
    rcases m with _ | _
    · have HE := Lib.hid (show numB C a = a by
        have h := HA.out.2
        simp [intOf] at h
        unfold numB
        rw [if_neg (by simpa using h)])
      rw [HE.out] at HN
      go_wp2_with fail
      refine (c_last vat p cap C a w6 (HR.out.ext HX.out) (by omega) hl).mono ?_
      rintro e w9 ⟨rfl, hx⟩
      replace HX := Lib.hid (HX.out.trans hx)
      clear hx k0 k1
      have k0 := (cell_blk (HX.out.blk HB0.out) 0).trans rfl
      have k1 := (cell_blk (HX.out.blk HB0.out) 1).trans rfl
      go_wp2_with fail
      refine ret_one rfl rfl rfl ⟨congrArg (fun b => Ending.returned (.bool b)) ?_, HX0.out.trans HX.out⟩
      rw [Bool.eq_iff_iff, beq_iff_eq, decide_eq_true_iff, HN.out]
    · have h := HA.out.2.1 rfl
      simp [intOf] at h
      have HH := Lib.hid h
      obtain ⟨b2, rfl⟩ := last_pos (l := [14, 15]) (by simpa using h) (by decide)
      have HE := Lib.hid (show numB C (b2 + 1) = pastL C 8 b2 by unfold numB; rw [if_pos HH.out]; rfl)
      rw [HE.out] at HN
      rw [show ((b2 + 1 : Nat) : Int) = (b2 : Int) + 1 by omega]
      have hb2I : ((b2 : Nat) : Int) + 1 ≤ 65536 := by omega
      clear h HE HH HA
      go_wp2_with fail
      refine (c_past8 vat p cap C b2 w6 (HR.out.ext HX.out) (by omega) hl).mono ?_
      rintro e w7 ⟨rfl, hx⟩
      replace HX := Lib.hid (HX.out.trans hx)
      clear hx k0 k1
      have k0 := (cell_blk (HX.out.blk HB0.out) 0).trans rfl
      have k1 := (cell_blk (HX.out.blk HB0.out) 1).trans rfl
      have hp3 := pastL_le C 8 b2
      generalize pastL C 8 b2 = d2 at hp3 HN ⊢
      go_wp2_with fail
      refine (c_last vat p cap C d2 w7 (HR.out.ext HX.out) (by omega) hl).mono ?_
      rintro e w9 ⟨rfl, hx⟩
      replace HX := Lib.hid (HX.out.trans hx)
      clear hx k0 k1
      have k0 := (cell_blk (HX.out.blk HB0.out) 0).trans rfl
      have k1 := (cell_blk (HX.out.blk HB0.out) 1).trans rfl
      go_wp2_with fail
      refine ret_one rfl rfl rfl ⟨congrArg (fun b => Ending.returned (.bool b)) ?_, HX0.out.trans HX.out⟩
      rw [Bool.eq_iff_iff, beq_iff_eq, decide_eq_true_iff, HN.out]
  · have h := HA.out.2.1 rfl
    simp [intOf] at h
    have HH := Lib.hid h
    obtain ⟨b, rfl⟩ := last_pos (l := [11, 10]) (by simpa using h) (by decide)
    have HE := Lib.hid (show numA C (b + 1) = pastL C 8 b by unfold numA; rw [if_pos HH.out]; rfl)
    rw [HE.out] at HN
    rw [show ((b + 1 : Nat) : Int) = (b : Int) + 1 by omega]
    have hbI : ((b : Nat) : Int) + 1 ≤ 65536 := by omega
    clear h HE HH HA
    have HA := Lib.hid True.intro
    go_wp2_with fail
    refine (c_past8 vat p cap C b w3 (HR.out.ext HX.out) (by omega) hl).mono ?_
    rintro e w4 ⟨rfl, hx⟩
    replace HX := Lib.hid (HX.out.trans hx)
    clear hx k0 k1
    have k0 := (cell_blk (HX.out.blk HB0.out) 0).trans rfl
    have k1 := (cell_blk (HX.out.blk HB0.out) 1).trans rfl
    have hp2 := pastL_le C 8 b
    generalize pastL C 8 b = d at hp2 HN ⊢
    go_wp2_with fail
    refine (c_last vat p cap C d w4 (HR.out.ext HX.out) (by omega) hl).mono ?_
    rintro e w5 ⟨rfl, hx⟩
    replace HX := Lib.hid (HX.out.trans hx)
    clear hx k0 k1
    have k0 := (cell_blk (HX.out.blk HB0.out) 0).trans rfl
    have k1 := (cell_blk (HX.out.blk HB0.out) 1).trans rfl
    go_wp2_with fail
    refine am_step HX HA ?_ rfl rfl (by decide) (by first | rfl | exact HSZ.out)
    intro m w6 HX HA
    clear k0 k1
    have k0 := (cell_blk (HX.out.blk HB0.out) 0).trans rfl
    have k1 := (cell_blk (HX.out.blk HB0.out) 1).trans rfl
    rcases m with _ | _
    · have HE := Lib.hid (show numB C d = d by
        have h := HA.out.2
        simp [intOf] at h
        unfold numB
        rw [if_neg (by simpa using h)])
      rw [HE.out] at HN
      go_wp2_with fail
      refine (c_last vat p cap C d w6 (HR.out.ext HX.out) (by omega) hl).mono ?_
      rintro e w9 ⟨rfl, hx⟩
      replace HX := Lib.hid (HX.out.trans hx)
      clear hx k0 k1
      have k0 := (cell_blk (HX.out.blk HB0.out) 0).trans rfl
      have k1 := (cell_blk (HX.out.blk HB0.out) 1).trans rfl
      go_wp2_with fail
      refine ret_one rfl rfl rfl ⟨congrArg (fun b => Ending.returned (.bool b)) ?_, HX0.out.trans HX.out⟩
      rw [Bool.eq_iff_iff, beq_iff_eq, decide_eq_true_iff, HN.out]
    · have h := HA.out.2.1 rfl
      simp [intOf] at h
      have HH := Lib.hid h
      obtain ⟨b2, rfl⟩ := last_pos (l := [14, 15]) (by simpa using h) (by decide)
      have HE := Lib.hid (show numB C (b2 + 1) = pastL C 8 b2 by unfold numB; rw [if_pos HH.out]; rfl)
      rw [HE.out] at HN
      rw [show ((b2 + 1 : Nat) : Int) = (b2 : Int) + 1 by omega]
      have hb2I : ((b2 : Nat) : Int) + 1 ≤ 65536 := by omega
      clear h HE HH HA
      go_wp2_with fail
      refine (c_past8 vat p cap C b2 w6 (HR.out.ext HX.out) (by omega) hl).mono ?_
      rintro e w7 ⟨rfl, hx⟩
      replace HX := Lib.hid (HX.out.trans hx)
      clear hx k0 k1
      have k0 := (cell_blk (HX.out.blk HB0.out) 0).trans rfl
      have k1 := (cell_blk (HX.out.blk HB0.out) 1).trans rfl
      have hp3 := pastL_le C 8 b2
      generalize pastL C 8 b2 = d2 at hp3 HN ⊢
      go_wp2_with fail
      refine (c_last vat p cap C d2 w7 (HR.out.ext HX.out) (by omega) hl).mono ?_
      rintro e w9 ⟨rfl, hx⟩
      replace HX := Lib.hid (HX.out.trans hx)
      clear hx k0 k1
      have k0 := (cell_blk (HX.out.blk HB0.out) 0).trans rfl
      have k1 := (cell_blk (HX.out.blk HB0.out) 1).trans rfl
      go_wp2_with fail
      refine ret_one rfl rfl rfl ⟨congrArg (fun b => Ending.returned (.bool b)) ?_, HX0.out.trans HX.out⟩
      rw [Bool.eq_iff_iff, beq_iff_eq, decide_eq_true_iff, HN.out]
set_option maxRecDepth 100000 in
set_option maxHeartbeats 4000000 in
theorem c_regions (vat : Value) (p : Option Addr) (cap : Nat) (C : List Nat) (n : Nat) (w : World) (h : NRow w (.slice p C.length cap) C) (hn : n ≤ C.length) (hl : C.length ≤ 65536) :
    Calls Tryz.prog 144 #[.agg #[vat, .slice p C.length cap], .int .i64 (n : Nat)] w fun e w' => e = .returned (.int .i64 (regL C n : Nat)) ∧ Ext w w' := by
  have HR := Lib.hid h
  clear h
  go_enter Tryz.func144, Tryz.ntmps144
  go_wp2_with fail
  have HX0 := Lib.hid ((Ext.refl w).alloc (.cells #[vat, .slice p C.length cap] 144))
  have HB0 := Lib.hid (World.alloc_heap_new w (.cells #[vat, .slice p C.length cap] 144))
  have HSZ := Lib.hid (show w.heap.size + 1 = (w.alloc (.cells #[vat, .slice p C.length cap] 144)).heap.size by rw [World.size_alloc])
  generalize w.alloc (.cells #[vat, .slice p C.length cap] 144) = w0 at HX0 HB0 HSZ ⊢
  generalize w.heap.size = tb at HB0 HSZ ⊢
  replace HR := Lib.hid (HR.out.ext HX0.out)
  have HX := Lib.hid (Ext.refl w0)
  have k0 : w0.cell? ⟨tb, 0, none⟩ = some vat := (cell_blk HB0.out 0).trans rfl
  have k1 : w0.cell? ⟨tb, 1, none⟩ = some (.slice p C.length cap) := (cell_blk HB0.out 1).trans rfl
  refine (c_past8 vat p cap C n w0 (HR.out.ext HX.out) (by omega) hl).mono ?_
  rintro e w1 ⟨rfl, hx⟩
  replace HX := Lib.hid (HX.out.trans hx)
  clear hx k0 k1
  have k0 := (cell_blk (HX.out.blk HB0.out) 0).trans rfl
  have k1 := (cell_blk (HX.out.blk HB0.out) 1).trans rfl
  have hp := pastL_le C 8 n
  have HG := Lib.hid (show regL C n = regGo C n (pastL C 8 n) from rfl)
  generalize pastL C 8 n = a at hp HG ⊢
  go_wp2_with fail
  go_loopw [1, 5] (fun nv kv W => ∃ m k f : Nat, nv = .int .i64 (m : Nat) ∧ kv = .int .i64 (k : Nat) ∧ m ≤ n ∧ k ≤ 65536 - m ∧ m ≤ f ∧ Hid (regL C n = k + regGo C f m) ∧ Hid (Ext w0 W)) (fun nv _ _ => (intOf nv).toNat)
  case atStart => exact ⟨a, 0, n, rfl, rfl, hp, Nat.zero_le _, hp, Lib.hid (by rw [HG.out]; simp), HX⟩
  case round =>
    clear k0 k1
    obtain ⟨m, k, f, rfl, rfl, hm, hk, hf, HK, HX⟩ := hrel
    obtain ⟨W, rfl⟩ : ∃ W, W = wr := ⟨_, rfl⟩
    have k0 : W.cell? ⟨tb, 0, none⟩ = some vat := (cell_blk (HX.out.blk HB0.out) 0).trans rfl
    have k1 : W.cell? ⟨tb, 1, none⟩ = some (.slice p C.length cap) := (cell_blk (HX.out.blk HB0.out) 1).trans rfl
    go_wp2_with fail
    refine (c_last vat p cap C m W (HR.out.ext HX.out) (by omega) hl).mono ?_
    rintro e w2 ⟨rfl, hx⟩
    replace HX := Lib.hid (HX.out.trans hx)
    clear hx k0 k1
    have k0 := (cell_blk (HX.out.blk HB0.out) 0).trans rfl
    have k1 := (cell_blk (HX.out.blk HB0.out) 1).trans rfl
    by_cases h25 : lastL C m = 25
    · have hb : (lastL C m == 25) = true := beq_iff_eq.2 h25
      obtain ⟨m', rfl⟩ := last_pos (l := [25]) (by simpa using h25) (by decide)
      obtain ⟨f', rfl⟩ : ∃ f', f = f' + 1 := ⟨f - 1, by omega⟩
      have HK2 := Lib.hid (show regL C n = (k + 1) + regGo C f' (pastL C 8 m') by rw [HK.out, regGo, if_pos h25]; simp; omega)
      rw [show ((m' + 1 : Nat) : Int) = (m' : Int) + 1 by omega]
      have hmI : ((m' : Nat) : Int) + 1 ≤ 65536 := by omega
      have hkI : ((k : Nat) : Int) + 1 ≤ 65536 := by omega
      clear h25
      go_wp2_with fail
      refine (c_past8 vat p cap C m' w2 (HR.out.ext HX.out) (by omega) hl).mono ?_
      rintro e w3 ⟨rfl, hx⟩
      replace HX := Lib.hid (HX.out.trans hx)
      clear hx k0 k1
      have k0 := (cell_blk (HX.out.blk HB0.out) 0).trans rfl
      have k1 := (cell_blk (HX.out.blk HB0.out) 1).trans rfl
      have hp3 := pastL_le C 8 m'
      generalize pastL C 8 m' = d at hp3 HK2 ⊢
      go_wp2_with fail
      exact ⟨⟨d, k + 1, f', rfl, by simp, by omega, by omega, by omega, HK2, HX⟩, by simp only [intOf]; omega⟩
    · have hb : (lastL C m == 25) = false := beq_eq_false_iff_ne.2 h25
      have HK2 := Lib.hid (show k = regL C n by
        rw [HK.out]
        cases f with
        | zero => rfl
        | succ f => rw [regGo, if_neg h25]; rfl)
      clear h25
      go_wp2_with fail
      refine bodyPost_ret (results_tmp rfl _ _ _) rfl ⟨?_, HX0.out.trans HX.out⟩
      exact congrArg (fun n : Nat => Ending.returned (.int .i64 (n : Nat))) HK2.out
end Go.Proofs.YtlmkbldiicbejaaGreatDoor
end
