/-
  Counts and places of letters; a rune's class.
-/
import Derived.Test.YtafmhmcinhbpfaaGreatDoorGaD
import Derived.Test.YtafmhmcinhbpfaaGreatDoorPlainM
import Derived.Test.YtafmhmcinhbpfaaGreatDoorShelfG
namespace Go.Proofs.YtafmhmcinhbpfaaGreatDoor
open Go.RowKit Go.Rp Go.Maps Go.Cl Go.Shelf Go.Gr

set_option maxRecDepth 100000 in
set_option maxHeartbeats 4000000 in
theorem c_gClass (r : Int) (w : World) (hT : TabsW w) (hr0 : -2147483648 ≤ r) (hr1 : r ≤ 2147483647) :
    Calls Tryz.prog 38 #[.int .i32 r] w fun e w' => e = .returned (.int .i64 (clsG (rnN r) : Nat)) ∧ Ext w w' := by
  have HB := Lib.hid (c_gdb w hT)
  go_enter Tryz.func38, Tryz.ntmps38
  go_wp2_with fail
  refine HB.out.mono ?_
  rintro e w1 ⟨db, rfl, hd, hx1⟩
  have HG := Lib.hid (c_Get db _ rngG r w1 hd rngG_rise (by have := rngG_len; omega) hr0 hr1)
  have HX1 := Lib.hid hx1
  clear hd hx1 HB
  go_wp2_with fail
  refine HG.out.mono ?_
  rintro e w2 ⟨rfl, hx2⟩
  have HX2 := Lib.hid (HX1.out.trans hx2)
  clear hx2 HG
  go_wp2_with fail
  exact ret_one rfl rfl rfl ⟨rfl, HX2.out⟩
set_option maxRecDepth 100000 in
set_option maxHeartbeats 4000000 in
theorem c_gCount (s : ByteArray) (w : World) (hT : TabsW w) (hz : s.size ≤ 65536) :
    Calls Tryz.prog 24 #[.string s] w fun e w' => e = .returned (.int .i64 ((bdG s).length - 1 : Nat)) ∧ Ext w w' := by
  have HB := Lib.hid (c_Bounds s w hT hz)
  have hlen := bdG_len s
  change Hid (Calls _ _ _ _ fun e w' => ∃ v, e = .returned v ∧ w'.ownsRow w.heap.size 3 1 v (bdG s).length (nW (bdG s)) ∧ Ext w w') at HB
  generalize bdG s = D at *
  have hlI : ((D.length : Nat) : Int) ≤ 65538 := by omega
  go_enter Tryz.func24, Tryz.ntmps24
  go_wp2_with fail
  refine HB.out.mono ?_
  rintro e w1 ⟨v, rfl, hown, hx1⟩
  have HR := Lib.hid hown
  have HX := Lib.hid hx1
  obtain ⟨p, cap, rfl⟩ := own_slice hown
  clear hown hx1 HB
  go_wp2_with fail
  exact ret_one rfl rfl rfl ⟨congrArg (fun n => Ending.returned (.int .i64 n)) (by omega), HX.out⟩
set_option maxRecDepth 100000 in
set_option maxHeartbeats 4000000 in
theorem c_gIs (s : ByteArray) (q : Nat) (w : World) (hT : TabsW w) (hz : s.size ≤ 65536) :
    Calls Tryz.prog 25 #[.string s, .int .i64 (q : Nat)] w fun e w' => e = .returned (.bool (decide (q ∈ bdG s))) ∧ Ext w w' := by
  have HB := Lib.hid (c_Bounds s w hT hz)
  have hlen := bdG_len s
  change Hid (Calls _ _ _ _ fun e w' => ∃ v, e = .returned v ∧ w'.ownsRow w.heap.size 3 1 v (bdG s).length (nW (bdG s)) ∧ Ext w w') at HB
  have hris := bounds_rise clsG s.data.toList
  change (bdG s).Pairwise (· ≤ ·) at hris
  generalize bdG s = D at *
  have HRI := Lib.hid hris
  clear hris
  go_enter Tryz.func25, Tryz.ntmps25
  go_wp2_with fail
  refine HB.out.mono ?_
  rintro e w1 ⟨v, rfl, hown, hx1⟩
  have HR := Lib.hid hown
  have HX := Lib.hid hx1
  obtain ⟨p, cap, rfl⟩ := own_slice hown
  clear hown hx1 HB
  go_wp2_with fail
  by_cases h0 : D = []
  · subst h0
    refine (Tryz.slices_BinarySearch_int_empty p cap q w1).mono ?_
    rintro e w2 ⟨rfl, rfl⟩
    go_wp2_with fail
    exact ret_one rfl rfl rfl ⟨rfl, HX.out⟩
  · obtain ⟨g, rfl, hg0, hg, hcc⟩ := own_at HR.out (List.length_pos_iff.2 h0)
    have HCC := Lib.hid hcc
    clear hcc hg0 hg
    refine (Tryz.slices_BinarySearch_int g 0 D.length cap (D.map fun n => ((n : Nat) : Int)) q w1 (by simp) (by omega) (fun j hj => ?_) ?_).mono ?_
    · simp only [List.length_map] at hj
      rw [Nat.zero_add, HCC.out j (by omega)]
      simp [nW, hj]
    · rw [List.take_of_length_le (by simp)]
      exact List.pairwise_map.2 (HRI.out.imp fun h => by omega)
    · rintro e w2 ⟨rfl, n, rfl⟩
      have HX2 := Lib.hid (HX.out.trans (Ext.drews w1 n))
      have HM := Lib.hid (show (List.take D.length (D.map fun n => ((n : Nat) : Int))).contains (q : Int) = decide (q ∈ D) by
        rw [List.take_of_length_le (by simp), Bool.eq_iff_iff]
        simp
        exact ⟨fun ⟨a, h, e⟩ => (show a = q by omega) ▸ h, fun h => ⟨q, h, rfl⟩⟩)
      generalize w1.drewN n = w2 at HX2 ⊢
      rw [HM.out]
      generalize List.countP _ _ = cn
      clear HM
      go_wp2_with fail
      exact ret_one rfl rfl rfl ⟨rfl, HX2.out⟩
/-- Where the n-th letter begins. -/
noncomputable def placeG (s : ByteArray) (n : Nat) : Nat := (bdG s).getD n s.size
set_option maxRecDepth 100000 in
set_option maxHeartbeats 4000000 in
theorem c_gPlace (s : ByteArray) (n : Nat) (w : World) (hT : TabsW w) (hz : s.size ≤ 65536) (hn : n ≤ 65536) :
    Calls Tryz.prog 77 #[.string s, .int .i64 (n : Nat)] w fun e w' => e = .returned (.int .i64 (placeG s n : Nat)) ∧ Ext w w' := by
  have HB := Lib.hid (c_Bounds s w hT hz)
  have hlen := bdG_len s
  change Hid (Calls _ _ _ _ fun e w' => ∃ v, e = .returned v ∧ w'.ownsRow w.heap.size 3 1 v (bdG s).length (nW (bdG s)) ∧ Ext w w') at HB
  have HP := Lib.hid (show placeG s n = (bdG s).getD n s.size from rfl)
  generalize bdG s = D at *
  have hlI : ((D.length : Nat) : Int) ≤ 65538 := by omega
  have hnI : ((n : Nat) : Int) ≤ 65536 := by omega
  have hn0 : ¬ ((n : Nat) : Int) < 0 := by omega
  obtain ⟨yv, hyv⟩ : ∃ yv, D.getD n s.size = yv := ⟨_, rfl⟩
  rw [HP.out, hyv]
  have HY := Lib.hid hyv
  clear HP hyv
  go_enter Tryz.func77, Tryz.ntmps77
  go_wp2_with fail
  refine HB.out.mono ?_
  rintro e w1 ⟨v, rfl, hown, hx1⟩
  have HR := Lib.hid hown
  have HX := Lib.hid hx1
  obtain ⟨p, cap, rfl⟩ := own_slice hown
  clear hown hx1 HB
  by_cases hlt : n < D.length
  · have hI : ((n : Nat) : Int) < (D.length : Nat) := by omega
    have hd : decide (n < D.length) = true := decide_eq_true hlt
    obtain ⟨g, rfl, hg0, hg, hcc⟩ := own_at HR.out (by omega)
    have hc := (hcc n (by omega)).trans (show (nW D)[n]? = some (.int .i64 (D[n] : Nat)) by simp [nW, hlt])
    have HG := Lib.hid (show D[n] = yv by rw [← HY.out]; simp [hlt])
    rw [HG.out] at hc
    clear hcc hg0 hg HG hlt
    go_wp2_with fail
    exact ret_one rfl rfl rfl ⟨rfl, HX.out⟩
  · have hI : ¬ ((n : Nat) : Int) < (D.length : Nat) := by omega
    have hd : decide (n < D.length) = false := decide_eq_false hlt
    have HG := Lib.hid (show yv = s.size by rw [← HY.out]; simp [hlt])
    have HG2 := HG.out
    clear hlt HG HY
    subst HG2
    go_wp2_with fail
    exact ret_one rfl rfl rfl ⟨rfl, HX.out⟩
set_option maxRecDepth 100000 in
set_option maxHeartbeats 4000000 in
theorem c_gCut (s : ByteArray) (n : Nat) (w : World) (hT : TabsW w) (hz : s.size ≤ 65536) (hn : n ≤ 65536) :
    Calls Tryz.prog 49 #[.string s, .int .i64 (n : Nat)] w fun e w' => e = .returned (.tuple #[.string (s.extract 0 (placeG s n)), .string (s.extract (placeG s n) s.size)]) ∧ Ext w w' := by
  have HP := Lib.hid (c_gPlace s n w hT hz hn)
  have hle : placeG s n ≤ s.size := by
    unfold placeG
    rcases Nat.lt_or_ge n (bdG s).length with h | h
    · have := bdG_le s (bdG s)[n] (List.getElem_mem h)
      simpa [h] using this
    · simp [h]
  generalize placeG s n = y at *
  have hyI : ((y : Nat) : Int) ≤ (s.size : Nat) := by omega
  have hsI : ((s.size : Nat) : Int) ≤ 65536 := by omega
  go_enter Tryz.func49, Tryz.ntmps49
  go_wp2_with fail
  refine HP.out.mono ?_
  rintro e w1 ⟨rfl, hx1⟩
  have HX := Lib.hid hx1
  clear hx1 HP
  go_wp2_with fail
  refine wp_lex (fun _ => True) [true, true, true, true, true, true, true, true] (by kernel_rfl) (by kernel_rfl) ?_
  repeat first
    | refine wpG_move' ?_
    | refine wpG_assign' ?_
    | refine wpG_val' ?_
    | refine wpG_no' ?_
  refine wpG_end (fun w' hx => ?_)
  have HX2 := Lib.hid (HX.out.trans hx)
  clear hx
  go_wp2_with fail
  refine gQ_normal ?_
  go_wp2_with fail
  exact ret_two rfl rfl rfl rfl ⟨rfl, HX2.out⟩
end Go.Proofs.YtafmhmcinhbpfaaGreatDoor
