/-
  The column behind a letter.
-/
import Derived.Test.YtlmkbldiicbejaaGreatDoorWaB
namespace Go.Proofs.YtlmkbldiicbejaaGreatDoor
open Go.RowKit Go.Rp Go.Maps Go.Cl Go.Shelf Go.Gr

theorem lwGo_le (k : Cell) (hk : ∀ r, k.wd r ≤ 2) : ∀ (l : List Nat) (kind i n : Nat), n ≤ 2 → lwGo k kind i n l ≤ 2
  | [], _, _, _, h => h
  | r :: l, kind, i, n, h => by
    rw [lwGo]
    refine lwGo_le k hk l kind _ _ ?_
    split
    · omega
    · have := hk r
      omega
set_option maxRecDepth 100000 in
theorem wdK_le (a t : Nat) (ha : a ≤ 2) (r : Nat) : (cellK a t).wd r ≤ 2 := by
  unfold cellK wdA
  exact wdC_le ha _
theorem lwR_le (k : Cell) (hk : ∀ r, k.wd r ≤ 2) (l : List Nat) : lwR k l ≤ 2 := lwGo_le k hk _ _ _ _ (Nat.zero_le _)
theorem lwTk_le (k : Cell) (hk : ∀ r, k.wd r ≤ 2) (l : List UInt8) : lwT k l ≤ 2 := lwR_le k hk _
set_option maxRecDepth 100000 in
theorem lwT_le (a t : Nat) (ha : a ≤ 2) (l : List UInt8) : lwT (cellK a t) l ≤ 2 := lwTk_le (cellK a t) (wdK_le a t ha) l
/-- The column behind a letter. -/
noncomputable def bhK (a t col : Nat) (l : List UInt8) : Nat := behindC (lwT (cellK a t)) enT t col l
theorem bhK_le (a t col : Nat) (l : List UInt8) (ha : a ≤ 2) : bhK a t col l ≤ col + t + 2 := behindC_le _ _ _ _ _ (lwT_le a t ha l)
set_option maxRecDepth 100000 in
set_option maxHeartbeats 4000000 in
theorem c_wbehind (bk a t st col : Nat) (s : ByteArray) (w : World) (h : BookIs w bk a t st) (ha : a ≤ 2) (ht : 1 ≤ t) (ht2 : t ≤ 64) (hT : TabsW w) (hz : s.size ≤ 65536) (hne : s.size ≠ 0) (hcol : col ≤ 4294967296) :
    Calls Tryz.prog 85 #[.pointer (some ⟨bk, 0, none⟩), .int .i64 (col : Nat), .string s] w fun e w' => e = .returned (.int .i64 (bhK a t col s.data.toList : Nat)) ∧ Ext w w' := by
  have HE := Lib.hid (c_wends s w hT hne)
  have HB := Lib.hid h
  have HT := Lib.hid hT
  obtain ⟨en, hen⟩ : ∃ b, enT s.data.toList = b := ⟨_, rfl⟩
  obtain ⟨dw, dg, hb, _, _⟩ := h
  have k1 : w.cell? ⟨bk, 1, none⟩ = some (.int .i64 (t : Nat)) := (cell_blk hb 1).trans rfl
  have hcI : ((col : Nat) : Int) ≤ 4294967296 := by omega
  have hzI : (0 : Int) < (s.size : Nat) := by omega
  obtain ⟨h0, l0, hl0⟩ : ∃ x l, s.data.toList = x :: l := by
    cases hs : s.data.toList with
    | nil => exact absurd hs (size_ne hne)
    | cons x l => exact ⟨x, l, rfl⟩
  obtain ⟨nb, hnb⟩ : ∃ b, (((s[0]'(by omega)).toNat : Int) == 9) = b := ⟨_, rfl⟩
  have HNB := Lib.hid (show nb = true ↔ h0 = 9 by
    have e1 : s[0]'(by omega) = h0 := by
      have e2 : s.data.toList[0]'(by rw [hl0]; simp) = h0 := by simp [hl0]
      rw [← e2]
      simp
      rfl
    rw [← hnb, e1]
    simp
    constructor
    · intro h; exact UInt8.toNat_inj.1 (by have : (9 : UInt8).toNat = 9 := rfl; omega)
    · intro h; rw [h]; rfl)
  rw [hen] at HE
  have HV := Lib.hid (show bhK a t col s.data.toList = if en = true then 0 else if h0 = 9 then col - col % t + t else col + lwT (cellK a t) s.data.toList by
    unfold bhK behindC
    rw [hen, hl0]
    rfl)
  obtain ⟨v, hv⟩ : ∃ v, bhK a t col s.data.toList = v := ⟨_, rfl⟩
  rw [hv] at HV ⊢
  clear hb hen hT hl0 hv
  go_enter Tryz.func85, Tryz.ntmps85
  go_wp2_with fail
  refine HE.out.mono ?_
  rintro e w1 ⟨rfl, hx⟩
  have j1 := hx.cell k1
  have HX := Lib.hid hx
  cases en
  · clear hx k1 HE
    have HV2 := Lib.hid (show v = if h0 = 9 then col - col % t + t else col + lwT (cellK a t) s.data.toList from HV.out)
    cases nb
    · have HN9 := Lib.hid (show ¬ h0 = 9 from fun h => by have := HNB.out.2 h; cases this)
      rw [if_neg HN9.out] at HV2
      have HLT := Lib.hid (c_wletter bk a t st s w1 (HB.out.ext HX.out) ha (HT.out.ext HX.out) hz)
      have hle := lwT_le a t ha s.data.toList
      generalize lwT (cellK a t) s.data.toList = lw at HLT hle HV2
      go_wp2_with fail
      refine HLT.out.mono ?_
      rintro e w2 ⟨rfl, hx⟩
      have HX2 := Lib.hid (HX.out.trans hx)
      clear hx HLT
      go_wp2_with fail
      exact ret_one rfl rfl rfl ⟨congrArg (fun n => Ending.returned (.int .i64 n)) (by rw [HV2.out]; omega), HX2.out⟩
    · rw [if_pos (HNB.out.1 rfl)] at HV2
      have s1 : ∀ w', EOn (fun _ => True) w1 w' → w'.cell? ⟨bk, 1, none⟩ = some (.int .i64 (t : Nat)) := fun w' h => h.cell trivial j1
      have hmod : col % t < t := Nat.mod_lt _ (by omega)
      have hmle : col % t ≤ col := Nat.mod_le _ _
      have HMD := Lib.hid (show (col : Int) % (t : Int) = ((col % t : Nat) : Int) by omega)
      have ht0 : ¬ ((t : Nat) : Int) = 0 := by omega
      have htI : ((t : Nat) : Int) ≤ 64 := by omega
      go_wp2_with fail
      refine wp_lex (fun _ => True) [true, true, true, true, true, true, true, true, true, true, true, true, true, true, true, true] (by kernel_rfl) (by kernel_rfl) ?_
      repeat first
        | refine wpG_move' ?_
        | refine wpG_assign' ?_
        | refine wpG_val' ?_
        | refine wpG_no' ?_
      refine wpG_end (fun w' hx' => ?_)
      have HX2 := Lib.hid (HX.out.trans hx')
      clear hx'
      go_wp2_with fail
      refine gQ_normal ?_
      go_wp2_with fail
      exact ret_one rfl rfl rfl ⟨congrArg (fun n => Ending.returned (.int .i64 n)) (by rw [HV2.out]; omega), HX2.out⟩
  · go_wp2_with fail
    exact ret_one rfl rfl rfl ⟨by rw [HV.out]; rfl, HX.out⟩
end Go.Proofs.YtlmkbldiicbejaaGreatDoor
