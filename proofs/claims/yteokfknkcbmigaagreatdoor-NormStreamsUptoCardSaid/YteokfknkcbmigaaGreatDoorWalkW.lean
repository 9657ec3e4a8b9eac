/-
 A scanner of runes that holds back what is no whole rune.
-/
import Derived.Test.YteokfknkcbmigaaGreatDoorWalkV
import Derived.Test.YteokfknkcbmigaaGreatDoorPlainM
import Derived.Lib.MinMax
namespace Go.Proofs.YteokfknkcbmigaaGreatDoor
open Go.RowKit Go.Rp Go.Shelf Go.Maps Go.Nm

/-- What is held back of a text. -/
def heldGo : Nat → List UInt8 → List UInt8
 | 0, l => l
 | n + 1, l => if l = [] ∨ fullB l = false then l else heldGo n (l.drop (wid l))
theorem heldGo_fuel : ∀ (n m : Nat) (l : List UInt8), l.length ≤ n → l.length ≤ m → heldGo n l = heldGo m l
 | 0, 0, l, _, _ => rfl
 | 0, m + 1, l, h, _ => by
  have : l = [] := List.length_eq_zero_iff.1 (by omega)
  subst this
  simp [heldGo]
 | n + 1, 0, l, _, h => by
  have : l = [] := List.length_eq_zero_iff.1 (by omega)
  subst this
  simp [heldGo]
 | n + 1, m + 1, l, h1, h2 => by
  rw [heldGo, heldGo]
  split
  ·rfl
  ·rename_i hc
   have hne : l ≠ [] := fun e => hc (.inl e)
   have hw := wid_pos l
   have hl : 0 < l.length := List.length_pos_iff.2 hne
   exact heldGo_fuel n m _ (by rw [List.length_drop]; omega) (by rw [List.length_drop]; omega)
def heldL (l : List UInt8) : List UInt8 := heldGo l.length l
theorem heldL_stop {l : List UInt8} (h : l = [] ∨ fullB l = false) : heldL l = l := by
 unfold heldL
 cases l with
 | nil => rfl
 | cons c t => rw [List.length_cons, heldGo, if_pos h]
theorem heldL_step {l : List UInt8} (h0 : l ≠ []) (h : fullB l = true) : heldL l = heldL (l.drop (wid l)) := by
 cases l with
 | nil => exact absurd rfl h0
 | cons c t =>
  have hw := wid_pos (c :: t)
  unfold heldL
  rw [List.length_cons, heldGo, if_neg (by simp [h])]
  exact heldGo_fuel _ _ _ (by rw [List.length_drop, List.length_cons]; omega) (Nat.le_refl _)
theorem info_mark : (Tryz.prog.info? 143).map (fun i => (i.zero, i.size, i.bytes)) = some (some (.agg #[.int .i64 0, .int .i64 0, .int .i32 0, .bool false]), 4, 24) := by kernel_rfl
theorem info_u8 : (Tryz.prog.info? 5).map (fun i => (i.zero, i.size, i.bytes)) = some (some (.int .u8 0), 1, 1) := by kernel_rfl
def lenOf : Value → Nat | .slice _ n _ => n | _ => 0
/-- What stands at the loop's head. -/
def MkJ (xB g : Nat) (l : List UInt8) (w : World) (a : Act) (W : World) : Prop :=
 ∃ (off r c k : Nat) (lv : Value) (pa : Addr) (xs : List Value) (at' : Int) (u8 u9 u10 u11 u12 u13 u14 u15 u16 u17 u18 u19 u20 u21 u22 u23 u24 u25 u26 u27 u28 u29 u30 u31 u32 u33 u34 u35 u36 u37 u38 u39 u40 u41 u42 u43 u44 u45 u46 u47 u48 u49 u50 u51 u52 u53 u54 u55 u56 u57 u58 u59 u60 u61 u62 u63 u64 u65 u66 : Value), a = { tmps := #[.pointer (some ⟨xB, 0, none⟩), .bool false, undef, undef, .slice none 0 0, lv, .int .i64 at', .slice (some pa) r c, u8, u9, u10, u11, u12, u13, u14, u15, u16, u17, u18, u19, u20, u21, u22, u23, u24, u25, u26, u27, u28, u29, u30, u31, u32, u33, u34, u35, u36, u37, u38, u39, u40, u41, u42, u43, u44, u45, u46, u47, u48, u49, u50, u51, u52, u53, u54, u55, u56, u57, u58, u59, u60, u61, u62, u63, u64, u65, u66], defers := [] } ∧
  Hid (off + r = l.length ∧ (0 < r → pa = ⟨g, off, none⟩) ∧ heldL l = heldL (l.drop off) ∧ (0 ≤ at' ∧ at' ≤ off) ∧ k ≤ off ∧ r ≤ c) ∧ W.ownsRow w.heap.size 143 4 lv k xs ∧ Ext w W
/-- .. and behind it. -/
def MkE (xB g : Nat) (l : List UInt8) (w : World) (a : Act) (W : World) : Prop :=
 ∃ (off r c : Nat) (lv : Value) (pa : Addr) (at' : Int) (u8 u9 u10 u11 u12 u13 u14 u15 u16 u17 u18 u19 u20 u21 u22 u23 u24 u25 u26 u27 u28 u29 u30 u31 u32 u33 u34 u35 u36 u37 u38 u39 u40 u41 u42 u43 u44 u45 u46 u47 u48 u49 u50 u51 u52 u53 u54 u55 u56 u57 u58 u59 u60 u61 u62 u63 u64 u65 u66 : Value), a = { tmps := #[.pointer (some ⟨xB, 0, none⟩), .bool false, undef, undef, .slice none 0 0, lv, .int .i64 at', .slice (some pa) r c, u8, u9, u10, u11, u12, u13, u14, u15, u16, u17, u18, u19, u20, u21, u22, u23, u24, u25, u26, u27, u28, u29, u30, u31, u32, u33, u34, u35, u36, u37, u38, u39, u40, u41, u42, u43, u44, u45, u46, u47, u48, u49, u50, u51, u52, u53, u54, u55, u56, u57, u58, u59, u60, u61, u62, u63, u64, u65, u66], defers := [] } ∧
  Hid (off + r = l.length ∧ (0 < r → pa = ⟨g, off, none⟩) ∧ heldL l = l.drop off ∧ r ≤ c) ∧ Ext w W
theorem dec_go {l : List UInt8} (h : l ≠ []) : Lib.decodeGo ⟨l.toArray⟩ = (run l, wid l) := by
 have hs : ¬ (⟨l.toArray⟩ : ByteArray).size = 0 := by
  intro h0
  have : l.length = 0 := h0
  exact h (List.length_eq_zero_iff.1 this)
 unfold Lib.decodeGo
 rw [if_neg hs, dec_at]
 rfl
theorem cell4_new (w : World) (a b c d : Value) (t : TypeId) : ∀ (j : Nat) u, [a, b, c, d][j]? = some u → (w.alloc (.cells #[a, b, c, d] t)).cell? ((⟨w.heap.size, 0, none⟩ : Addr).add j) = some u := by
 intro j u h
 have hadd : (⟨w.heap.size, 0, none⟩ : Addr).add j = ⟨w.heap.size, j, none⟩ := by unfold Addr.add; split <;> simp_all
 rw [hadd, cell_blk (World.alloc_heap_new w _) j]
 simpa using h
set_option maxRecDepth 100000 in
set_option maxHeartbeats 8000000 in
theorem c_marks (xB base g cap : Nat) (l : List UInt8) (w : World) (hT : Tabs w) (hbk : w.heap[xB]? = some (.cells #[.slice (some ⟨g, 0, none⟩) l.length cap, .int .i64 (l.length : Nat)] 128 (0, 0))) (hrow : w.ownsRow base 5 1 (.slice (some ⟨g, 0, none⟩) l.length cap) l.length (Lib.byteCells l)) (hl : l.length ≤ 1000000) (h0 : 0 < l.length) :
  Calls Tryz.prog 84 #[.pointer (some ⟨xB, 0, none⟩), .bool false] w fun e w' => ∃ u v', e = .returned u ∧ w'.heap[xB]? = some (.cells #[v', .int .i64 (l.length : Nat)] 128 (0, 0)) ∧ (∃ p c, v' = .slice p (heldL l).length c) ∧ w.grownBy w' (some xB) := by
 obtain ⟨i0, hi0, hz0, hz1, hz3⟩ := info_parts info_mark
 obtain ⟨j0, hj0, hy0, hy1, hy3⟩ := info_parts info_u8
 have HROW := Lib.hid hrow
 have HBK := Lib.hid hbk
 have hlI : ((l.length : Nat) : Int) ≤ 1000000 := by omega
 have c0 : ∀ w', EOn (fun _ => True) w w' → w'.cell? ⟨xB, 0, none⟩ = some (.slice (some ⟨g, 0, none⟩) l.length cap) := fun w' h => h.cell trivial ((cell_blk hbk 0).trans rfl)
 have c1 : ∀ w', EOn (fun _ => True) w w' → w'.cell? ⟨xB, 1, none⟩ = some (.int .i64 (l.length : Nat)) := fun w' h => h.cell trivial ((cell_blk hbk 1).trans rfl)
 clear hrow hbk
 go_enter Tryz.func84, Tryz.ntmps84
 go_wp2_with fail
 refine wp_scope_two' 0 1 (MkE xB g l w) (MkJ xB g l w) (fun a _ => lenOf (a.tmps.getD 7 undef)) rfl rfl ?first ?pass ?last
 case first =>
  intro pass
  have HP := Lib.hid pass
  clear pass
  go_wp2_with fail
  refine wp_lex (fun _ => True) [true, true, true, true, true, true, true, true, true, true, true] (by kernel_rfl) (by kernel_rfl) ?_
  repeat first
   | refine wpG_move' ?_
   | refine wpG_assign' ?_
   | refine wpG_val' ?_
   | refine wpG_no' ?_
  refine wpG_end (fun w5 hx5 => ?_)
  have d0 := hx5.cell (c0 w (EOn.refl _ _))
  clear c0 c1
  go_wp2_with fail
  refine gQ_normal ?_
  go_wp2_with fail
  go_step3
  rename_i K0 hK0
  refine hK0 _ _ ?_
  have hcap : l.length ≤ cap := by
   rcases HROW.out.2 with ⟨e, _⟩ | ⟨g', cap', cur, e, _, _, h1, _⟩
   ·cases e
   ·cases e; exact h1
  refine wp_as_pass (HP.out _ _ ?_) (fun _ _ h => And.left h)
  exact ⟨0, l.length, cap, 0, .slice none 0 0, _, [], 0, _, _, _, _, _, _, _, _, _, _, _, _, _, _, _, _, _, _, _, _, _, _, _, _, _, _, _, _, _, _, _, _, _, _, _, _, _, _, _, _, _, _, _, _, _, _, _, _, _, _, _, _, _, _, _, _, _, _, _, rfl, Lib.hid ⟨by omega, fun _ => rfl, by simp, by omega, by omega, hcap⟩, World.ownsRow_nil _ _ _ _, hx5⟩
 case pass =>
  rintro a W ⟨off, r, c, k, lv, pa, xs, at', u8, u9, u10, u11, u12, u13, u14, u15, u16, u17, u18, u19, u20, u21, u22, u23, u24, u25, u26, u27, u28, u29, u30, u31, u32, u33, u34, u35, u36, u37, u38, u39, u40, u41, u42, u43, u44, u45, u46, u47, u48, u49, u50, u51, u52, u53, u54, u55, u56, u57, u58, u59, u60, u61, u62, u63, u64, u65, u66, rfl, HJ, hown, hx⟩
  clear c0 c1
  by_cases hr : r = 0
  ·subst hr
   have HE := Lib.hid (show heldL l = l.drop off by
    rw [HJ.out.2.2.1]
    exact heldL_stop (.inl (List.drop_eq_nil_iff.2 (by have := HJ.out.1; omega))))
   go_wp2_with fail
   go_step3
   exact .inr ⟨rfl, off, 0, c, lv, pa, at', _, _, _, _, _, _, _, _, _, _, _, _, _, _, _, _, _, _, _, _, _, _, _, _, _, _, _, _, _, _, _, _, _, _, _, _, _, _, _, _, _, _, _, _, _, _, _, _, _, _, _, _, _, _, _, _, _, _, _, rfl, Lib.hid ⟨HJ.out.1, HJ.out.2.1, HE.out, Nat.zero_le _⟩, hx⟩
  ·have hr0 : ((r : Int) == 0) = false := by simp; exact hr
   have hrp : 0 < r := by omega
   obtain rfl : pa = ⟨g, off, none⟩ := HJ.out.2.1 hrp
   have hcl : ∀ j (h : j < r), W.cell? ⟨g, off + j, none⟩ = some (.int .u8 ((l.drop off).getD j 0).toNat) := fun j h => by
    have h1 := HJ.out.1
    have h2 := HROW.out.cellAt (off + j) (by omega)
    have h3 : (Lib.byteCells l)[off + j]? = some (.int .u8 ((l.drop off).getD j 0).toNat) := by
     unfold Lib.byteCells
     rw [List.getElem?_map, List.getD_eq_getElem?_getD, List.getElem?_drop, List.getElem?_eq_getElem (by omega)]
     rfl
    exact hx.cell (h2.trans h3)
   have HCL := Lib.hid hcl
   have HFR := Lib.hid (show ∀ w', Ext W w' → Calls Tryz.prog 98 #[.slice (some ⟨g, off, none⟩) r c] w' fun e w'' => e = .returned (.bool (fullB (l.drop off))) ∧ Ext w' w'' from fun w' hx' => by
    have h1 := HJ.out.1
    have hlen : (l.drop off).length = r := by rw [List.length_drop]; omega
    unfold fullB
    rw [hlen]
    exact c_FullRune r g off c _ _ _ w' (hT.ext (hx.trans hx')) hrp (by omega) (UInt8.toNat_lt _) (UInt8.toNat_lt _) (UInt8.toNat_lt _) (hx'.cell (by simpa using hcl 0 hrp)) (fun h => hx'.cell (hcl 1 h)) (fun h => hx'.cell (hcl 2 h)))
   obtain ⟨full, hfull⟩ : ∃ full, fullB (l.drop off) = full := ⟨_, rfl⟩
   have HFU := Lib.hid hfull
   rw [hfull] at HFR
   clear hcl hfull
   go_wp2_with fail
   refine (HFR.out W (Ext.refl _)).mono ?_
   rintro e w2 ⟨rfl, hx2⟩
   cases full with
   | false =>
    have HE := Lib.hid (show heldL l = l.drop off by
     rw [HJ.out.2.2.1]
     exact heldL_stop (.inr HFU.out))
    go_wp2_with fail
    go_step3
    exact .inr ⟨rfl, off, r, c, lv, _, at', _, _, _, _, _, _, _, _, _, _, _, _, _, _, _, _, _, _, _, _, _, _, _, _, _, _, _, _, _, _, _, _, _, _, _, _, _, _, _, _, _, _, _, _, _, _, _, _, _, _, _, _, _, _, _, _, _, _, _, rfl, Lib.hid ⟨HJ.out.1, fun _ => rfl, HE.out, HJ.out.2.2.2.2.2⟩, Ext.trans hx hx2⟩
   | true =>
    have hne : l.drop off ≠ [] := fun e => by
     have := congrArg List.length e
     rw [List.length_drop, List.length_nil] at this
     have := HJ.out.1
     omega
    have hlen : (l.drop off).length = r := by rw [List.length_drop]; have := HJ.out.1; omega
    have hde := u8_DecodeRune ⟨(l.drop off).toArray⟩ g off c w2 (hT.ext (Ext.trans hx hx2)) (fun j hj => by
     have hj' : j < r := by rw [← hlen]; exact hj
     have e : (⟨(l.drop off).toArray⟩ : ByteArray).get! j = (l.drop off).getD j 0 := by
      show (l.drop off).toArray[j]! = _
      rw [List.getElem!_toArray, List.getElem!_eq_getElem?_getD, List.getD_eq_getElem?_getD]
      rfl
     rw [e]
     exact hx2.cell (HCL.out j hj'))
    rw [show (⟨(l.drop off).toArray⟩ : ByteArray).size = r from hlen, dec_go hne] at hde
    have hw1 := wid_pos (l.drop off)
    have hw2 := wid_le _ hne
    rw [hlen] at hw2
    have HST := Lib.hid (show heldL l = heldL (l.drop (off + wid (l.drop off))) by rw [HJ.out.2.2.1, heldL_step hne HFU.out, List.drop_drop])
    obtain ⟨m, hm⟩ : ∃ m, wid (l.drop off) = m := ⟨_, rfl⟩
    obtain ⟨ri, hri⟩ : ∃ ri : Int, ((run (l.drop off) : Nat) : Int) = ri := ⟨_, rfl⟩
    rw [hm] at hw1 hw2 HST hde
    simp only [hri] at hde
    have HDE := Lib.hid hde
    have HX2 := Lib.hid (And.intro hx hx2)
    have HOW := Lib.hid hown
    clear hde hne hlen hm hri HFR HCL HFU hx hx2 hown
    go_wp2_with fail
    refine HDE.out.mono ?_
    rintro e w3 ⟨rfl, hx3⟩
    have HX3 := Lib.hid (Ext.trans HX2.out.1 (Ext.trans HX2.out.2 hx3))
    have HO3 := Lib.hid (ownsRow_ext HOW.out (Ext.trans HX2.out.2 hx3))
    have hmr : ((m : Nat) : Int) ≤ (r : Nat) := by omega
    have hrc : ((r : Nat) : Int) ≤ (c : Nat) := by have := HJ.out.2.2.2.2.2; omega
    have hat : 0 ≤ at' ∧ at' ≤ 1000000 := by have := HJ.out.2.2.2.1; have := HJ.out.1; omega
    have hm9 : ((m : Nat) : Int) ≤ 1000000 := by have := HJ.out.1; omega
    clear hx3 HX2 HOW HDE hlI
    by_cases hA : ri = 65533
    ·subst hA
     by_cases hB : m = 1
     ·subst hB
      go_wp2_with (at_builtin; refine Hid.out ?_)
      refine Lib.hid ?_
      have hx7 := HX3.out.alloc (.cells #[.int .i64 at', .int .i64 1, .int .i32 65533, .bool true] 143)
      have hrow7 := ownsRow_ext HO3.out ((Ext.refl w3).alloc (.cells #[.int .i64 at', .int .i64 1, .int .i32 65533, .bool true] 143))
      have hnew := cell4_new w3 (.int .i64 at') (.int .i64 1) (.int .i32 65533) (.bool true) 143
      generalize w3.alloc (.cells #[.int .i64 at', .int .i64 1, .int .i32 65533, .bool true] 143) = w7 at hx7 hrow7 hnew ⊢
      have hk6 := HJ.out.2.2.2.2.1
      have hk7 := HJ.out.1
      have hsz7 := hx7.sz
      refine wpList_append_own _ rfl (.tmp 41) (.tmp 52) 107 rfl w.heap.size 143 i0 (.agg #[.int .i64 0, .int .i64 0, .int .i32 0, .bool false]) 4 24 Tryz.underlying107 hi0 hz0 hz1 hz3 rfl (by decide) _ k xs rfl hrow7 ⟨w3.heap.size, 0, none⟩ 1 1 [.int .i64 at', .int .i64 1, .int .i32 65533, .bool true] rfl rfl hnew (by intro u hu; simp at hu; rcases hu with rfl | rfl | rfl | rfl <;> rfl) (by unfold maxLen; omega) (by omega) (by omega) ?_
      intro v' w8 hown8 hgrow8 _
      have hx8 : Ext w w8 := Below.grown hx7 hgrow8 hx7.sz (fun k e => (hrow7.lt k e).1)
      have HO8 := Lib.hid (And.intro hown8 hx8)
      clear hk6 hk7 hsz7 hgrow8 hown8 hx8 hrow7 hx7 hnew HX3 HO3
      go_wp2_with fail
      all_goals go_step3
      all_goals (refine .inl ⟨rfl, ⟨off + 1, r - 1, _, k + 1, v', _, _, _, _, _, _, _, _, _, _, _, _, _, _, _, _, _, _, _, _, _, _, _, _, _, _, _, _, _, _, _, _, _, _, _, _, _, _, _, _, _, _, _, _, _, _, _, _, _, _, _, _, _, _, _, _, _, _, _, _, _, _, rfl, Lib.hid ⟨by have := HJ.out.1; omega, ?_, HST.out, by have := HJ.out.2.2.2.1; omega, by have := HJ.out.2.2.2.2.1; omega, by have := HJ.out.2.2.2.2.2; omega⟩, HO8.out.1, HO8.out.2⟩, by show r - 1 < r; omega⟩)
      all_goals (intro h; first | rfl | (exfalso; have := HJ.out.2.2.2.2.2; omega))
     ·have hB2 : (((m : Nat) : Int) == 1) = false := by simp; omega
      clear hB
      go_wp2_with (at_builtin; refine Hid.out ?_)
      refine Lib.hid ?_
      have hx7 := HX3.out.alloc (.cells #[.int .i64 at', .int .i64 ((m : Nat) : Int), .int .i32 65533, .bool false] 143)
      have hrow7 := ownsRow_ext HO3.out ((Ext.refl w3).alloc (.cells #[.int .i64 at', .int .i64 ((m : Nat) : Int), .int .i32 65533, .bool false] 143))
      have hnew := cell4_new w3 (.int .i64 at') (.int .i64 ((m : Nat) : Int)) (.int .i32 65533) (.bool false) 143
      generalize w3.alloc (.cells #[.int .i64 at', .int .i64 ((m : Nat) : Int), .int .i32 65533, .bool false] 143) = w7 at hx7 hrow7 hnew ⊢
      have hk6 := HJ.out.2.2.2.2.1
      have hk7 := HJ.out.1
      have hsz7 := hx7.sz
      refine wpList_append_own _ rfl (.tmp 41) (.tmp 52) 107 rfl w.heap.size 143 i0 (.agg #[.int .i64 0, .int .i64 0, .int .i32 0, .bool false]) 4 24 Tryz.underlying107 hi0 hz0 hz1 hz3 rfl (by decide) _ k xs rfl hrow7 ⟨w3.heap.size, 0, none⟩ 1 1 [.int .i64 at', .int .i64 ((m : Nat) : Int), .int .i32 65533, .bool false] rfl rfl hnew (by intro u hu; simp at hu; rcases hu with rfl | rfl | rfl | rfl <;> rfl) (by unfold maxLen; omega) (by omega) (by omega) ?_
      intro v' w8 hown8 hgrow8 _
      have hx8 : Ext w w8 := Below.grown hx7 hgrow8 hx7.sz (fun k e => (hrow7.lt k e).1)
      have HO8 := Lib.hid (And.intro hown8 hx8)
      clear hk6 hk7 hsz7 hgrow8 hown8 hx8 hrow7 hx7 hnew HX3 HO3
      go_wp2_with fail
      all_goals go_step3
      all_goals (refine .inl ⟨rfl, ⟨off + m, r - m, _, k + 1, v', _, _, _, _, _, _, _, _, _, _, _, _, _, _, _, _, _, _, _, _, _, _, _, _, _, _, _, _, _, _, _, _, _, _, _, _, _, _, _, _, _, _, _, _, _, _, _, _, _, _, _, _, _, _, _, _, _, _, _, _, _, _, rfl, Lib.hid ⟨by have := HJ.out.1; omega, ?_, HST.out, by have := HJ.out.2.2.2.1; omega, by have := HJ.out.2.2.2.2.1; omega, by have := HJ.out.2.2.2.2.2; omega⟩, HO8.out.1, HO8.out.2⟩, by show r - m < r; omega⟩)
      all_goals (intro h; first | rfl | (exfalso; have := HJ.out.2.2.2.2.2; omega))
    ·have hA2 : (ri == 65533) = false := by simpa using hA
     clear hA
     go_wp2_with (at_builtin; refine Hid.out ?_)
     refine Lib.hid ?_
     have hx7 := HX3.out.alloc (.cells #[.int .i64 at', .int .i64 ((m : Nat) : Int), .int .i32 ri, .bool false] 143)
     have hrow7 := ownsRow_ext HO3.out ((Ext.refl w3).alloc (.cells #[.int .i64 at', .int .i64 ((m : Nat) : Int), .int .i32 ri, .bool false] 143))
     have hnew := cell4_new w3 (.int .i64 at') (.int .i64 ((m : Nat) : Int)) (.int .i32 ri) (.bool false) 143
     generalize w3.alloc (.cells #[.int .i64 at', .int .i64 ((m : Nat) : Int), .int .i32 ri, .bool false] 143) = w7 at hx7 hrow7 hnew ⊢
     have hk6 := HJ.out.2.2.2.2.1
     have hk7 := HJ.out.1
     have hsz7 := hx7.sz
     refine wpList_append_own _ rfl (.tmp 41) (.tmp 52) 107 rfl w.heap.size 143 i0 (.agg #[.int .i64 0, .int .i64 0, .int .i32 0, .bool false]) 4 24 Tryz.underlying107 hi0 hz0 hz1 hz3 rfl (by decide) _ k xs rfl hrow7 ⟨w3.heap.size, 0, none⟩ 1 1 [.int .i64 at', .int .i64 ((m : Nat) : Int), .int .i32 ri, .bool false] rfl rfl hnew (by intro u hu; simp at hu; rcases hu with rfl | rfl | rfl | rfl <;> rfl) (by unfold maxLen; omega) (by omega) (by omega) ?_
     intro v' w8 hown8 hgrow8 _
     have hx8 : Ext w w8 := Below.grown hx7 hgrow8 hx7.sz (fun k e => (hrow7.lt k e).1)
     have HO8 := Lib.hid (And.intro hown8 hx8)
     clear hk6 hk7 hsz7 hgrow8 hown8 hx8 hrow7 hx7 hnew HX3 HO3
     go_wp2_with fail
     all_goals go_step3
     all_goals (refine .inl ⟨rfl, ⟨off + m, r - m, _, k + 1, v', _, _, _, _, _, _, _, _, _, _, _, _, _, _, _, _, _, _, _, _, _, _, _, _, _, _, _, _, _, _, _, _, _, _, _, _, _, _, _, _, _, _, _, _, _, _, _, _, _, _, _, _, _, _, _, _, _, _, _, _, _, _, rfl, Lib.hid ⟨by have := HJ.out.1; omega, ?_, HST.out, by have := HJ.out.2.2.2.1; omega, by have := HJ.out.2.2.2.2.1; omega, by have := HJ.out.2.2.2.2.2; omega⟩, HO8.out.1, HO8.out.2⟩, by show r - m < r; omega⟩)
     all_goals (intro h; first | rfl | (exfalso; have := HJ.out.2.2.2.2.2; omega))
 case last =>
  rintro a W ⟨off, r, c, lv, pa, at', u8, u9, u10, u11, u12, u13, u14, u15, u16, u17, u18, u19, u20, u21, u22, u23, u24, u25, u26, u27, u28, u29, u30, u31, u32, u33, u34, u35, u36, u37, u38, u39, u40, u41, u42, u43, u44, u45, u46, u47, u48, u49, u50, u51, u52, u53, u54, u55, u56, u57, u58, u59, u60, u61, u62, u63, u64, u65, u66, rfl, HJ, hx⟩
  clear c0 c1
  have hbW := hx.blk HBK.out
  have hr9 : ((r : Nat) : Int) ≤ 1000000 := by have := HJ.out.1; omega
  have hxb : xB < w.heap.size := blk_lt HBK.out
  go_wp2_with (at_builtin; refine Hid.out ?_)
  refine Lib.hid ?_
  have hx7 := hx.alloc (.cells #[] 5)
  have hbk7 := World.alloc_heap_new W (.cells #[] 5)
  have hb7 := ((Ext.refl W).alloc (.cells #[] 5)).blk hbW
  have hsz7 : W.heap.size < (W.alloc (.cells #[] 5)).heap.size := by rw [World.size_alloc]; omega
  have hpc : ∀ j u, (Lib.byteCells (l.drop off))[j]? = some u → (W.alloc (.cells #[] 5)).cell? (pa.add j) = some u := fun j u hu => by
   have h1 := HJ.out.1
   have hj : j < (l.drop off).length := by
    have := (List.getElem?_eq_some_iff.1 hu).1
    rw [Lib.byteCells_length] at this
    exact this
   rw [List.length_drop] at hj
   obtain rfl : pa = ⟨g, off, none⟩ := HJ.out.2.1 (by omega)
   have hadd : (⟨g, off, none⟩ : Addr).add j = ⟨g, off + j, none⟩ := by unfold Addr.add; split <;> simp_all
   rw [hadd]
   refine hx7.cell ((HROW.out.cellAt (off + j) (by omega)).trans ?_)
   rw [← hu]
   unfold Lib.byteCells
   rw [List.getElem?_map, List.getElem?_map, List.getElem?_drop]
  have hsW := hx.sz
  generalize W.alloc (.cells #[] 5) = w7 at hx7 hbk7 hb7 hsz7 hpc ⊢
  have hrow7 : w7.ownsRow W.heap.size 5 1 (.slice (some ⟨W.heap.size, 0, none⟩) 0 0) 0 [] := ⟨rfl, .inr ⟨_, 0, #[], rfl, Nat.le_refl _, hbk7, Nat.le_refl _, Nat.zero_le _, rfl, rfl⟩⟩
  have hnl : (Lib.byteCells (l.drop off)).length = r * 1 := by rw [Lib.byteCells_length, List.length_drop]; have := HJ.out.1; omega
  have h1 := HJ.out.1
  refine wpList_append_own _ rfl (.tmp 61) (.tmp 62) 38 rfl W.heap.size 5 j0 (.int .u8 0) 1 1 Tryz.underlying38 hj0 hy0 hy1 hy3 rfl (by decide) _ 0 [] rfl hrow7 pa r c (Lib.byteCells (l.drop off)) rfl hnl hpc (by intro u hu; obtain ⟨b, _, rfl⟩ := List.mem_map.1 hu; rfl) (by unfold maxLen; omega) (by omega) (by omega) ?_
  intro v' w8 hown8 hgrow8 _
  have hb8 := (hgrow8.block xB (blk_lt hb7) (fun e => by have h2 : some xB = some W.heap.size := e; have h3 := Option.some.inj h2; omega)).trans hb7
  have hx8 : Ext w w8 := Below.grown hx7 hgrow8 hx7.sz (fun k e => by have h2 : some W.heap.size = some k := e; have h3 := Option.some.inj h2; omega)
  obtain ⟨p8, c8, rfl⟩ := own_slice hown8
  have d0 : w8.cell? ⟨xB, 0, none⟩ = some (.slice (some ⟨g, 0, none⟩) l.length cap) := (cell_blk hb8 0).trans rfl
  have f0 := frz_blk hb8 0
  have hset := set_blk hb8 0 (.slice p8 (0 + r) c8)
  have hgs := (ext_grown hx8 (some xB)).trans (grown_set w8 xB 0 (.slice p8 (0 + r) c8))
  have HS := Lib.hid (And.intro hset hgs)
  clear hset hgs hx8 hb8 hgrow8 hown8 h1 hnl hrow7 hpc hsz7 hb7 hbk7 hx7 hsW hxb hbW hx
  go_wp2_with fail
  rw [Exit.noGoto_ret]
  go_ret
  have hlen : (heldL l).length = 0 + r := by rw [HJ.out.2.2.1, List.length_drop]; have := HJ.out.1; omega
  rw [hlen]
  rw [show 0 + r = r from Nat.zero_add r] at HS ⊢
  exact ⟨_, _, rfl, HS.out.1, ⟨_, _, rfl⟩, HS.out.2⟩
end Go.Proofs.YteokfknkcbmigaaGreatDoor
