/-
 CollateLevels: lesser levels tell less. CollateKeys: every text's elements and keys. CollateSorts: lists in order, in groups, and what is found in them.
-/
import Derived.Test.YtokeamebcdhnpaaGreatDoorLvW
import Derived.Test.YtokeamebcdhnpaaGreatDoorKwKCL
import Derived.Test.YtokeamebcdhnpaaGreatDoorKsM
section
namespace Go.Proofs.YtokeamebcdhnpaaGreatDoor
open Go.RowKit Go.Rp Go.Shelf Go.Maps Go.Cl

end Go.Proofs.YtokeamebcdhnpaaGreatDoor
end

section
namespace Go.Proofs.YtokeamebcdhnpaaGreatDoor
open Go.RowKit Go.Rp Go.Shelf Go.Maps Go.Cl

end Go.Proofs.YtokeamebcdhnpaaGreatDoor
end

section
namespace Go.Proofs.YtokeamebcdhnpaaGreatDoor
open Go.RowKit Go.Rp Go.Shelf Go.Maps Go.Cl

set_option maxRecDepth 100000 in
set_option maxHeartbeats 1000000 in
/-- Are texts too many, or too long? -/
theorem c_many (v : Value) (l : List ByteArray) (b : Bool) (w : World) (h : StrRow w v l) (hs : ∀ s ∈ l, s.size ≤ 140737488351232) (hb : b = true ↔ (10 < l.length ∨ 120 < total (l.take 11))) :
  Calls Tryz.prog 21 #[v] w fun e w' => e = .returned (.bool b) ∧ Ext w w' := by
 obtain ⟨p, cap, rfl, hc⟩ := h
 have HB := Lib.hid hb
 have HC := Lib.hid hc
 have HS := Lib.hid hs
 clear hb hc hs
 go_enter Tryz.func21, Tryz.ntmps21
 go_wp2_with fail
 go_loop [3, 4] (fun x y => ∃ k : Nat, y = .int .i64 (k : Nat) ∧ k ≤ l.length ∧ k ≤ 11 ∧ x = .int .i64 (total (l.take k) : Nat)) (fun _ y => 12 - (intOf y).toNat)
 case atStart => exact ⟨0, rfl, by omega, by omega, rfl⟩
 case round =>
  obtain ⟨k, rfl, h1, h2, rfl⟩ := hrel
  have hle : total (l.take k) ≤ 140737488351232 * 11 := by
   have := total_le (l.take k) 140737488351232 (fun s hs => HS.out s (List.mem_of_mem_take hs))
   rw [List.length_take] at this
   have h3 : 140737488351232 * min k l.length ≤ 140737488351232 * 11 := Nat.mul_le_mul_left _ (by omega)
   omega
  by_cases hlt : k < l.length
  ·by_cases h100 : k ≤ 10
   ·obtain ⟨b', off, rfl, hb', hcell⟩ := HC.out (by intro e; subst e; simp at hlt)
    have hk := hcell k hlt
    have hz := HS.out l[k] (List.getElem_mem hlt)
    have hst := total_step l k hlt
    have HT := Lib.hid hst
    clear hcell hst
    go_wp2_with fail
    go_round
    case rel => exact ⟨k + 1, by go_num, by omega, by omega, by rw [HT.out]; go_num⟩
    case measure => simp [intOf]; omega
   ·have hb2 : b = true := HB.out.2 (.inl (by omega))
    have hl2 : (10 : Int) < (l.length : Nat) := by omega
    subst hb2
    go_wp2_with fail
    go_ret
    exact ⟨rfl, Ext.refl _⟩
  ·have hkl : k = l.length := by omega
   by_cases h100 : 10 < l.length
   ·have hb2 : b = true := HB.out.2 (.inl h100)
    have hl2 : (10 : Int) < (l.length : Nat) := by omega
    subst hb2
    go_wp2_with fail
    go_ret
    exact ⟨rfl, Ext.refl _⟩
   ·have hl2 : ¬ (10 : Int) < (l.length : Nat) := by omega
    have htk : total (l.take k) = total (l.take 11) := by rw [hkl, List.take_length, List.take_of_length_le (by omega)]
    have hbb : decide ((120 : Int) < (total (l.take k) : Nat)) = b := by
     cases b with
     | true => exact decide_eq_true (by have := (HB.out.1 rfl).resolve_left h100; omega)
     | false => exact decide_eq_false (fun hh => by have := HB.out.2 (.inr (by omega)); cases this)
    have HBB := Lib.hid hbb
    obtain ⟨n, hn⟩ : ∃ n, total (l.take k) = n := ⟨_, rfl⟩
    rw [hn] at HBB hle ⊢
    clear hbb htk hn
    go_wp2_with fail
    go_ret
    exact ⟨by rw [← HBB.out]; rfl, Ext.refl _⟩
theorem total_mem {l : List ByteArray} {x : ByteArray} (h : x ∈ l) : x.size ≤ total l := by
 induction l with
 | nil => cases h
 | cons y l ih =>
  rcases List.mem_cons.1 h with rfl | h
  ·simp only [total]; omega
  ·have := ih h
   simp only [total]; omega
theorem infoTx : (Tryz.prog.info? 9).map (fun i => (i.zero, i.size, i.bytes)) = some (some (.string ByteArray.empty), 1, 16) := by kernel_rfl
def txV (l : List ByteArray) : List Value := l.map Value.string
theorem TxtRow.of_own {W : World} {B : Nat} {v : Value} {l : List ByteArray} (h : W.ownsRow B 9 1 v l.length (txV l)) : TxtRow W v l := by
 rcases h.2 with ⟨e, h0⟩ | ⟨g, cap, cur, e, _, _, hcap, _⟩
 ·obtain rfl : l = [] := List.length_eq_zero_iff.1 h0
  exact ⟨none, 0, e, Nat.le_refl _, fun h => absurd rfl h⟩
 ·subst e
  refine ⟨_, cap, rfl, hcap, fun _ => ⟨g, rfl, fun i hi => ?_⟩⟩
  rw [h.cellAt i (by omega)]
  simp [txV, hi]
theorem TxtRow.str {W : World} {v : Value} {l : List ByteArray} (h : TxtRow W v l) : StrRow W v l := by
 obtain ⟨p, cap, e, _, h2⟩ := h
 refine ⟨p, cap, e, fun hne => ?_⟩
 obtain ⟨g, rfl, h3⟩ := h2 hne
 have hl : 0 < l.length := List.length_pos_iff.2 hne
 exact ⟨g, 0, rfl, cell_lt (h3 0 hl), fun i hi => by rw [Nat.zero_add]; exact h3 i hi⟩
theorem grpL_num (e : Nat → Nat → Bool) (p : List Nat) : (grpL e p).length ≤ p.length := by
 have key : ∀ (p : List Nat) (G : List (List Nat)), (p.foldl (grpS e) G).length ≤ G.length + p.length := by
  intro p
  induction p with
  | nil => intro G; exact Nat.le_refl _
  | cons i p ih =>
   intro G
   rw [List.foldl_cons, List.length_cons]
   have h1 := ih (grpS e G i)
   have h2 : (grpS e G i).length ≤ G.length + 1 := by
    rcases List.eq_nil_or_concat G with rfl | ⟨H, y, rfl⟩
    ·exact Nat.le_refl _
    ·rw [List.concat_eq_append, grpS_more]
     split <;> simp
   omega
 have := key p []
 simpa [grpL] using this
set_option maxRecDepth 100000 in
set_option maxHeartbeats 8000000 in
theorem c_Sorts (v : Value) (l : List ByteArray) (s : ByteArray) (o : Cl.Ord) (w : World) (hT : TabsC w) (hN : StrRowN w v l) (hl : ∀ s ∈ l, s.size ≤ 140737488351232) (hs : s.size ≤ 140737488351232) :
  Calls Tryz.prog 7 #[v, .string s, ordV o] w fun e w' => e = .returned (.bool true) ∧ Ext w w' := by
 have HL := Lib.hid (fun w hT => c_live w hT)
 obtain ⟨h, hnil⟩ := hN
 have HNL := Lib.hid hnil
 clear hnil
 obtain ⟨b, hb⟩ : ∃ b : Bool, b = true ↔ (10 < l.length ∨ 120 < total (l.take 11)) := by
  by_cases h : 10 < l.length ∨ 120 < total (l.take 11)
  ·exact ⟨true, by simp [h]⟩
  ·exact ⟨false, by simp [h]⟩
 have HM := Lib.hid (fun w' (hx : Ext w w') => c_many v l b w' (h.mono hx) hl hb)
 have HBH := Lib.hid hb
 have HSR := Lib.hid h
 have HHL := Lib.hid hl
 obtain ⟨p, cap, rfl, hp⟩ := h
 clear hb hl hp
 go_enter Tryz.func7, Tryz.ntmps7
 go_wp2_with fail
 have hx0 := (Ext.refl w).alloc (.cells #[.int .i64 o.level, .bool o.shift, .bool o.back, .bool o.great] 24)
 have hb0 := World.alloc_heap_new w (.cells #[.int .i64 o.level, .bool o.shift, .bool o.back, .bool o.great] 24)
 generalize w.alloc (.cells #[.int .i64 o.level, .bool o.shift, .bool o.back, .bool o.great] 24) = W0 at hx0 hb0 ⊢
 generalize w.heap.size = ob at hb0 ⊢
 have HX0 := Lib.hid hx0
 have HB0 := Lib.hid hb0
 clear hx0 hb0
 refine (HM.out W0 HX0.out).mono ?_
 rintro e w1 ⟨rfl, hx1⟩
 have HX1 := Lib.hid (HX0.out.trans hx1)
 have HB1 := Lib.hid (hx1.blk HB0.out)
 clear hx1
 cases b with
 | true =>
  go_wp2_with fail
  refine (HL.out w1 (hT.ext HX1.out)).mono ?_
  rintro e w9 ⟨rfl, hx9⟩
  have HX9 := Lib.hid (HX1.out.trans hx9)
  clear hx9
  go_wp2_with fail
  exact ret_one rfl rfl rfl ⟨rfl, HX9.out⟩
 | false =>
  by_cases hs6 : s.size ≤ 60
  ·have hsI : ¬ (60 : Int) < (s.size : Nat) := by omega
   have HBB := Lib.hid (show l.length ≤ 10 ∧ ∀ x ∈ l, x.size ≤ 120 from by
    have h1 : ¬ (10 < l.length ∨ 120 < total (l.take 11)) := fun h => by have := HBH.out.2 h; cases this
    refine ⟨by omega, fun x hx => ?_⟩
    have h2 : l.take 11 = l := List.take_of_length_le (by omega)
    have h3 := total_mem hx
    rw [h2] at h1
    omega)
   clear HBH
   go_wp2_with fail
   refine (c_bkNew w1).mono ?_
   rintro e w2 ⟨kb, rfl, hbk, hx2⟩
   have HK := Lib.hid hbk
   have HX2 := Lib.hid (HX1.out.trans hx2)
   have HB2 := Lib.hid (hx2.blk HB1.out)
   clear hx2 hbk
   go_wp2_with (at_builtin; refine Hid.out ?_)
   refine Lib.hid ?_
   obtain ⟨i0, hi0, hz0, hz1, hz3⟩ := info_parts infoTx
   have hxa := (Ext.refl w2).alloc (.cells #[] 9)
   have hba := World.alloc_heap_new w2 (.cells #[] 9)
   have hsa := World.size_alloc w2 (.cells #[] 9)
   generalize w2.alloc (.cells #[] 9) = wa at hxa hba hsa ⊢
   obtain ⟨nb, hnb⟩ : ∃ n, w2.heap.size = n := ⟨_, rfl⟩
   rw [hnb] at hba hsa ⊢
   have HXA := Lib.hid (HX2.out.trans hxa)
   have HEA := Lib.hid (And.intro hxa hnb)
   have HSA := Lib.hid (show nb ≤ wa.heap.size by omega)
   have HOA := Lib.hid (show wa.ownsRow nb 9 1 (.slice (some ⟨nb, 0, none⟩) 0 0) 0 [] from ⟨rfl, .inr ⟨nb, 0, #[], rfl, Nat.le_refl _, hba, Nat.le_refl _, Nat.zero_le _, rfl, rfl⟩⟩)
   clear hxa hba hsa hnb
   cases p
   case' none =>
    have hl0 : l = [] := by
     refine Decidable.byContradiction fun hne => ?_
     obtain ⟨q, c, e, h2⟩ := HSR.out
     obtain ⟨b, off, e2, _⟩ := h2 hne
     rw [e2] at e
     cases e
    have hl1 : l.length = 0 := by rw [hl0]; rfl
    have hc0 : cap = 0 := HNL.out _ _ rfl
    refine wpList_append_own_none rfl (.tmp 27) (.tmp 28) 40 rfl nb 9 i0 1 Tryz.underlying40 hi0 (.slice (some ⟨nb, 0, none⟩) 0 0) 0 [] rfl HOA.out (by show Value.slice none l.length cap = _; rw [hl1, hc0]) ?_
    obtain ⟨v', hv'⟩ : ∃ v', Value.slice (some ⟨nb, 0, none⟩) 0 0 = v' := ⟨_, rfl⟩
    have HO3 := Lib.hid (show wa.ownsRow nb 9 1 v' l.length (txV l) by rw [← hv', hl0]; exact HOA.out)
    rw [hv']
    obtain ⟨w3, rfl⟩ : ∃ x, x = wa := ⟨_, rfl⟩
    have HE3 := Lib.hid HEA.out.1
    clear hl0 hl1 hc0 hv' HOA HSA
   case' some ad =>
    have hrow : ∀ j (hj : j < (txV l).length), wa.cell? (ad.add j) = some ((txV l)[j]'hj) := fun j hj => by
     have hjl : j < l.length := by rw [txV, List.length_map] at hj; exact hj
     obtain ⟨q, c, e, h2⟩ := HSR.out
     cases e
     obtain ⟨b, off, e2, _, h3⟩ := h2 (by intro e; subst e; simp at hjl)
     cases e2
     rw [Addr.add_lit, HXA.out.cell (h3 j hjl)]
     simp [txV]
    refine wpList_append_own_at wa rfl (.tmp 27) (.tmp 28) 40 rfl nb 9 i0 (.string ByteArray.empty) 1 16 Tryz.underlying40 hi0 hz0 hz1 hz3 rfl (by decide) (.slice (some ⟨nb, 0, none⟩) 0 0) 0 [] rfl HOA.out ad l.length cap (txV l) rfl (by rw [txV, List.length_map, Nat.mul_one]) (fun j u hj => by
     obtain ⟨h1, h2⟩ := List.getElem?_eq_some_iff.1 hj
     rw [hrow j h1, h2]) (by
     intro u hu
     obtain ⟨z, _, rfl⟩ := List.mem_map.1 hu
     rfl) (by unfold maxLen; have := HBB.out.1; omega) (by have := HBB.out.1; omega) HSA.out ?_
    intro v' w3 g1 g2 _ _
    have HO3 := Lib.hid (show w3.ownsRow nb 9 1 v' l.length (txV l) by rw [Nat.zero_add] at g1; exact g1)
    have HE3 := Lib.hid (show Ext w2 w3 from Below.grown HEA.out.1 g2 HEA.out.1.sz (fun k e => by rw [HEA.out.2]; exact (HOA.out.lt k e).1))
    clear g1 g2 HOA HSA hrow
   iterate 2
    ·clear HXA HEA hi0 hz0 hz1 hz3
     have HX3 := Lib.hid (HX2.out.trans HE3.out)
     have HK3 := Lib.hid (HK.out.ext HE3.out)
     have HB3 := Lib.hid (HE3.out.blk HB2.out)
     have HTX := Lib.hid (TxtRow.of_own HO3.out)
     have HSZ := Lib.hid (show ∀ x ∈ l, x.size ≤ 200 from fun x hx => Nat.le_trans (HBB.out.2 x hx) (by decide))
     have HF1 := Lib.hid (fun w' (hx : Ext w3 w') => c_Find v' l s o w' ((HTX.out.ext hx).str) (by have := HBB.out.1; omega) HSZ.out (by omega) (hT.ext (HX3.out.trans hx)))
     have HF2 := Lib.hid (fun w' (hx : Ext w3 w') => c_bkFind kb _ l s o w' (HSR.out.mono (HX3.out.trans hx)) (by have := HBB.out.1; omega) HSZ.out (by omega) (HK3.out.ext hx))
     obtain ⟨fn, hfn⟩ : ∃ n : Int, (if 1 ≤ o.level ∧ o.level ≤ 4 then ((fndA o l s : Nat) : Int) else 0) = n := ⟨_, rfl⟩
     obtain ⟨fo, hfo⟩ : ∃ b : Bool, (decide (1 ≤ o.level ∧ o.level ≤ 4) && fndB o l s) = b := ⟨_, rfl⟩
     simp only [hfn, hfo] at HF1 HF2
     clear hfn hfo
     have HOC := Lib.hid (show ∀ w', Ext w3 w' → w'.cell? ⟨ob, 0, none⟩ = some (.int .i64 o.level) ∧ w'.cell? ⟨ob, 1, none⟩ = some (.bool o.shift) ∧ w'.cell? ⟨ob, 2, none⟩ = some (.bool o.back) ∧ w'.cell? ⟨ob, 3, none⟩ = some (.bool o.great) from fun w' hx => ⟨(cell_blk (hx.blk HB3.out) 0).trans rfl, (cell_blk (hx.blk HB3.out) 1).trans rfl, (cell_blk (hx.blk HB3.out) 2).trans rfl, (cell_blk (hx.blk HB3.out) 3).trans rfl⟩)
     obtain ⟨o0, o1, o2, o3⟩ := HOC.out w3 (Ext.refl _)
     go_wp2_with fail
     refine (c_SortA v' l o w3 (hT.ext HX3.out) HTX.out (by have := HBB.out.1; omega) HSZ.out).mono ?_
     rintro e w4 ⟨u4, rfl, hr4, hx4⟩
     have HE4 := Lib.hid hx4
     have HR4 := Lib.hid hr4
     obtain ⟨o0, o1, o2, o3⟩ := HOC.out w4 HE4.out
     clear hr4 hx4
     go_wp2_with fail
     refine (c_Groups v' l o w4 (hT.ext (HX3.out.trans HE4.out)) (HTX.out.ext HE4.out) (by have := HBB.out.1; omega) HSZ.out).mono ?_
     rintro e w5 ⟨u5, rfl, ⟨vs5, hg5⟩, hx5⟩
     have HE5 := Lib.hid (HE4.out.trans hx5)
     have HG5 := Lib.hid hg5
     have HR5 := Lib.hid (HR4.out.ext hx5)
     obtain ⟨o0, o1, o2, o3⟩ := HOC.out w5 HE5.out
     clear hg5 hx5 HR4
     go_wp2_with fail
     refine (c_bkGroups kb _ l o w5 (HK3.out.ext HE5.out) (HSR.out.mono (HX3.out.trans HE5.out)) (by have := HBB.out.1; omega) HSZ.out).mono ?_
     rintro e w6 ⟨u6, rfl, ⟨vs6, hg6⟩, hx6⟩
     have HE6 := Lib.hid (HE5.out.trans hx6)
     have HG6 := Lib.hid (And.intro (HG5.out.ext hx6) hg6)
     have HR6 := Lib.hid (HR5.out.ext hx6)
     obtain ⟨o0, o1, o2, o3⟩ := HOC.out w6 HE6.out
     clear hg6 hx6 HR5 HG5
     go_wp2_with fail
     refine (HF1.out w6 HE6.out).mono ?_
     rintro e w7 ⟨rfl, hx7⟩
     have HE7 := Lib.hid (HE6.out.trans hx7)
     have HG7 := Lib.hid (And.intro (HG6.out.1.ext hx7) (HG6.out.2.ext hx7))
     have HR7 := Lib.hid (HR6.out.ext hx7)
     obtain ⟨o0, o1, o2, o3⟩ := HOC.out w7 HE7.out
     clear hx7 HR6 HG6
     go_wp2_with fail
     refine (HF2.out w7 HE7.out).mono ?_
     rintro e w8 ⟨rfl, hx8⟩
     have HE8 := Lib.hid (HE7.out.trans hx8)
     have HG8 := Lib.hid (And.intro (HG7.out.1.ext hx8) (HG7.out.2.ext hx8))
     have HR8 := Lib.hid (HR7.out.ext hx8)
     obtain ⟨o0, o1, o2, o3⟩ := HOC.out w8 HE8.out
     clear hx8 HR7 HG7
     go_wp2_with fail
     refine (c_bkSortA kb _ l o w8 (HK3.out.ext HE8.out) (HSR.out.mono (HX3.out.trans HE8.out)) (by have := HBB.out.1; omega) HSZ.out).mono ?_
     rintro e w9 ⟨u9, rfl, hr9, hx9⟩
     have HE9 := Lib.hid (HE8.out.trans hx9)
     have HG9 := Lib.hid (And.intro (HG8.out.1.ext hx9) (HG8.out.2.ext hx9))
     have HR9 := Lib.hid (And.intro (HR8.out.ext hx9) hr9)
     clear hx9 hr9 HR8 HG8 o0 o1 o2 o3
     go_wp2_with fail
     refine (c_Places u4 u9 _ _ true w9 HR9.out.1 HR9.out.2 (by simp) (Nat.le_trans (sortR_len o l) (by have := HBB.out.1; omega))).mono ?_
     rintro e w10 ⟨rfl, hx10⟩
     have HE10 := Lib.hid (HE9.out.trans hx10)
     have HG10 := Lib.hid (And.intro (HG9.out.1.ext hx10) (HG9.out.2.ext hx10))
     obtain ⟨p5, c5, rfl⟩ := own_slice HG10.out.1.own
     obtain ⟨p6, c6, rfl⟩ := own_slice HG10.out.2.own
     have HLG := Lib.hid (show (grpL (sameK o l) (sortR o l)).length ≤ 100 ∧ ∀ g ∈ grpL (sameK o l) (sortR o l), g.length ≤ 100 from by
      have h1 := sortR_len o l
      have h2 := HBB.out.1
      exact ⟨Nat.le_trans (grpL_num _ _) (by omega), fun g hg => Nat.le_trans (grpL_len _ _ g hg) (by omega)⟩)
     obtain ⟨G, hG⟩ : ∃ G, grpL (sameK o l) (sortR o l) = G := ⟨_, rfl⟩
     rw [hG] at HG10 HLG ⊢
     have hne1 : (((G.length : Nat) : Int) != ((G.length : Nat) : Int)) = false := by simp
     have hne2 : (fn != fn) = false := by simp
     have hne3 : (fo != fo) = false := by simp
     have hGI : ((G.length : Nat) : Int) ≤ 100 := by have := HLG.out.1; omega
     clear hx10 HR9 HG9 hG
     go_wp2_with fail
     go_loopw [16] (fun iv W => ∃ i : Nat, iv = .int .i64 (i : Nat) ∧ i ≤ G.length ∧ Hid (Ext w10 W)) (fun iv _ => G.length + 1 - (intOf iv).toNat)
     case atStart => exact ⟨0, rfl, by omega, Lib.hid (Ext.refl _)⟩
     case round =>
      obtain ⟨i, rfl, hi, HX⟩ := hrel
      by_cases hlt : i < G.length
      ·have hI : ((i : Nat) : Int) < (G.length : Nat) := by omega
       have hd : decide (i < G.length) = true := decide_eq_true hlt
       obtain ⟨g5, cc5, v5, e5, _, k5, _, hv5⟩ := (HG10.out.1.ext HX.out).at hlt
       obtain ⟨g6, cc6, v6, e6, _, k6, _, hv6⟩ := (HG10.out.2.ext HX.out).at hlt
       cases e5
       cases e6
       have HN5 := Lib.hid (numRow_own hv5)
       have HN6 := Lib.hid (numRow_own hv6)
       have HGL := Lib.hid (HLG.out.2 _ (List.getElem_mem hlt))
       clear hv5 hv6
       have m5 : ∀ w', EOn (fun _ => True) wr w' → w'.cell? ⟨g5, i, none⟩ = some v5 := fun w' hx => hx.cell trivial k5
       have m6 : ∀ w', EOn (fun _ => True) wr w' → w'.cell? ⟨g6, i, none⟩ = some v6 := fun w' hx => hx.cell trivial k6
       clear k5 k6
       go_wp2_with fail
       refine wp_lex (fun _ => True) [true, true, true, true, true, true, true, true, false, true] (by kernel_rfl) (by kernel_rfl) ?_
       repeat first
        | refine wpG_move' ?_
        | refine wpG_assign' ?_
        | refine wpG_val' ?_
        | refine wpG_no' ?_
       refine wpG_do (by rfl) (fun w12 hx12 K hK => ?_)
       go_wp2_with fail
       refine (c_Places v5 v6 _ _ true w12 (HN5.out.ext hx12) (HN6.out.ext hx12) (by simp) (by have := HGL.out; omega)).mono ?_
       rintro e w13 ⟨rfl, hx13⟩
       refine hK _ _ ⟨EOn.of_ext hx13, ?_⟩
       clear hK m5 m6
       repeat first
        | refine wpG_move' ?_
        | refine wpG_assign' ?_
        | refine wpG_val' ?_
        | refine wpG_no' ?_
       refine wpG_end (fun w14 hx14 => wpList_nil (gQ_normal ?_))
       have HX14 := Lib.hid (HX.out.trans (hx12.trans (hx13.trans hx14)))
       clear hx12 hx13 hx14
       go_wp2_with fail
       exact ⟨⟨i + 1, by simp, by omega, HX14⟩, by simp only [intOf]; omega⟩
      ·have hI : ¬ ((i : Nat) : Int) < (G.length : Nat) := by omega
       have hd : decide (i < G.length) = false := decide_eq_false hlt
       have HE11 := Lib.hid (HE10.out.trans HX.out)
       have hlI : ((l.length : Nat) : Int) ≤ 10 := by have := HBB.out.1; omega
       clear hlt hi
       go_wp2_with fail
       go_loopw [17] (fun iv W => ∃ i : Nat, iv = .int .i64 (i : Nat) ∧ i ≤ l.length ∧ Hid (Ext w3 W)) (fun iv _ => l.length + 1 - (intOf iv).toNat)
       case atStart => exact ⟨0, rfl, by omega, HE11⟩
       case round =>
        obtain ⟨i, rfl, hi, HX⟩ := hrel
        by_cases hlt : i < l.length
        ·have hI : ((i : Nat) : Int) < (l.length : Nat) := by omega
         have hd : decide (i < l.length) = true := decide_eq_true hlt
         obtain ⟨q1, d1, f1, f2⟩ := HSR.out.mono (HX3.out.trans HX.out)
         obtain ⟨b1, off1, f3, _, f4⟩ := f2 (by intro e; rw [e] at hlt; simp at hlt)
         subst f3
         obtain ⟨q2, d2, h1, _, h2⟩ := HTX.out.ext HX.out
         obtain ⟨b2, h3, h4⟩ := h2 (by intro e; rw [e] at hlt; simp at hlt)
         subst h3
         cases f1
         all_goals
          cases h1
          have c1 := f4 i hlt
          have c2 := h4 i hlt
          obtain ⟨x, hx⟩ : ∃ x, l[i] = x := ⟨_, rfl⟩
          rw [hx] at c1 c2
          have m1 : ∀ w', EOn (fun _ => True) wr w' → w'.cell? ⟨b1, off1 + i, none⟩ = some (.string x) := fun w' hx => hx.cell trivial c1
          have m2 : ∀ w', EOn (fun _ => True) wr w' → w'.cell? ⟨b2, i, none⟩ = some (.string x) := fun w' hx => hx.cell trivial c2
          have hxx : (x.toList != x.toList) = false := by simp
          clear c1 c2 hx f4 h4
          go_wp2_with fail
          refine wp_lex (fun _ => True) [true, true, true, true, true, true, true, true, true] (by kernel_rfl) (by kernel_rfl) ?_
          repeat first
           | refine wpG_move' ?_
           | refine wpG_assign' ?_
           | refine wpG_val' ?_
           | refine wpG_no' ?_
          refine wpG_end (fun w14 hx14 => wpList_nil (gQ_normal ?_))
          have HX14 := Lib.hid (HX.out.trans hx14)
          clear hx14 m1 m2
          go_wp2_with fail
          exact ⟨⟨i + 1, by simp, by omega, HX14⟩, by simp only [intOf]; omega⟩
        ·have hI : ¬ ((i : Nat) : Int) < (l.length : Nat) := by omega
         have hd : decide (i < l.length) = false := decide_eq_false hlt
         have HXL := Lib.hid (HX3.out.trans HX.out)
         clear hlt hi
         go_wp2_with fail
         refine (HL.out wr (hT.ext HXL.out)).mono ?_
         rintro e w12 ⟨rfl, hx12⟩
         have HX12 := Lib.hid (HXL.out.trans hx12)
         clear hx12
         go_wp2_with fail
         exact ret_one rfl rfl rfl ⟨rfl, HX12.out⟩
  ·have hsI : (60 : Int) < (s.size : Nat) := by omega
   go_wp2_with fail
   refine (HL.out w1 (hT.ext HX1.out)).mono ?_
   rintro e w9 ⟨rfl, hx9⟩
   have HX9 := Lib.hid (HX1.out.trans hx9)
   clear hx9
   go_wp2_with fail
   exact ret_one rfl rfl rfl ⟨rfl, HX9.out⟩
end Go.Proofs.YtokeamebcdhnpaaGreatDoor
end
