/-
 The reference: its tables laid; a text's form. The reference: a text's form.
-/
import Derived.Test.YteokfknkcbmigaaGreatDoorRI
import Derived.Test.YteokfknkcbmigaaGreatDoorWalkTU
import Derived.Laws.IdiomStrings
import Derived.Lib.Walk
section
namespace Go.Proofs.YteokfknkcbmigaaGreatDoor
open Go.RowKit Go.Rp Go.Shelf Go.Maps Go.Nm

def hexOkB (dec : Bool) : List Nat → Nat → Nat → Bool
 | [], n, _ => Nat.blt n 16777216
 | c :: t, n, k => Nat.blt n 16777216 && (bif Nat.beq c 32 then hexOkB dec t 0 (k + 1) else (Nat.ble 48 c && Nat.blt c 91 && hexOkB dec t ((if dec = true ∧ k = 3 then 10 else 16) * n + digR c) k))
theorem hexOk_of (dec : Bool) : ∀ (l : List Nat) (n k : Nat), hexOkB dec l n k = true → hexOk dec l n k
 | [], n, k, h => Nat.le_of_ble_eq_true h
 | c :: t, n, k, h => by
  rw [hexOkB, Bool.and_eq_true] at h
  refine ⟨Nat.le_of_ble_eq_true h.1, ?_⟩
  by_cases hc : c = 32
  ·subst hc
   rw [if_pos rfl]
   exact hexOk_of dec t _ _ h.2
  ·have hb : Nat.beq c 32 = false := by
    cases hq : Nat.beq c 32 with
    | false => rfl
    | true => exact absurd (Nat.eq_of_beq_eq_true hq) hc
   have h2 := h.2
   rw [hb, cond_false, Bool.and_eq_true, Bool.and_eq_true] at h2
   rw [if_neg hc]
   exact ⟨Nat.le_of_ble_eq_true h2.1.1, Nat.le_of_ble_eq_true h2.1.2, hexOk_of dec t _ _ h2.2⟩
def rdOkB (dec : Bool) : List Nat → List Nat → Bool
 | [], _ => true
 | c :: t, cur => bif Nat.beq c 10 then hexOkB dec cur 0 1 && rdOkB dec t [] else rdOkB dec t (cur ++ [c])
theorem rdOk_of (dec : Bool) : ∀ (l cur : List Nat), rdOkB dec l cur = true → rdOk dec l cur
 | [], _, _ => trivial
 | c :: t, cur, h => by
  rw [rdOkB] at h
  rw [rdOk]
  by_cases hc : c = 10
  ·subst hc
   rw [if_pos rfl]
   have h2 : (hexOkB dec cur 0 1 && rdOkB dec t []) = true := h
   rw [Bool.and_eq_true] at h2
   exact ⟨hexOk_of dec _ _ _ h2.1, rdOk_of dec t [] h2.2⟩
  ·have hb : Nat.beq c 10 = false := by
    cases hq : Nat.beq c 10 with
    | false => rfl
    | true => exact absurd (Nat.eq_of_beq_eq_true hq) hc
   rw [hb, cond_false] at h
   rw [if_neg hc]
   exact rdOk_of dec t _ h
theorem rokA : rdOkB false (byts textA) [] = true := by kernel_rfl
theorem rokK : rdOkB false (byts textK) [] = true := by kernel_rfl
theorem rokX : rdOkB false (byts textX) [] = true := by kernel_rfl
theorem rokO : rdOkB true (byts textO) [] = true := by kernel_rfl
theorem calls_str2 {P : Program} {f : FuncId} {s s' : ByteArray} {d : Value} {w : World} {R : Ending → World → Prop} (e : s' = s) (h : Calls P f #[.string s', d] w R) : Calls P f #[.string s, d] w R := by rw [← e]; exact h
set_option maxRecDepth 100000 in
set_option maxHeartbeats 8000000 in
theorem c_rTables (w : World) : Calls Tryz.prog 9 #[] w fun e w' => ∃ tB, e = .returned (.pointer (some ⟨tB, 0, none⟩)) ∧ RTab w' tB ∧ Ext w w' := by
 go_enter Tryz.func9, Tryz.ntmps9
 go_wp2_with fail
 refine calls_str2 (s' := textA) (by kernel_rfl) ?_
 refine (c_rread textA false w hA0.1 (rdOk_of _ _ _ rokA)).mono ?_
 rintro e w1 ⟨vA, vsA, rfl, hrA, hlA, hxA⟩
 have hrA : w1.ownsRow w.heap.size 77 2 vA rA.length vsA := hrA
 obtain ⟨pA, cA, rfl⟩ := own_slice hrA
 have LA := Lib.hid (ltab_of hrA hlA)
 have HX1 := Lib.hid hxA
 clear hxA hrA hlA
 go_wp2_with fail
 refine calls_str2 (s' := textK) (by kernel_rfl) ?_
 refine (c_rread textK false w1 hK0.1 (rdOk_of _ _ _ rokK)).mono ?_
 rintro e w2 ⟨vK, vsK, rfl, hrK, hlK, hxK⟩
 have hrK : w2.ownsRow w1.heap.size 77 2 vK rK.length vsK := hrK
 obtain ⟨pK, cK, rfl⟩ := own_slice hrK
 have LK := Lib.hid (ltab_of hrK hlK)
 have HX2 := Lib.hid hxK
 clear hxK hrK hlK
 go_wp2_with fail
 refine calls_str2 (s' := textX) (by kernel_rfl) ?_
 refine (c_rread textX false w2 hX0.1 (rdOk_of _ _ _ rokX)).mono ?_
 rintro e w3 ⟨vX, vsX, rfl, hrX, hlX, hxX⟩
 have hrX : w3.ownsRow w2.heap.size 77 2 vX rX.length vsX := hrX
 obtain ⟨pX, cX, rfl⟩ := own_slice hrX
 have LX := Lib.hid (ltab_of hrX hlX)
 have HX3 := Lib.hid hxX
 clear hxX hrX hlX
 go_wp2_with fail
 refine calls_str2 (s' := textO) (by kernel_rfl) ?_
 refine (c_rread textO true w3 hO0.1 (rdOk_of _ _ _ rokO)).mono ?_
 rintro e w4 ⟨vO, vsO, rfl, hrO, hlO, hxO⟩
 have hrO : w4.ownsRow w3.heap.size 77 2 vO rO.length vsO := hrO
 obtain ⟨pO, cO, rfl⟩ := own_slice hrO
 have LO := Lib.hid (ltab_of hrO hlO)
 have HX4 := Lib.hid hxO
 clear hxO hrO hlO
 go_wp2_with fail
 have hb := World.alloc_heap_new w4 (.cells #[.slice pA rA.length cA, .slice pK rK.length cK, .slice pX rX.length cX, .slice pO rO.length cO] 55)
 have hx5 := (Ext.refl w4).alloc (.cells #[.slice pA rA.length cA, .slice pK rK.length cK, .slice pX rX.length cX, .slice pO rO.length cO] 55)
 have H5 := Lib.hid (show RTab (w4.alloc (.cells #[.slice pA rA.length cA, .slice pK rK.length cK, .slice pX rX.length cX, .slice pO rO.length cO] 55)) w4.heap.size ∧ Ext w (w4.alloc (.cells #[.slice pA rA.length cA, .slice pK rK.length cK, .slice pX rX.length cX, .slice pO rO.length cO] 55)) from
  ⟨⟨_, _, _, _, hb, LA.out.mono (HX2.out.trans (HX3.out.trans (HX4.out.trans hx5))), LK.out.mono (HX3.out.trans (HX4.out.trans hx5)), LX.out.mono (HX4.out.trans hx5), LO.out.mono hx5⟩, HX1.out.trans (HX2.out.trans (HX3.out.trans (HX4.out.trans hx5)))⟩)
 clear hb hx5
 go_ret
 exact ⟨_, rfl, H5.out.1, H5.out.2⟩
end Go.Proofs.YteokfknkcbmigaaGreatDoor
end

section
namespace Go.Proofs.YteokfknkcbmigaaGreatDoor
open Go.RowKit Go.Rp Go.Shelf Go.Maps Go.Nm

theorem info8 : (Tryz.prog.info? 5).map (fun i => (i.zero, i.size, i.bytes)) = some (some (.int .u8 0), 1, 1) := by kernel_rfl
theorem conv_rowR {W : World} {B : Nat} {v : Value} {F : List UInt8} (h : W.ownsRow B 5 1 v F.length (Lib.byteCells F)) (w' : World) (hx : Ext W w') : (convert 38 9 v).run Tryz.prog w' = .ok (.string ⟨F.toArray⟩) w' := by
 obtain ⟨p, c, rfl⟩ := own_slice h
 by_cases h0 : F = []
 ·subst h0
  rcases h.2 with ⟨e, _⟩ | ⟨g, cap', cur, e, _⟩
  ·cases e
   exact run_convert_bytes_nil (P := Tryz.prog) w' 38 5 Tryz.underlying38 Tryz.underlying5 _ _ _ Tryz.underlying9
  ·cases e
   exact run_convert_bytes_back (P := Tryz.prog) w' 38 9 5 _ _ [] Tryz.underlying38 Tryz.underlying5 Tryz.underlying9 (fun j hj => by cases hj)
 ·have hl : 0 < F.length := List.length_pos_iff.2 h0
  obtain ⟨g, rfl, _, _, hg⟩ := own_at h hl
  exact run_convert_bytes_back (P := Tryz.prog) w' 38 9 5 ⟨g, 0, none⟩ c F Tryz.underlying38 Tryz.underlying5 Tryz.underlying9 (fun j hj => by
   have hadd : (⟨g, 0, none⟩ : Addr).add j = ⟨g, j, none⟩ := by unfold Addr.add; split <;> simp_all
   rw [hadd]
   refine hx.cell ((hg j (by omega)).trans ?_)
   simp [Lib.byteCells, List.getElem?_eq_getElem hj])
set_option maxRecDepth 100000 in
set_option maxHeartbeats 8000000 in
theorem c_rForm (tB : Nat) (s : ByteArray) (f : Int) (w : World) (h : RTab w tB) (hs : s.size ≤ 1000000) :
  Calls Tryz.prog 10 #[.pointer (some ⟨tB, 0, none⟩), .string s, .int .i64 f] w fun e w' => e = .returned (.string ⟨(formT f s.data.toList).toArray⟩) ∧ Ext w w' := by
 have HR := Lib.hid (fun w => c_rRight f w)
 by_cases hf : 0 ≤ f ∧ f ≤ 3
 ·rw [decide_eq_true hf] at HR
  have HEL := Lib.hid (c_relements tB s f hf w h hs)
  obtain ⟨k, hk⟩ : ∃ k, decide (f = 2 ∨ f = 3) = k := ⟨_, rfl⟩
  have hform : formT f s.data.toList = tbT.form k (decide (f = 1 ∨ f = 3)) s.data.toList := by
   unfold formT
   rw [if_pos hf, hk]
  rw [hform]
  rw [hk] at HEL
  have HT := Lib.hid h
  have hlen : s.data.toList.length ≤ 1000000 := by rw [len_eq]; exact hs
  have hEg := E_good k s.data.toList
  have hEl := E_len k s.data.toList
  have hJ := JE_good k s.data.toList
  have hElen : (tbT.els k (rawOf s.data.toList)).length = (tbT.E k s.data.toList).length := by unfold Tb.E; rw [sortL_len]
  have hsort : tbT.E k s.data.toList = sortL (tbT.els k (rawOf s.data.toList)) := rfl
  have HK := Lib.hid (And.intro hEg (And.intro hEl (And.intro hJ (And.intro hElen (And.intro hsort hlen)))))
  clear hk h hform hEg hEl hJ hElen hsort hlen
  by_cases hc : f = 1 ∨ f = 3
  ·rw [decide_eq_true hc]
   have HJN := Lib.hid (fun n cap p w h ho => c_rjoined tB n cap p (tbT.E k s.data.toList) w h ho (sortL_srt _) (fun x hx => (HK.out.1 x hx).1.1.1) (by have := HK.out; omega))
   rcases hc with rfl | rfl
   ·clear hf
    go_enter Tryz.func10, Tryz.ntmps10
    go_wp2_with fail
    refine (HR.out w).mono ?_
    rintro e w1 ⟨rfl, e1'⟩
    obtain rfl := e1'.symm
    clear e1'
    go_wp2_with fail
    refine HEL.out.mono ?_
    rintro e w2 ⟨v2, rfl, hown2, hx2⟩
    obtain ⟨p2, cap2, rfl⟩ := own_slice hown2
    have hl2 : (tbT.els k (rawOf s.data.toList)).length ≤ 100000000 := by have := HK.out; omega
    have HSRT := Lib.hid (c_rsorted w.heap.size cap2 p2 _ w2 hown2 hx2.sz hl2)
    have HX2 := Lib.hid hx2
    clear hown2 hx2 hl2
    go_wp2_with fail
    refine HSRT.out.mono ?_
    rintro e w3 ⟨rfl, hown3, hb3⟩
    rw [← HK.out.2.2.2.2.1, HK.out.2.2.2.1] at hown3
    rw [HK.out.2.2.2.1]
    have HX3 := Lib.hid (And.intro (Below.trans HX2.out hb3) hown3)
    obtain ⟨nE, hnE⟩ : ∃ n, (tbT.E k s.data.toList).length = n := ⟨_, rfl⟩
    rw [hnE]
    have HNE := Lib.hid hnE
    clear hown3 hb3 hnE
    go_wp2_with fail
    rw [← HNE.out]
    refine (HJN.out w.heap.size cap2 p2 w3 (HT.out.mono HX3.out.1) HX3.out.2).mono ?_
    rintro e w4 ⟨v4, rfl, hown4, hx4⟩
    obtain ⟨E, hE⟩ : ∃ E, J jnT none (tbT.E k s.data.toList) = E := ⟨_, rfl⟩
    rw [hE] at hown4
    obtain ⟨p4, cap4, rfl⟩ := own_slice hown4
    have HE := Lib.hid (show w4.ownsRow w3.heap.size 62 4 (.slice p4 E.length cap4) E.length (elRs E) ∧ Ext w w4 ∧ (∀ x ∈ E, ElGood x) ∧ E.length ≤ 20000000 from
     ⟨hown4, Ext.trans (show Ext w w3 from HX3.out.1) hx4, by rw [← hE]; exact HK.out.2.2.1.1, by rw [← hE]; have := HK.out; omega⟩)
    have HFIN := Lib.hid (show tbT.form k true s.data.toList = out E by rw [← hE]; rfl)
    clear hown4 hx4 hE
    go_wp2_with fail
    obtain ⟨i0, hi0, hz0, hz1, hz3⟩ := info_parts info8
    have hLI : ((E.length : Nat) : Int) ≤ 20000000 := by have := HE.out.2.2.2; omega
    go_wp2_with fail
    go_loopw [8, 9] (fun bv iv W => ∃ i : Nat, iv = .int .i64 (i : Nat) ∧ i ≤ E.length ∧ W.ownsRow w4.heap.size 5 1 bv (out (E.take i)).length (Lib.byteCells (out (E.take i))) ∧ Ext w4 W) (fun _ iv _ => E.length + 1 - (intOf iv).toNat)
    case atStart => exact ⟨0, rfl, by omega, World.ownsRow_nil _ _ _ _, Ext.refl _⟩
    case round =>
     obtain ⟨i, rfl, hi, hrow, hx⟩ := hrel
     by_cases hlt : i < E.length
     ·have hd : decide (i < E.length) = true := decide_eq_true hlt
      have hI : ((i : Nat) : Int) < (E.length : Nat) := by omega
      obtain ⟨g, post, rfl, _, hA, -, -, -⟩ := arrR_of HE.out.1 (by intro e; subst e; simp at hlt)
      obtain ⟨c0, c1, c2, -⟩ := hA.get hlt
      replace c0 := hx.cell c0
      replace c1 := hx.cell c1
      replace c2 := hx.cell c2
      have hgood := HE.out.2.2.1 E[i] (List.getElem_mem hlt)
      have htk := out_take hlt (x := E[i]) rfl
      have hol := out_len (E.take i)
      rw [List.length_take] at hol
      have hol2 : (out (E.take i)).length ≤ 80000000 := by have := HE.out.2.2.2; omega
      obtain ⟨⟨r, o, bd⟩, hxE⟩ : ∃ x, E[i] = x := ⟨_, rfl⟩
      rw [hxE] at c0 c1 c2 hgood htk
      have HROW := Lib.hid (And.intro hrow (And.intro hx hol2))
      have hsz := hx.sz
      clear hA hxE hrow hol hol2
      cases bd with
      | true =>
       have hr : 0 ≤ r ∧ r < 256 := by
        rcases hgood.2 with h | h
        ·exact h.2
        ·have := h.1
         simp at this
       have c2 : wr.cell? ⟨g, i * 4 + 2, none⟩ = some (.int .u8 r) := c2
       have c1 : wr.cell? ⟨g, i * 4 + 1, none⟩ = some (.bool true) := c1
       obtain ⟨ch, hch1, hch2⟩ : ∃ ch : UInt8, out (E.take (i + 1)) = out (E.take i) ++ [ch] ∧ ((ch.toNat : Nat) : Int) = r := ⟨UInt8.ofNat r.toNat, htk, by simp; omega⟩
       have HTK := Lib.hid (And.intro hch1 hch2)
       clear hch1 hch2
       clear htk hgood hr c0
       go_wp2_with (at_builtin; refine Hid.out ?_)
       refine Lib.hid ?_
       refine wpList_app rfl (.tmp 40) (.tmp 46) 38 rfl 5 i0 (.int .u8 0) 1 1 Tryz.underlying38 hi0 hz0 hz1 hz3 rfl (by decide) rfl HROW.out.1 HROW.out.2.1 [.int .u8 r] rfl rfl (by intro u hu; simp at hu; subst hu; rfl) ?n1b (by decide) ?_
       case n1b => have := HROW.out.2.2; omega
       intro v' w4 hown4 hx4 _
       have HO4 := Lib.hid (And.intro hown4 hx4)
       clear hown4 hx4 HROW
       go_wp2_with fail
       refine ⟨⟨i + 1, by simp, by omega, ?_, HO4.out.2⟩, by simp [intOf]; omega⟩
       have h4 := HO4.out.1
       rw [HTK.out.1, List.length_append]
       simpa [Lib.byteCells, HTK.out.2] using h4
      | false =>
       have c0 : wr.cell? ⟨g, i * 4, none⟩ = some (.int .i32 r) := c0
       have c1 : wr.cell? ⟨g, i * 4 + 1, none⟩ = some (.bool false) := c1
       have HTK := Lib.hid (show out (E.take (i + 1)) = out (E.take i) ++ (Utf8.encode r).data.toList from htk)
       have hes : (Utf8.encode r).size ≤ 4 := by rw [← len_eq]; exact encB_len r
       have hown := HROW.out.1
       have hb9 := HROW.out.2.2
       clear htk hgood c2
       go_wp2_with (at_builtin; refine Hid.out ?_)
       refine Lib.hid ?_
       refine Lib.wpList_append_own_string _ rfl (.tmp 48) (.tmp 54) 38 9 rfl w4.heap.size 5 i0 Tryz.underlying38 Tryz.underlying9 hi0 hz0 hz1 hz3 _ _ _ rfl hown (Utf8.encode r) rfl ?n2b ?n3b ?n4b ?_
       case n2b => unfold maxLen; omega
       case n3b => omega
       case n4b => omega
       intro v' w6 hown6 hgrow6 _
       have hx6 := Below.grown HROW.out.2.1 hgrow6 hsz (fun k e => (hown.lt k e).1)
       have HO6 := Lib.hid (And.intro hown6 hx6)
       clear hown6 hx6 hgrow6 hown hsz hx HROW
       go_wp2_with fail
       refine ⟨⟨i + 1, by simp, by omega, ?_, HO6.out.2⟩, by simp [intOf]; omega⟩
       have h6 := HO6.out.1
       rw [HTK.out, List.length_append, len_eq]
       simpa [Lib.byteCells, Lib.strCells_eq] using h6
     ·have hd : decide (i < E.length) = false := decide_eq_false hlt
      have hI : ¬ ((i : Nat) : Int) < (E.length : Nat) := by omega
      rw [List.take_of_length_le (by omega)] at hrow
      obtain ⟨F, hF⟩ : ∃ F, out E = F := ⟨_, rfl⟩
      rw [hF] at hrow
      have HX := Lib.hid (And.intro (HE.out.2.1.trans hx) (show _ = F from HFIN.out.trans hF))
      have hcv := conv_rowR hrow wr (Ext.refl _)
      obtain ⟨pb, cb, rfl⟩ := own_slice hrow
      clear hrow hx hF HFIN
      go_wp2_with fail
      go_ret
      rw [HX.out.2]
      exact ⟨rfl, HX.out.1⟩
   ·clear hf
    go_enter Tryz.func10, Tryz.ntmps10
    go_wp2_with fail
    refine (HR.out w).mono ?_
    rintro e w1 ⟨rfl, e1'⟩
    obtain rfl := e1'.symm
    clear e1'
    go_wp2_with fail
    refine HEL.out.mono ?_
    rintro e w2 ⟨v2, rfl, hown2, hx2⟩
    obtain ⟨p2, cap2, rfl⟩ := own_slice hown2
    have hl2 : (tbT.els k (rawOf s.data.toList)).length ≤ 100000000 := by have := HK.out; omega
    have HSRT := Lib.hid (c_rsorted w.heap.size cap2 p2 _ w2 hown2 hx2.sz hl2)
    have HX2 := Lib.hid hx2
    clear hown2 hx2 hl2
    go_wp2_with fail
    refine HSRT.out.mono ?_
    rintro e w3 ⟨rfl, hown3, hb3⟩
    rw [← HK.out.2.2.2.2.1, HK.out.2.2.2.1] at hown3
    rw [HK.out.2.2.2.1]
    have HX3 := Lib.hid (And.intro (Below.trans HX2.out hb3) hown3)
    obtain ⟨nE, hnE⟩ : ∃ n, (tbT.E k s.data.toList).length = n := ⟨_, rfl⟩
    rw [hnE]
    have HNE := Lib.hid hnE
    clear hown3 hb3 hnE
    go_wp2_with fail
    rw [← HNE.out]
    refine (HJN.out w.heap.size cap2 p2 w3 (HT.out.mono HX3.out.1) HX3.out.2).mono ?_
    rintro e w4 ⟨v4, rfl, hown4, hx4⟩
    obtain ⟨E, hE⟩ : ∃ E, J jnT none (tbT.E k s.data.toList) = E := ⟨_, rfl⟩
    rw [hE] at hown4
    obtain ⟨p4, cap4, rfl⟩ := own_slice hown4
    have HE := Lib.hid (show w4.ownsRow w3.heap.size 62 4 (.slice p4 E.length cap4) E.length (elRs E) ∧ Ext w w4 ∧ (∀ x ∈ E, ElGood x) ∧ E.length ≤ 20000000 from
     ⟨hown4, Ext.trans (show Ext w w3 from HX3.out.1) hx4, by rw [← hE]; exact HK.out.2.2.1.1, by rw [← hE]; have := HK.out; omega⟩)
    have HFIN := Lib.hid (show tbT.form k true s.data.toList = out E by rw [← hE]; rfl)
    clear hown4 hx4 hE
    go_wp2_with fail
    obtain ⟨i0, hi0, hz0, hz1, hz3⟩ := info_parts info8
    have hLI : ((E.length : Nat) : Int) ≤ 20000000 := by have := HE.out.2.2.2; omega
    go_wp2_with fail
    go_loopw [8, 9] (fun bv iv W => ∃ i : Nat, iv = .int .i64 (i : Nat) ∧ i ≤ E.length ∧ W.ownsRow w4.heap.size 5 1 bv (out (E.take i)).length (Lib.byteCells (out (E.take i))) ∧ Ext w4 W) (fun _ iv _ => E.length + 1 - (intOf iv).toNat)
    case atStart => exact ⟨0, rfl, by omega, World.ownsRow_nil _ _ _ _, Ext.refl _⟩
    case round =>
     obtain ⟨i, rfl, hi, hrow, hx⟩ := hrel
     by_cases hlt : i < E.length
     ·have hd : decide (i < E.length) = true := decide_eq_true hlt
      have hI : ((i : Nat) : Int) < (E.length : Nat) := by omega
      obtain ⟨g, post, rfl, _, hA, -, -, -⟩ := arrR_of HE.out.1 (by intro e; subst e; simp at hlt)
      obtain ⟨c0, c1, c2, -⟩ := hA.get hlt
      replace c0 := hx.cell c0
      replace c1 := hx.cell c1
      replace c2 := hx.cell c2
      have hgood := HE.out.2.2.1 E[i] (List.getElem_mem hlt)
      have htk := out_take hlt (x := E[i]) rfl
      have hol := out_len (E.take i)
      rw [List.length_take] at hol
      have hol2 : (out (E.take i)).length ≤ 80000000 := by have := HE.out.2.2.2; omega
      obtain ⟨⟨r, o, bd⟩, hxE⟩ : ∃ x, E[i] = x := ⟨_, rfl⟩
      rw [hxE] at c0 c1 c2 hgood htk
      have HROW := Lib.hid (And.intro hrow (And.intro hx hol2))
      have hsz := hx.sz
      clear hA hxE hrow hol hol2
      cases bd with
      | true =>
       have hr : 0 ≤ r ∧ r < 256 := by
        rcases hgood.2 with h | h
        ·exact h.2
        ·have := h.1
         simp at this
       have c2 : wr.cell? ⟨g, i * 4 + 2, none⟩ = some (.int .u8 r) := c2
       have c1 : wr.cell? ⟨g, i * 4 + 1, none⟩ = some (.bool true) := c1
       obtain ⟨ch, hch1, hch2⟩ : ∃ ch : UInt8, out (E.take (i + 1)) = out (E.take i) ++ [ch] ∧ ((ch.toNat : Nat) : Int) = r := ⟨UInt8.ofNat r.toNat, htk, by simp; omega⟩
       have HTK := Lib.hid (And.intro hch1 hch2)
       clear hch1 hch2
       clear htk hgood hr c0
       go_wp2_with (at_builtin; refine Hid.out ?_)
       refine Lib.hid ?_
       refine wpList_app rfl (.tmp 40) (.tmp 46) 38 rfl 5 i0 (.int .u8 0) 1 1 Tryz.underlying38 hi0 hz0 hz1 hz3 rfl (by decide) rfl HROW.out.1 HROW.out.2.1 [.int .u8 r] rfl rfl (by intro u hu; simp at hu; subst hu; rfl) ?n1c (by decide) ?_
       case n1c => have := HROW.out.2.2; omega
       intro v' w4 hown4 hx4 _
       have HO4 := Lib.hid (And.intro hown4 hx4)
       clear hown4 hx4 HROW
       go_wp2_with fail
       refine ⟨⟨i + 1, by simp, by omega, ?_, HO4.out.2⟩, by simp [intOf]; omega⟩
       have h4 := HO4.out.1
       rw [HTK.out.1, List.length_append]
       simpa [Lib.byteCells, HTK.out.2] using h4
      | false =>
       have c0 : wr.cell? ⟨g, i * 4, none⟩ = some (.int .i32 r) := c0
       have c1 : wr.cell? ⟨g, i * 4 + 1, none⟩ = some (.bool false) := c1
       have HTK := Lib.hid (show out (E.take (i + 1)) = out (E.take i) ++ (Utf8.encode r).data.toList from htk)
       have hes : (Utf8.encode r).size ≤ 4 := by rw [← len_eq]; exact encB_len r
       have hown := HROW.out.1
       have hb9 := HROW.out.2.2
       clear htk hgood c2
       go_wp2_with (at_builtin; refine Hid.out ?_)
       refine Lib.hid ?_
       refine Lib.wpList_append_own_string _ rfl (.tmp 48) (.tmp 54) 38 9 rfl w4.heap.size 5 i0 Tryz.underlying38 Tryz.underlying9 hi0 hz0 hz1 hz3 _ _ _ rfl hown (Utf8.encode r) rfl ?n2c ?n3c ?n4c ?_
       case n2c => unfold maxLen; omega
       case n3c => omega
       case n4c => omega
       intro v' w6 hown6 hgrow6 _
       have hx6 := Below.grown HROW.out.2.1 hgrow6 hsz (fun k e => (hown.lt k e).1)
       have HO6 := Lib.hid (And.intro hown6 hx6)
       clear hown6 hx6 hgrow6 hown hsz hx HROW
       go_wp2_with fail
       refine ⟨⟨i + 1, by simp, by omega, ?_, HO6.out.2⟩, by simp [intOf]; omega⟩
       have h6 := HO6.out.1
       rw [HTK.out, List.length_append, len_eq]
       simpa [Lib.byteCells, Lib.strCells_eq] using h6
     ·have hd : decide (i < E.length) = false := decide_eq_false hlt
      have hI : ¬ ((i : Nat) : Int) < (E.length : Nat) := by omega
      rw [List.take_of_length_le (by omega)] at hrow
      obtain ⟨F, hF⟩ : ∃ F, out E = F := ⟨_, rfl⟩
      rw [hF] at hrow
      have HX := Lib.hid (And.intro (HE.out.2.1.trans hx) (show _ = F from HFIN.out.trans hF))
      have hcv := conv_rowR hrow wr (Ext.refl _)
      obtain ⟨pb, cb, rfl⟩ := own_slice hrow
      clear hrow hx hF HFIN
      go_wp2_with fail
      go_ret
      rw [HX.out.2]
      exact ⟨rfl, HX.out.1⟩
  ·rw [decide_eq_false hc]
   have e1 : (f == 1) = false := beq_false_of_ne (fun h => hc (.inl h))
   have e3 : (f == 3) = false := beq_false_of_ne (fun h => hc (.inr h))
   clear hc hf
   go_enter Tryz.func10, Tryz.ntmps10
   go_wp2_with fail
   refine (HR.out w).mono ?_
   rintro e w1 ⟨rfl, e1'⟩
   obtain rfl := e1'.symm
   clear e1'
   go_wp2_with fail
   refine HEL.out.mono ?_
   rintro e w2 ⟨v2, rfl, hown2, hx2⟩
   obtain ⟨p2, cap2, rfl⟩ := own_slice hown2
   have hl2 : (tbT.els k (rawOf s.data.toList)).length ≤ 100000000 := by have := HK.out; omega
   have HSRT := Lib.hid (c_rsorted w.heap.size cap2 p2 _ w2 hown2 hx2.sz hl2)
   have HX2 := Lib.hid hx2
   clear hown2 hx2 hl2
   go_wp2_with fail
   refine HSRT.out.mono ?_
   rintro e w3 ⟨rfl, hown3, hb3⟩
   obtain ⟨E, hE⟩ : ∃ E, tbT.E k s.data.toList = E := ⟨_, rfl⟩
   rw [← HK.out.2.2.2.2.1, HK.out.2.2.2.1, hE] at hown3
   rw [HK.out.2.2.2.1, hE]
   have HE := Lib.hid (show w3.ownsRow w.heap.size 62 4 (.slice p2 E.length cap2) E.length (elRs E) ∧ Ext w w3 ∧ (∀ x ∈ E, ElGood x) ∧ E.length ≤ 20000000 from
    ⟨hown3, Below.trans HX2.out hb3, by rw [← hE]; exact HK.out.1, by rw [← hE]; have := HK.out; omega⟩)
   have HFIN := Lib.hid (show tbT.form k false s.data.toList = out E by rw [← hE]; rfl)
   clear hown3 hb3 hE
   go_wp2_with fail
   obtain ⟨i0, hi0, hz0, hz1, hz3⟩ := info_parts info8
   have hLI : ((E.length : Nat) : Int) ≤ 20000000 := by have := HE.out.2.2.2; omega
   go_wp2_with fail
   go_loopw [8, 9] (fun bv iv W => ∃ i : Nat, iv = .int .i64 (i : Nat) ∧ i ≤ E.length ∧ W.ownsRow w3.heap.size 5 1 bv (out (E.take i)).length (Lib.byteCells (out (E.take i))) ∧ Ext w3 W) (fun _ iv _ => E.length + 1 - (intOf iv).toNat)
   case atStart => exact ⟨0, rfl, by omega, World.ownsRow_nil _ _ _ _, Ext.refl _⟩
   case round =>
    obtain ⟨i, rfl, hi, hrow, hx⟩ := hrel
    by_cases hlt : i < E.length
    ·have hd : decide (i < E.length) = true := decide_eq_true hlt
     have hI : ((i : Nat) : Int) < (E.length : Nat) := by omega
     obtain ⟨g, post, rfl, _, hA, -, -, -⟩ := arrR_of HE.out.1 (by intro e; subst e; simp at hlt)
     obtain ⟨c0, c1, c2, -⟩ := hA.get hlt
     replace c0 := hx.cell c0
     replace c1 := hx.cell c1
     replace c2 := hx.cell c2
     have hgood := HE.out.2.2.1 E[i] (List.getElem_mem hlt)
     have htk := out_take hlt (x := E[i]) rfl
     have hol := out_len (E.take i)
     rw [List.length_take] at hol
     have hol2 : (out (E.take i)).length ≤ 80000000 := by have := HE.out.2.2.2; omega
     obtain ⟨⟨r, o, bd⟩, hxE⟩ : ∃ x, E[i] = x := ⟨_, rfl⟩
     rw [hxE] at c0 c1 c2 hgood htk
     have HROW := Lib.hid (And.intro hrow (And.intro hx hol2))
     have hsz := hx.sz
     clear hA hxE hrow hol hol2
     cases bd with
     | true =>
      have hr : 0 ≤ r ∧ r < 256 := by
       rcases hgood.2 with h | h
       ·exact h.2
       ·have := h.1
        simp at this
      have c2 : wr.cell? ⟨g, i * 4 + 2, none⟩ = some (.int .u8 r) := c2
      have c1 : wr.cell? ⟨g, i * 4 + 1, none⟩ = some (.bool true) := c1
      obtain ⟨ch, hch1, hch2⟩ : ∃ ch : UInt8, out (E.take (i + 1)) = out (E.take i) ++ [ch] ∧ ((ch.toNat : Nat) : Int) = r := ⟨UInt8.ofNat r.toNat, htk, by simp; omega⟩
      have HTK := Lib.hid (And.intro hch1 hch2)
      clear hch1 hch2
      clear htk hgood hr c0
      go_wp2_with (at_builtin; refine Hid.out ?_)
      refine Lib.hid ?_
      refine wpList_app rfl (.tmp 40) (.tmp 46) 38 rfl 5 i0 (.int .u8 0) 1 1 Tryz.underlying38 hi0 hz0 hz1 hz3 rfl (by decide) rfl HROW.out.1 HROW.out.2.1 [.int .u8 r] rfl rfl (by intro u hu; simp at hu; subst hu; rfl) ?n1a (by decide) ?_
      case n1a => have := HROW.out.2.2; omega
      intro v' w4 hown4 hx4 _
      have HO4 := Lib.hid (And.intro hown4 hx4)
      clear hown4 hx4 HROW
      go_wp2_with fail
      refine ⟨⟨i + 1, by simp, by omega, ?_, HO4.out.2⟩, by simp [intOf]; omega⟩
      have h4 := HO4.out.1
      rw [HTK.out.1, List.length_append]
      simpa [Lib.byteCells, HTK.out.2] using h4
     | false =>
      have c0 : wr.cell? ⟨g, i * 4, none⟩ = some (.int .i32 r) := c0
      have c1 : wr.cell? ⟨g, i * 4 + 1, none⟩ = some (.bool false) := c1
      have HTK := Lib.hid (show out (E.take (i + 1)) = out (E.take i) ++ (Utf8.encode r).data.toList from htk)
      have hes : (Utf8.encode r).size ≤ 4 := by rw [← len_eq]; exact encB_len r
      have hown := HROW.out.1
      have hb9 := HROW.out.2.2
      clear htk hgood c2
      go_wp2_with (at_builtin; refine Hid.out ?_)
      refine Lib.hid ?_
      refine Lib.wpList_append_own_string _ rfl (.tmp 48) (.tmp 54) 38 9 rfl w3.heap.size 5 i0 Tryz.underlying38 Tryz.underlying9 hi0 hz0 hz1 hz3 _ _ _ rfl hown (Utf8.encode r) rfl ?n2a ?n3a ?n4a ?_
      case n2a => unfold maxLen; omega
      case n3a => omega
      case n4a => omega
      intro v' w6 hown6 hgrow6 _
      have hx6 := Below.grown HROW.out.2.1 hgrow6 hsz (fun k e => (hown.lt k e).1)
      have HO6 := Lib.hid (And.intro hown6 hx6)
      clear hown6 hx6 hgrow6 hown hsz hx HROW
      go_wp2_with fail
      refine ⟨⟨i + 1, by simp, by omega, ?_, HO6.out.2⟩, by simp [intOf]; omega⟩
      have h6 := HO6.out.1
      rw [HTK.out, List.length_append, len_eq]
      simpa [Lib.byteCells, Lib.strCells_eq] using h6
    ·have hd : decide (i < E.length) = false := decide_eq_false hlt
     have hI : ¬ ((i : Nat) : Int) < (E.length : Nat) := by omega
     rw [List.take_of_length_le (by omega)] at hrow
     obtain ⟨F, hF⟩ : ∃ F, out E = F := ⟨_, rfl⟩
     rw [hF] at hrow
     have HX := Lib.hid (And.intro (HE.out.2.1.trans hx) (show _ = F from HFIN.out.trans hF))
     have hcv := conv_rowR hrow wr (Ext.refl _)
     obtain ⟨pb, cb, rfl⟩ := own_slice hrow
     clear hrow hx hF HFIN
     go_wp2_with fail
     go_ret
     rw [HX.out.2]
     exact ⟨rfl, HX.out.1⟩
 ·rw [decide_eq_false hf] at HR
  have hform : formT f s.data.toList = s.data.toList := by
   unfold formT
   rw [if_neg hf]
  rw [hform]
  clear hform h hf
  go_enter Tryz.func10, Tryz.ntmps10
  go_wp2_with fail
  refine (HR.out w).mono ?_
  rintro e w1 ⟨rfl, e1'⟩
  obtain rfl := e1'.symm
  clear e1'
  go_wp2_with fail
  go_ret
  exact ⟨rfl, Ext.refl _⟩
end Go.Proofs.YteokfknkcbmigaaGreatDoor
end
