/-
 Runes put together as a text.
-/
import Derived.Test.YtokeamebcdhnpaaGreatDoorTabM
import Derived.Test.YtokeamebcdhnpaaGreatDoorApp
import Derived.Test.YtokeamebcdhnpaaGreatDoorWalkIJ
import Derived.Lib.AppendStr
namespace Go.Proofs.YtokeamebcdhnpaaGreatDoor
open Go.RowKit Go.Rp Go.Shelf Go.Maps Go.Cl

theorem enc_le (r : Int) : (Utf8.encode r).data.size ≤ 4 := by
 have h : ∀ (c : Prop) [Decidable c] (a b : ByteArray), a.data.size ≤ 4 → b.data.size ≤ 4 → (if c then a else b).data.size ≤ 4 := by
  intro c _ a b ha hb
  split
  ·exact ha
  ·exact hb
 unfold Utf8.encode
 split
 ·refine h _ _ _ ?_ (h _ _ _ ?_ (h _ _ _ ?_ ?_))
  ·exact (by decide : (1 : Nat) ≤ 4)
  ·exact (by decide : (2 : Nat) ≤ 4)
  ·exact (by decide : (3 : Nat) ≤ 4)
  ·exact (by decide : (4 : Nat) ≤ 4)
 ·exact (by decide : (3 : Nat) ≤ 4)
theorem info_u8C : (Tryz.prog.info? 5).map (fun i => (i.zero, i.size, i.bytes)) = some (some (.int .u8 0), 1, 1) := by kernel_rfl
theorem len_eqC (s : ByteArray) : s.data.toList.length = s.size := by simp
theorem conv_rowC {W : World} {B : Nat} {v : Value} {F : List UInt8} (h : W.ownsRow B 5 1 v F.length (Lib.byteCells F)) : ∀ w', EOn (fun _ => True) W w' → (convert 34 9 v).run Tryz.prog w' = .ok (.string ⟨F.toArray⟩) w' := fun w' hx => by
 obtain ⟨p, c, rfl⟩ := own_slice h
 by_cases h0 : F = []
 ·subst h0
  rcases h.2 with ⟨e, _⟩ | ⟨g, cap', cur, e, _⟩
  ·cases e
   exact run_convert_bytes_nil (P := Tryz.prog) w' 34 5 Tryz.underlying34 Tryz.underlying5 _ _ _ Tryz.underlying9
  ·cases e
   exact run_convert_bytes_back (P := Tryz.prog) w' 34 9 5 _ _ [] Tryz.underlying34 Tryz.underlying5 Tryz.underlying9 (fun j hj => by cases hj)
 ·have hl : 0 < F.length := List.length_pos_iff.2 h0
  obtain ⟨g, rfl, _, _, hg⟩ := own_at h hl
  exact run_convert_bytes_back (P := Tryz.prog) w' 34 9 5 ⟨g, 0, none⟩ c F Tryz.underlying34 Tryz.underlying5 Tryz.underlying9 (fun j hj => by
   have hadd : (⟨g, 0, none⟩ : Addr).add j = ⟨g, j, none⟩ := by unfold Addr.add; split <;> simp_all
   rw [hadd]
   refine hx.cell trivial ((hg j (by omega)).trans ?_)
   simp [Lib.byteCells, List.getElem?_eq_getElem hj])
/-- A row of runes. -/
def RnRow (w : World) (v : Value) (rs : List Nat) : Prop :=
 ∃ p cap, v = .slice p rs.length cap ∧ (rs ≠ [] → ∃ g, p = some ⟨g, 0, none⟩ ∧ ∀ i (h : i < rs.length), w.cell? ⟨g, i, none⟩ = some (.int .i32 (rs[i] : Nat)))
theorem textC_take (rs : List Nat) (k : Nat) (h : k < rs.length) : textC (rs.take (k + 1)) = textC (rs.take k) ++ (Utf8.encode (rs[k] : Nat)).data.toList := by
 unfold textC
 rw [List.take_succ_eq_append_getElem h, List.flatMap_append, List.flatMap_cons, List.flatMap_nil, List.append_nil]
theorem textC_len (rs : List Nat) : (textC rs).length ≤ 4 * rs.length := by
 induction rs with
 | nil => simp [textC]
 | cons r rs ih =>
  have h1 : textC (r :: rs) = (Utf8.encode (r : Nat)).data.toList ++ textC rs := by simp [textC]
  have h2 : (Utf8.encode (r : Int)).data.toList.length ≤ 4 := by
   rw [Array.length_toList]
   exact enc_le _
  rw [h1, List.length_append, List.length_cons]
  omega
set_option maxRecDepth 100000 in
set_option maxHeartbeats 4000000 in
theorem c_Text (v : Value) (rs : List Nat) (w : World) (h : RnRow w v rs) (hn : rs.length ≤ 1000) (hv : ∀ r ∈ rs, Utf8.valid ((r : Nat) : Int) = true) :
  Calls Tryz.prog 76 #[v] w fun e w' => e = .returned (.string ⟨(textC rs).toArray⟩) ∧ Ext w w' := by
 obtain ⟨p, cap, rfl, hc⟩ := h
 have HC := Lib.hid hc
 have HV := Lib.hid hv
 have hnI : ((rs.length : Nat) : Int) ≤ 1000 := by omega
 clear hc hv
 go_enter Tryz.func76, Tryz.ntmps76
 go_wp2_with fail
 obtain ⟨i0, hi0, hz0, hz1, hz3⟩ := info_parts info_u8C
 go_loopw [3, 8] (fun bv iv W => ∃ k : Nat, iv = .int .i64 (k : Nat) ∧ k ≤ rs.length ∧ W.ownsRow w.heap.size 5 1 bv (textC (rs.take k)).length (Lib.byteCells (textC (rs.take k))) ∧ Ext w W) (fun _ iv _ => rs.length + 1 - (intOf iv).toNat)
 case atStart => exact ⟨0, rfl, by omega, World.ownsRow_nil _ _ _ _, Ext.refl _⟩
 case round =>
  obtain ⟨k, rfl, hk, hown, hx⟩ := hrel
  by_cases hlt : k < rs.length
  ·have hd : decide (k < rs.length) = true := decide_eq_true hlt
   have hI : ((k : Nat) : Int) < (rs.length : Nat) := by omega
   obtain ⟨g, rfl, hcell⟩ := HC.out (by intro e; subst e; simp at hlt)
   have hck := hx.cell (hcell k hlt)
   have HST := Lib.hid (And.intro (textC_take rs k hlt) hlt)
   have HLN := Lib.hid (show (textC (rs.take k)).length ≤ 4000 by
    have := textC_len (rs.take k)
    rw [List.length_take] at this
    omega)
   have HX := Lib.hid hx
   have hvr := HV.out _ (List.getElem_mem hlt)
   clear hcell
   generalize rs[k] = r at hck HST hvr
   have HVR := Lib.hid hvr
   clear hvr
   have hsz := hx.sz
   have hel := enc_le (r : Int)
   have HOWN := Lib.hid hown
   clear hown hx
   go_wp2_with fail
   refine (c_Encode r wr HVR.out).mono ?_
   rintro e w5 ⟨rfl, hx5⟩
   obtain ⟨en, hen⟩ : ∃ en, Utf8.encode (r : Int) = en := ⟨_, rfl⟩
   rw [hen] at HST hel ⊢
   have hel2 : en.size ≤ 4 := hel
   have HEL := Lib.hid hel2
   have hown5 := ownsRow_ext HOWN.out hx5
   have HX5 := Lib.hid (HX.out.trans hx5)
   clear hx5 hen hel hel2 hck
   go_wp2_with (at_builtin; refine Lib.wpList_append_own_string _ rfl _ _ 34 9 rfl w.heap.size 5 i0 Tryz.underlying34 Tryz.underlying9 hi0 hz0 hz1 hz3 _ _ _ rfl hown5 en rfl ?c3 ?c4 ?c5 ?_)
   case c3 => have := HLN.out; have := HEL.out; unfold maxLen; omega
   case c4 => have := HLN.out; have := HEL.out; omega
   case c5 => exact HX5.out.sz
   intro v' w6 hown6 hgrow6 _
   have hx6 := Below.grown HX5.out hgrow6 HX5.out.sz (fun k e => (hown5.lt k e).1)
   have HO6 := Lib.hid (And.intro hown6 hx6)
   clear hown6 hx6 hgrow6 hown5 hsz
   go_wp2_with fail
   refine ⟨⟨k + 1, by simp, by have := HST.out.2; omega, ?_, HO6.out.2⟩, by have := HST.out.2; simp [intOf]; omega⟩
   have h6 := HO6.out.1
   rw [HST.out.1, List.length_append, len_eqC]
   simpa [Lib.byteCells, Lib.strCells_eq] using h6
  ·have hd : decide (k < rs.length) = false := decide_eq_false hlt
   have hI : ¬ ((k : Nat) : Int) < (rs.length : Nat) := by omega
   obtain rfl : k = rs.length := by omega
   have HX := Lib.hid hx
   rw [List.take_length] at hown
   have hcv := conv_rowC hown _ (EOn.refl _ _)
   clear hx hown hk hlt
   go_wp2_with fail
   go_ret
   exact ⟨rfl, HX.out⟩
end Go.Proofs.YtokeamebcdhnpaaGreatDoor
