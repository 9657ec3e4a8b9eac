/-
  The reference: its tables laid; a text's form.
-/
import Derived.Test.YteokfknkcbmigaaGreatDoorRI
import Derived.Test.YteokfknkcbmigaaGreatDoorWalkU
import Derived.Laws.IdiomStrings
namespace Go.Proofs.YteokfknkcbmigaaGreatDoor
open Go.RowKit Go.Rp Go.Shelf Go.Maps Go.Nm

def hexOkB (dec : Bool) : List Nat → Nat → Nat → Bool
  | [], n, _ => Nat.blt n 16777216
  | c :: t, n, k => Nat.blt n 16777216 && (bif Nat.beq c 32 then hexOkB dec t 0 (k + 1) else (Nat.ble 48 c && Nat.blt c 91 && hexOkB dec t ((if dec = true ∧ k = 3 then 10 else 16) * n + digR c) k))
theorem hexOk_of (dec : Bool) : ∀ (l : List Nat) (n k : Nat), hexOkB dec l n k = true → hexOk dec l n k
  | [], n, k, h => Nat.le_of_ble_eq_true h
  | c :: t, n, k, h => by
    rw [hexOkB, Bool.and_eq_true] at h
    refine ⟨Nat.le_of_ble_eq_true h.1, ?_⟩
    by_cases hc : c = 32
    · subst hc
      rw [if_pos rfl]
      exact hexOk_of dec t _ _ h.2
    · have hb : Nat.beq c 32 = false := by
        cases hq : Nat.beq c 32 with
        | false => rfl
        | true => exact absurd (Nat.eq_of_beq_eq_true hq) hc
      have h2 := h.2
      rw [hb, cond_false, Bool.and_eq_true, Bool.and_eq_true] at h2
      rw [if_neg hc]
      exact ⟨Nat.le_of_ble_eq_true h2.1.1, Nat.le_of_ble_eq_true h2.1.2, hexOk_of dec t _ _ h2.2⟩
def rdOkB (dec : Bool) : List Nat → List Nat → Bool
  | [], _ => true
  | c :: t, cur => bif Nat.beq c 10 then hexOkB dec cur 0 1 && rdOkB dec t [] else rdOkB dec t (cur ++ [c])
theorem rdOk_of (dec : Bool) : ∀ (l cur : List Nat), rdOkB dec l cur = true → rdOk dec l cur
  | [], _, _ => trivial
  | c :: t, cur, h => by
    rw [rdOkB] at h
    rw [rdOk]
    by_cases hc : c = 10
    · subst hc
      rw [if_pos rfl]
      have h2 : (hexOkB dec cur 0 1 && rdOkB dec t []) = true := h
      rw [Bool.and_eq_true] at h2
      exact ⟨hexOk_of dec _ _ _ h2.1, rdOk_of dec t [] h2.2⟩
    · have hb : Nat.beq c 10 = false := by
        cases hq : Nat.beq c 10 with
        | false => rfl
        | true => exact absurd (Nat.eq_of_beq_eq_true hq) hc
      rw [hb, cond_false] at h
      rw [if_neg hc]
      exact rdOk_of dec t _ h
theorem rokA : rdOkB false (byts textA) [] = true := by kernel_rfl
theorem rokK : rdOkB false (byts textK) [] = true := by kernel_rfl
theorem rokX : rdOkB false (byts textX) [] = true := by kernel_rfl
theorem rokO : rdOkB true (byts textO) [] = true := by kernel_rfl
theorem calls_str2 {P : Program} {f : FuncId} {s s' : ByteArray} {d : Value} {w : World} {R : Ending → World → Prop} (e : s' = s) (h : Calls P f #[.string s', d] w R) : Calls P f #[.string s, d] w R := by rw [← e]; exact h
set_option maxRecDepth 100000 in
set_option maxHeartbeats 8000000 in
theorem c_rTables (w : World) : Calls Tryz.prog 9 #[] w fun e w' => ∃ tB, e = .returned (.pointer (some ⟨tB, 0, none⟩)) ∧ RTab w' tB ∧ Ext w w' := by
  go_enter Tryz.func9, Tryz.ntmps9
  go_wp2_with fail
  refine calls_str2 (s' := textA) (by kernel_rfl) ?_
  refine (c_rread textA false w hA0.1 (rdOk_of _ _ _ rokA)).mono ?_
  rintro e w1 ⟨vA, vsA, rfl, hrA, hlA, hxA⟩
  have hrA : w1.ownsRow w.heap.size 77 2 vA rA.length vsA := hrA
  obtain ⟨pA, cA, rfl⟩ := own_slice hrA
  have LA := Lib.hid (ltab_of hrA hlA)
  have HX1 := Lib.hid hxA
  clear hxA hrA hlA
  go_wp2_with fail
  refine calls_str2 (s' := textK) (by kernel_rfl) ?_
  refine (c_rread textK false w1 hK0.1 (rdOk_of _ _ _ rokK)).mono ?_
  rintro e w2 ⟨vK, vsK, rfl, hrK, hlK, hxK⟩
  have hrK : w2.ownsRow w1.heap.size 77 2 vK rK.length vsK := hrK
  obtain ⟨pK, cK, rfl⟩ := own_slice hrK
  have LK := Lib.hid (ltab_of hrK hlK)
  have HX2 := Lib.hid hxK
  clear hxK hrK hlK
  go_wp2_with fail
  refine calls_str2 (s' := textX) (by kernel_rfl) ?_
  refine (c_rread textX false w2 hX0.1 (rdOk_of _ _ _ rokX)).mono ?_
  rintro e w3 ⟨vX, vsX, rfl, hrX, hlX, hxX⟩
  have hrX : w3.ownsRow w2.heap.size 77 2 vX rX.length vsX := hrX
  obtain ⟨pX, cX, rfl⟩ := own_slice hrX
  have LX := Lib.hid (ltab_of hrX hlX)
  have HX3 := Lib.hid hxX
  clear hxX hrX hlX
  go_wp2_with fail
  refine calls_str2 (s' := textO) (by kernel_rfl) ?_
  refine (c_rread textO true w3 hO0.1 (rdOk_of _ _ _ rokO)).mono ?_
  rintro e w4 ⟨vO, vsO, rfl, hrO, hlO, hxO⟩
  have hrO : w4.ownsRow w3.heap.size 77 2 vO rO.length vsO := hrO
  obtain ⟨pO, cO, rfl⟩ := own_slice hrO
  have LO := Lib.hid (ltab_of hrO hlO)
  have HX4 := Lib.hid hxO
  clear hxO hrO hlO
  go_wp2_with fail
  have hb := World.alloc_heap_new w4 (.cells #[.slice pA rA.length cA, .slice pK rK.length cK, .slice pX rX.length cX, .slice pO rO.length cO] 55)
  have hx5 := (Ext.refl w4).alloc (.cells #[.slice pA rA.length cA, .slice pK rK.length cK, .slice pX rX.length cX, .slice pO rO.length cO] 55)
  have H5 := Lib.hid (show RTab (w4.alloc (.cells #[.slice pA rA.length cA, .slice pK rK.length cK, .slice pX rX.length cX, .slice pO rO.length cO] 55)) w4.heap.size ∧ Ext w (w4.alloc (.cells #[.slice pA rA.length cA, .slice pK rK.length cK, .slice pX rX.length cX, .slice pO rO.length cO] 55)) from
    ⟨⟨_, _, _, _, hb, LA.out.mono (HX2.out.trans (HX3.out.trans (HX4.out.trans hx5))), LK.out.mono (HX3.out.trans (HX4.out.trans hx5)), LX.out.mono (HX4.out.trans hx5), LO.out.mono hx5⟩, HX1.out.trans (HX2.out.trans (HX3.out.trans (HX4.out.trans hx5)))⟩)
  clear hb hx5
  go_ret
  exact ⟨_, rfl, H5.out.1, H5.out.2⟩
end Go.Proofs.YteokfknkcbmigaaGreatDoor
