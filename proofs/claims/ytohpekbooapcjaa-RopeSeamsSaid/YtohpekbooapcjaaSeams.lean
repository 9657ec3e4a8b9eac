/-
  What the seam of two texts costs: the walk of RopeSeams.
-/
import Derived.Test.YtohpekbooapcjaaLive
namespace Go.Proofs.Ytohpekbooapcjaa
open Go.RowKit Go.Rp

set_option maxRecDepth 100000 in
set_option maxHeartbeats 2000000 in
theorem c_Seams (a b : ByteArray) (w : World) (ha : a.size ≤ 1099511627776000) (hb : b.size ≤ 1099511627776000) :
    Calls Try.prog 3 #[.string a, .string b] w fun e w' => e = .returned (.bool true) ∧ Ext w w' := by
  by_cases hw : 4000 < a.size + b.size
  · go_enter Try.func3, Try.ntmps3
    go_wp2_with fail
    refine (c_live _).mono ?_
    rintro e w1 ⟨rfl, hx1⟩
    go_wp2_with fail
    exact ret_one rfl rfl rfl ⟨rfl, hx1⟩
  obtain ⟨c, hc1, hc2, hc3⟩ := runes_cost a.data.toList b.data.toList
  rw [← toList_append] at hc1 hc3
  rw [len_eq] at hc3
  have hc4 : nRunes a + nRunes b = nRunes (a ++ b) + c := hc1
  clear hc1
  have hend : a.size = (a ++ b).size → decide (c = 0) = true := by
    intro e
    rw [ByteArray.size_append] at e
    have e2 : b = ByteArray.empty := ByteArray.ext (Array.eq_empty_of_size_eq_zero (show b.data.size = 0 from (show b.size = 0 by omega)))
    subst e2
    have e3 : nRunes ByteArray.empty = 0 := by decide
    rw [ByteArray.append_empty] at hc4
    simp
    omega
  have hdec : decide (c = 0) = true ↔ edge (a ++ b).data.toList a.size := by
    rw [decide_eq_true_iff]
    exact hc3
  clear hc3
  have b1 := nRunes_le a
  have b2 := nRunes_le b
  have b3 := nRunes_le (a ++ b)
  rw [ByteArray.size_append] at b3
  go_enter Try.func3, Try.ntmps3
  go_wp2_with fail
  refine (c_New a _ (by omega)).mono ?_
  rintro e w1 ⟨va, oa, rfl, hA, ea, hx1⟩
  go_wp2_with fail
  refine (c_New b _ (by omega)).mono ?_
  rintro e w2 ⟨vb, ob, rfl, hB, eb, hx2⟩
  have EA := Lib.hid ea
  have EB := Lib.hid eb
  have za : (txt oa).size ≤ 4000 := by rw [ea]; omega
  have zb : (txt ob).size ≤ 4000 := by rw [eb]; omega
  clear ea eb
  go_wp2_with fail
  refine (c_Join va vb oa ob _ (hA.mono hx2) hB (by omega) (by omega) (by omega)).mono ?_
  rintro e w3 ⟨vc, oc, rfl, hC, ec, hx3⟩
  have EC := Lib.hid (ec.trans (by rw [EA.out, EB.out] : _ = a ++ b))
  have zc : (txt oc).size ≤ 8000 := by rw [ec, ByteArray.size_append]; omega
  clear ec
  go_wp2_with fail
  refine (c_num 0 _).mono ?_
  rintro e w4 ⟨rfl, rfl⟩
  go_wp2_with fail
  refine (c_num 0 _).mono ?_
  rintro e w5 ⟨rfl, rfl⟩
  go_wp2_with fail
  refine (c_num 0 _).mono ?_
  rintro e w6 ⟨rfl, rfl⟩
  go_wp2_with fail
  refine (c_Runes va oa _ (hA.mono (hx2.trans hx3)) (by omega)).mono ?_
  rintro e w7 ⟨rfl, hx7⟩
  rw [EA.out]
  go_wp2_with fail
  refine (c_Runes vb ob _ (hB.mono (hx3.trans hx7)) (by omega)).mono ?_
  rintro e w8 ⟨rfl, hx8⟩
  rw [EB.out]
  go_wp2_with fail
  refine (c_Runes vc oc _ (hC.mono (hx7.trans hx8)) (by omega)).mono ?_
  rintro e w9 ⟨rfl, hx9⟩
  rw [EC.out]
  have hcost : (nRunes a : Int) + (nRunes b : Nat) - (nRunes (a ++ b) : Nat) = (c : Nat) := by omega
  have HC := Lib.hid hcost
  have HD := Lib.hid hdec
  have HE := Lib.hid hend
  have g1 : nRunes (a ++ b) ≤ nRunes a + nRunes b := by omega
  have g2 : (nRunes a : Int) + (nRunes b : Nat) - (nRunes (a ++ b) : Nat) ≤ 3 := by omega
  have zab : (a ++ b).size ≤ 8000 := by rw [ByteArray.size_append]; omega
  have zle : a.size ≤ (a ++ b).size := by rw [ByteArray.size_append]; omega
  clear hcost hc4 hdec hend b3
  go_wp2_with fail
  refine (c_Edge (a ++ b) a.size (decide (c = 0)) _ (by omega) zle HD.out HE.out).mono ?_
  rintro e w10 ⟨rfl, hx10⟩
  have hfin : (((nRunes a : Int) + (nRunes b : Nat) - (nRunes (a ++ b) : Nat)) == 0) = decide (c = 0) := by
    rw [HC.out]
    by_cases h0 : c = 0
    · subst h0
      rfl
    · rw [decide_eq_false h0]
      exact beq_false_of_ne (by omega)
  go_wp2_with fail
  refine (c_live _).mono ?_
  rintro e w11 ⟨rfl, hx11⟩
  go_wp2_with fail
  exact ret_one rfl rfl rfl ⟨rfl, hx1.trans (hx2.trans (hx3.trans (hx7.trans (hx8.trans (hx9.trans (hx10.trans hx11))))))⟩
end Go.Proofs.Ytohpekbooapcjaa
