/-
  live: a rune over a seam.
-/
import Derived.Test.YtohpekbooapcjaaDoorWalkX
namespace Go.Proofs.YtohpekbooapcjaaDoor
open Go.RowKit Go.Rp

def liveA : ByteArray := ⟨#[226]⟩
def liveB : ByteArray := ⟨#[130, 172]⟩
def liveC : ByteArray := ⟨#[226, 130, 172]⟩
def liveD : ByteArray := ⟨#[226, 130, 172, 120, 10]⟩

set_option maxRecDepth 100000 in
set_option maxHeartbeats 2000000 in
theorem c_live (w : World) : Calls Tryd.prog 7 #[] w fun e w' => e = .returned (.bool true) ∧ Ext w w' := by
  go_enter Tryd.func7, Tryd.ntmps7
  go_wp2_with fail
  refine (c_New ⟨#[226]⟩ _ (by decide)).mono ?_
  rintro e w1 ⟨va, oa, rfl, hA, ea, hx1⟩
  go_wp2_with fail
  refine (c_New ⟨#[130, 172]⟩ _ (by decide)).mono ?_
  rintro e w2 ⟨vb, ob, rfl, hB, eb, hx2⟩
  have za : (txt oa).size = 1 := by rw [ea]; rfl
  have zb : (txt ob).size = 2 := by rw [eb]; rfl
  have EA := Lib.hid ea
  have EB := Lib.hid eb
  clear ea eb
  go_wp2_with fail
  refine (c_num 0 _).mono ?_
  rintro e w3 ⟨rfl, rfl⟩
  go_wp2_with fail
  refine (c_num 0 _).mono ?_
  rintro e w4 ⟨rfl, rfl⟩
  go_wp2_with fail
  refine (c_Join va vb oa ob _ (hA.mono hx2) hB (by omega) (by omega) (by omega)).mono ?_
  rintro e w5 ⟨vc, oc, rfl, hC, ec, hx5⟩
  have ec2 : txt oc = liveC := by rw [ec, EA.out, EB.out]; rfl
  have zc : (txt oc).size = 3 := by rw [ec2]; rfl
  have EC := Lib.hid ec2
  clear ec ec2
  go_wp2_with fail
  refine (c_num 0 _).mono ?_
  rintro e w6 ⟨rfl, rfl⟩
  go_wp2_with fail
  refine (c_Insert vc oc 3 ⟨#[120, 10]⟩ _ hC (by omega) (by omega) (by rw [zc]; decide)).mono ?_
  rintro e w7 ⟨vd, od, rfl, hD, ed, hx7⟩
  have ed2 : txt od = liveD := by rw [ed, EC.out]; rfl
  have zd : (txt od).size = 5 := by rw [ed2]; rfl
  have ED := Lib.hid ed2
  clear ed ed2
  go_wp2_with fail
  refine (c_num 0 _).mono ?_
  rintro e w8 ⟨rfl, rfl⟩
  go_wp2_with fail
  refine (c_Insert_no vd od 9 ⟨#[]⟩ _ hD (by omega) (by omega)).mono ?_
  rintro e w9 ⟨rfl, hx9⟩
  go_wp2_with fail
  have nb : nBreaks (txt od) = 1 := by rw [ED.out]; decide
  refine (c_AtLine_yes vd od 1 _ (hD.mono hx9) (by omega) (by omega)).mono ?_
  rintro e w10 ⟨k, rfl, hk, hl, hmin, hx10⟩
  have hk5 : k = 5 := by
    rw [ED.out] at hl
    rcases (show k = 0 ∨ k = 1 ∨ k = 2 ∨ k = 3 ∨ k = 4 ∨ k = 5 by omega) with rfl | rfl | rfl | rfl | rfl | rfl
    · exact absurd hl (by decide)
    · exact absurd hl (by decide)
    · exact absurd hl (by decide)
    · exact absurd hl (by decide)
    · exact absurd hl (by decide)
    · rfl
  subst hk5
  clear hl hmin hk
  have n1 : nRunes (txt oc) = 1 := by rw [EC.out]; decide
  have n2 : nRunes (txt ob) = 2 := by rw [EB.out]; decide
  have N1 := Lib.hid n1
  have N2 := Lib.hid n2
  have NB := Lib.hid nb
  clear n1 n2 nb
  go_wp2_with fail
  refine (c_Runes vc oc _ (hC.mono (hx7.trans (hx9.trans hx10))) (by omega)).mono ?_
  rintro e w11 ⟨rfl, hx11⟩
  rw [N1.out]
  go_wp2_with fail
  refine (c_Runes vb ob _ (hB.mono (hx5.trans (hx7.trans (hx9.trans (hx10.trans hx11))))) (by omega)).mono ?_
  rintro e w12 ⟨rfl, hx12⟩
  rw [N2.out]
  go_wp2_with fail
  refine (c_String vd od _ (hD.mono (hx9.trans (hx10.trans (hx11.trans hx12)))) (by omega)).mono ?_
  rintro e w13 ⟨rfl, hx13⟩
  rw [ED.out]
  unfold liveD
  go_wp2_with fail
  refine (c_Len vd od _ (hD.mono (hx9.trans (hx10.trans (hx11.trans (hx12.trans hx13))))) (by omega)).mono ?_
  rintro e w14 ⟨rfl, hx14⟩
  rw [zd]
  go_wp2_with fail
  refine (c_Breaks vd od _ (hD.mono (hx9.trans (hx10.trans (hx11.trans (hx12.trans (hx13.trans hx14)))))) (by omega)).mono ?_
  rintro e w15 ⟨rfl, hx15⟩
  rw [NB.out]
  go_wp2_with fail
  refine (c_num 200 _).mono ?_
  rintro e w16 ⟨rfl, rfl⟩
  go_wp2_with fail
  refine (c_String vc oc _ (hC.mono (hx7.trans (hx9.trans (hx10.trans (hx11.trans (hx12.trans (hx13.trans (hx14.trans hx15)))))))) (by omega)).mono ?_
  rintro e w17 ⟨rfl, hx17⟩
  rw [EC.out]
  unfold liveC
  go_wp2_with fail
  exact ret_one rfl rfl rfl ⟨rfl, hx1.trans (hx2.trans (hx5.trans (hx7.trans (hx9.trans (hx10.trans (hx11.trans (hx12.trans (hx13.trans (hx14.trans (hx15.trans hx17))))))))))⟩
end Go.Proofs.YtohpekbooapcjaaDoor
