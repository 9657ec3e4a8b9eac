/-
 A text's elements.
-/
import Derived.Test.YtokeamebcdhnpaaGreatDoorColM
namespace Go.Proofs.YtokeamebcdhnpaaGreatDoor
open Go.RowKit Go.Rp Go.Shelf Go.Maps Go.Cl

theorem own_mono {w : World} {B B' : Nat} {e : TypeId} {size n : Nat} {v : Value} {xs : List Value} (h : w.ownsRow B' e size v n xs) (hb : B ≤ B') : w.ownsRow B e size v n xs :=
 ⟨h.1, h.2.imp id (fun ⟨g, cap, cur, e, hg, hr⟩ => ⟨g, cap, cur, e, Nat.le_trans hb hg, hr⟩)⟩
set_option maxRecDepth 100000 in
set_option maxHeartbeats 4000000 in
theorem c_Elements (s : ByteArray) (w : World) (hT : TabsC w) (hs : s.size ≤ 200) :
  Calls Tryz.prog 11 #[.string s] w fun e w' => ∃ v, e = .returned v ∧ w'.ownsRow w.heap.size 59 3 v (elems bookP (mostC bookP) (formT 0 s.data.toList)).length (elW (elems bookP (mostC bookP) (formT 0 s.data.toList))) ∧ Ext w w' := by
 have HF := Lib.hid (fun w hT => c_Form s 0 w hT (by omega))
 go_enter Tryz.func11, Tryz.ntmps11
 go_wp2_with fail
 refine (HF.out w hT.t).mono ?_
 rintro e w2 ⟨rfl, hx2⟩
 obtain ⟨t, ht⟩ : ∃ t : ByteArray, (⟨(formT 0 s.data.toList).toArray⟩ : ByteArray) = t := ⟨_, rfl⟩
 rw [ht]
 have HT2 := Lib.hid (show t.data.toList = formT 0 s.data.toList by rw [← ht])
 have HX2 := Lib.hid hx2
 clear hx2 ht
 go_wp2_with fail
 refine (c_els t w2 (hT.ext HX2.out) (by
  have h1 := formT_len 0 s.data.toList
  rw [len_eqC] at h1
  rw [← len_eqC, HT2.out]
  omega)).mono ?_
 rintro e w3 ⟨v3, rfl, hr3, hx3⟩
 rw [HT2.out] at hr3
 have HR3 := Lib.hid (And.intro (own_mono hr3 HX2.out.sz) (HX2.out.trans hx3))
 clear hr3 hx3
 go_wp2_with fail
 exact ret_one rfl rfl rfl ⟨v3, rfl, HR3.out.1, HR3.out.2⟩
end Go.Proofs.YtokeamebcdhnpaaGreatDoor
