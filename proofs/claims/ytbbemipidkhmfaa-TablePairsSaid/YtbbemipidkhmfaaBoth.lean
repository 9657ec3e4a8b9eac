/-
  both: the program's table and the document's.
-/
import Derived.Test.YtbbemipidkhmfaaRefD
import Derived.Test.YtbbemipidkhmfaaOwn
namespace Go.Proofs.Ytbbemipidkhmfaa
open Go.RowKit Go.Maps Go.Shelf

set_option maxRecDepth 100000 in
set_option maxHeartbeats 8000000 in
theorem c_both (v : Value) (l : List Rng) (rest : Int) (w : World) (h : RgRow w v l) (hl : l.length ≤ 2000000) :
    Calls Try.prog 27 #[v, .int .i64 rest] w fun e w' => Ext w w' ∧
      ((e = .returned (.tuple #[.pointer none, .pointer none, .bool false, .bool true])) ∨
       (∃ T Y L, e = .returned (.tuple #[T, Y, .bool true, .bool true]) ∧ IsTb w' T rest (clsOf l rest) ∧ IsRef w.heap.size w' Y rest L ∧ ∀ r, clsOf L rest r = clsOf l rest r)) := by
  obtain ⟨p, cap, rfl⟩ : ∃ p cap, v = .slice p l.length cap := by obtain ⟨p, cap, e, _⟩ := h; exact ⟨p, cap, e⟩
  go_enter Try.func27, Try.ntmps27
  go_wp2_with fail
  refine (c_own _ l w h hl).mono ?_
  rintro e w1 ⟨v1, rfl, ho1, hx1⟩
  go_wp2_with fail
  refine (c_Build v1 l rest w1 (RgRow.of_own ho1)).mono ?_
  rintro e w2 ⟨hx2, (⟨hne, rfl⟩ | ⟨he0, T1, rfl, htb, hfr⟩)⟩
  · obtain ⟨e0, he0⟩ : ∃ e0, (checkOf l rest).1 = e0 := ⟨_, rfl⟩
    obtain ⟨e1, he1⟩ : ∃ e1, (checkOf l rest).2 = e1 := ⟨_, rfl⟩
    rw [he0, he1]
    rw [he0] at hne
    have HE0 := Lib.hid he0
    have HE1 := Lib.hid he1
    have HNE := Lib.hid hne
    clear he0 he1 hne
    go_wp2_with fail
    refine (c_RBuild _ l rest w2 (h.mono (Ext.trans hx1 hx2))).mono ?_
    rintro e w3 ⟨hx3, (⟨-, rfl⟩ | ⟨he, -⟩)⟩
    · rw [HE0.out, HE1.out]
      go_wp2_with fail
      refine (c_num e0 w3).mono ?_
      rintro e w3 ⟨rfl, rfl⟩
      have z0 : (e0 != e0) = false := bne_self_eq_false _
      go_wp2_with fail
      exact bodyPost_ret (v := .tuple #[.pointer none, .pointer none, .bool false, .bool true]) (by simp [results, Try.results27, go_sem]) rfl ⟨Ext.trans (Ext.trans hx1 hx2) hx3, .inl rfl⟩
    · exact absurd (HE0.out.symm.trans he) HNE.out
  obtain ⟨T, U, ix, ob, oc, ub, uc, rfl, htab⟩ := htb
  have HE := Lib.hid he0
  clear he0
  go_wp2_with fail
  refine (c_RBuild _ l rest w2 (h.mono (Ext.trans hx1 hx2))).mono ?_
  rintro e w3 ⟨hx3, (⟨hne, -⟩ | ⟨-, Y, L, rfl, href, hcl⟩)⟩
  · exact absurd HE.out hne
  have HCL := Lib.hid hcl
  clear hcl
  have hv : ∃ Y', Y = .pointer (some ⟨Y', 0, none⟩) := by obtain ⟨Y, _, e, _⟩ := href; exact ⟨Y, e⟩
  obtain ⟨Y, rfl⟩ := hv
  go_wp2_with fail
  refine (c_num 0 w3).mono ?_
  rintro e w3 ⟨rfl, rfl⟩
  go_wp2_with fail
  have hx03 := Ext.trans (Ext.trans hx1 hx2) hx3
  refine bodyPost_ret (v := .tuple #[.pointer (some ⟨T, 0, none⟩), .pointer (some ⟨Y, 0, none⟩), .bool true, .bool true]) (by simp [results, Try.results27, go_sem]) rfl ⟨hx03, .inr ⟨.pointer (some ⟨T, 0, none⟩), .pointer (some ⟨Y, 0, none⟩), L, rfl, ⟨T, U, ix, ob, oc, ub, uc, rfl, htab.ext hx3⟩, ?_, HCL.out⟩⟩
  obtain ⟨Y', lv, e, h1, h2, h3, h4, h5⟩ := href
  have hs := (Ext.trans hx1 hx2).sz
  exact ⟨Y', lv, e, h1, Nat.le_trans hs h2, own_lower h3 hs, h4, h5⟩
end Go.Proofs.Ytbbemipidkhmfaa
