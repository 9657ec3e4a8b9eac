/-
  Branches made of two nodes; pieces.
-/
import Derived.Test.YtohpekbooapcjaaDoorWalkD
namespace Go.Proofs.YtohpekbooapcjaaDoor
open Go.RowKit Go.Rp

set_option maxHeartbeats 400000 in
theorem c_two (va vb : Value) (ta tb : T) (w : World) (ha : IsNode w va ta) (hb : IsNode w vb tb) (hd : ta.deep ≤ tb.deep + 1 ∧ tb.deep ≤ ta.deep + 1) (hs : ta.text.size + tb.text.size ≤ 1099511627776) (hp : ta.deep ≤ 1000) (hq : tb.deep ≤ 1000) :
    Calls Tryd.prog 62 #[va, vb] w fun e w' => ∃ b, e = .returned (.pointer (some ⟨b, 0, none⟩)) ∧ IsNode w' (.iface 94 (.pointer (some ⟨b, 0, none⟩))) (.br ta tb) ∧ Ext w w' := by
  obtain ⟨Ta, xa, rfl⟩ := ha.iface
  obtain ⟨Tb, xb, rfl⟩ := hb.iface
  go_enter Tryd.func62, Tryd.ntmps62
  go_wp2_with (first
    | (refine upon_sum ha (by omega) (fun w1 hx1 => ?_); go_simp)
    | (refine upon_sum (hb.mono hx1) (by omega) (fun w2 hx2 => ?_); go_simp)
    | (go_at_call 65; refine (c_add ta.text tb.text _ (by omega) (by omega)).mono ?_; rintro e w3 ⟨rfl, hx3⟩; unfold sumA)
    | (refine upon_depth (ha.mono (hx1.trans (hx2.trans hx3))) ?_; go_simp)
    | (refine upon_depth (hb.mono (hx1.trans (hx2.trans hx3))) ?_; go_simp))
  refine ret_one rfl rfl rfl ⟨_, rfl, .br _ _ _ _ _ (ha.mono (((hx1.trans (hx2.trans hx3)).alloc _))) (hb.mono (((hx1.trans (hx2.trans hx3)).alloc _))) hd ?_, ((hx1.trans (hx2.trans hx3)).alloc _)⟩
  refine (alloc_blk _ _).trans ?_
  rw [← sum_size, show (max (ta.deep : Int) tb.deep + 1) = ((max ta.deep tb.deep + 1 : Nat) : Int) from by omega]
theorem isEmpty_of (s : ByteArray) (h : s.size ≠ 0) : s.toList.isEmpty = false := by
  rw [← decide_eq_emptyBytes s (inst := Classical.propDecidable _)]
  rw [decide_eq_false_iff_not]
  intro e
  subst e
  exact h rfl
theorem c_piece (s : ByteArray) (w : World) (hs : s.size ≤ 256) :
    Calls Tryd.prog 60 #[.string s] w fun e w' => ∃ v, e = .returned v ∧ IsTree w' v (if s.size = 0 then none else some (.leaf s)) ∧ w' = w := by
  by_cases h0 : s.size = 0
  · have hs : s = ByteArray.empty := by
      apply ext_ba
      have : s.data.toList.length = 0 := by rw [len_eq]; exact h0
      rw [List.length_eq_zero_iff.1 this]
      rfl
    subst hs
    go_enter Tryd.func60, Tryd.ntmps60
    go_wp2
    go_ret
    exact ⟨_, rfl, rfl, rfl⟩
  · have h1 := isEmpty_of s h0
    go_enter Tryd.func60, Tryd.ntmps60
    go_wp2
    go_ret
    exact ⟨_, rfl, .leaf s (by omega) hs, rfl⟩
end Go.Proofs.YtohpekbooapcjaaDoor
