/-
  Ropes cut, joined, with a text put in, with a part taken out.
-/
import Derived.Test.YtohpekbooapcjaaDoorWalkK
namespace Go.Proofs.YtohpekbooapcjaaDoor
open Go.RowKit Go.Rp

theorem can_cut {w : World} {v : Value} {t : T} (hn : IsNode w v t) (hs : t.text.size ≤ 1048576) : CanCut w v t.text := by
  induction hn with
  | leaf s h1 h2 => exact fun k hk => ⟨_, _, i_leaf_cut s _, fun w' _ => c_leaf_cut s k w' h2 hk⟩
  | br blk va vb a b ha hb hd hc iha ihb =>
    simp only [T.text, ByteArray.size_append] at hs
    intro k hk
    simp only [T.text, ByteArray.size_append] at hk
    refine ⟨_, _, i_branch_cut _ _, fun w' hx => c_branch_cut blk va vb a b k w' (ha.mono hx) (hb.mono hx) hd (hx.blk hc) hs hk ?_ ?_⟩
    · intro j hj
      obtain ⟨f, args, h1, h2⟩ := iha (by omega) j hj
      exact ⟨f, args, h1, fun w2 hx2 => h2 w2 (hx.trans hx2)⟩
    · intro j hj
      obtain ⟨f, args, h1, h2⟩ := ihb (by omega) j hj
      exact ⟨f, args, h1, fun w2 hx2 => h2 w2 (hx.trans hx2)⟩

theorem IsTree.shape {w : World} {v : Value} {o : Option T} (h : IsTree w v o) : v = .nilIface ∨ ∃ T0 x, v = .iface T0 x := by
  rcases h.iface with ⟨h, _⟩ | ⟨T0, x0, t0, h, _, _⟩
  · exact .inl h
  · exact .inr ⟨T0, x0, h⟩

theorem c_place_yes (v : Value) (o : Option T) (at' : Int) (w : World) (h : IsRope w v o) (hs : (txt o).size ≤ 1048576) (h1 : 0 ≤ at') (h2 : at' ≤ ((txt o).size : Nat)) :
    Calls Tryd.prog 52 #[v, .int .i64 at'] w fun e w' => e = .returned (.bool true) ∧ Ext w w' := by
  go_enter Tryd.func52, Tryd.ntmps52
  go_wp2_with (go_at_call 28; refine (c_Len v o _ h (by omega)).mono ?_; rintro e w1 ⟨rfl, hx1⟩)
  all_goals first
    | exact ret_one rfl rfl rfl ⟨by simp only [*]; try rfl, hx1⟩
theorem c_place_no (v : Value) (o : Option T) (at' : Int) (w : World) (h : IsRope w v o) (hs : (txt o).size ≤ 1048576) (h1 : at' < 0 ∨ ((txt o).size : Nat) < at') :
    Calls Tryd.prog 52 #[v, .int .i64 at'] w fun e w' => e = .returned (.bool false) ∧ Ext w w' := by
  by_cases h0 : at' < 0
  · clear h1
    go_enter Tryd.func52, Tryd.ntmps52
    go_wp2_with fail
    exact ret_one rfl rfl rfl ⟨rfl, Ext.refl w⟩
  · have h3 : 0 ≤ at' := by omega
    have h4 : ((txt o).size : Nat) < at' := by omega
    clear h1
    go_enter Tryd.func52, Tryd.ntmps52
    go_wp2_with (go_at_call 28; refine (c_Len v o _ h (by omega)).mono ?_; rintro e w1 ⟨rfl, hx1⟩)
    exact ret_one rfl rfl rfl ⟨by show Ending.returned (.bool (decide _)) = _; rw [decide_eq_false (by omega)], hx1⟩

set_option maxHeartbeats 1000000 in
theorem c_parted (v : Value) (o : Option T) (k : Nat) (w : World) (h : IsRope w v o) (hs : (txt o).size ≤ 1048576) (hk : k ≤ (txt o).size) :
    Calls Tryd.prog 53 #[v, .int .i64 (k : Nat)] w (CutTo w (txt o) k) := by
  obtain ⟨n, hn, hcall⟩ := rope_node h
  have Hcall := Lib.hid hcall
  clear hcall
  cases h with
  | nil =>
    obtain rfl : n = .nilIface := hn
    go_enter Tryd.func53, Tryd.ntmps53
    go_wp2_with (go_at_call 32; refine (Hcall.out w (Ext.refl w)).mono ?_; rintro e w1 ⟨rfl, rfl⟩)
    have hk0 : k = 0 := by simpa [txt] using hk
    subst hk0
    exact ret_two rfl rfl rfl rfl ⟨_, _, none, none, rfl, rfl, rfl, rfl, rfl, Ext.refl _⟩
  | mk b n' o hn' hc =>
    have hcc := cell_blk hc
    rcases hn'.iface with ⟨rfl, rfl⟩ | ⟨T0, x0, t0, rfl, rfl, hn0⟩
    · have hn1 : n = .nilIface := hn
      subst hn1
      go_enter Tryd.func53, Tryd.ntmps53
      go_wp2_with (go_at_call 32; refine (Hcall.out w (Ext.refl w)).mono ?_; rintro e w1 ⟨rfl, rfl⟩)
      have hk0 : k = 0 := by simpa [txt] using hk
      subst hk0
      exact ret_two rfl rfl rfl rfl ⟨_, _, none, none, rfl, rfl, rfl, rfl, rfl, Ext.refl _⟩
    · obtain ⟨T1, x1, rfl⟩ := (show IsNode w n t0 from hn).iface
      go_enter Tryd.func53, Tryd.ntmps53
      go_wp2_with (go_at_call 32; refine (Hcall.out w (Ext.refl w)).mono ?_; rintro e w1 ⟨rfl, rfl⟩)
      refine upon_cut k (can_cut hn0 hs) (Ext.refl _) hk rfl (fun l r ol or w2 hl hr el er hx2 => ?_)
      have El := Lib.hid el
      have Er := Lib.hid er
      clear el er
      go_simp
      go_wp2_with fail
      exact ret_two rfl rfl rfl rfl ⟨_, _, ol, or, rfl, hl, hr, El.out, Er.out, hx2⟩
end Go.Proofs.YtohpekbooapcjaaDoor
