/-
  Slice, Cut, Insert, Delete, Join.
-/
import Derived.Test.YtohpekbooapcjaaDoorWalkL
namespace Go.Proofs.YtohpekbooapcjaaDoor
open Go.RowKit Go.Rp

theorem ret_three {P : Program} {fn : Func} {R : Ending → World → Prop} {a : Act} {w : World} {v u x : Value} {t s r : Tmp} (hf : fn.results = #[.tmp t, .tmp s, .tmp r]) (hv : a.tmps.getD t undef = v) (hu : a.tmps.getD s undef = u) (hx : a.tmps.getD r undef = x) (hd : a.defers = [])
    (hR : R (.returned (.tuple #[v, u, x])) w) : bodyPost P fn R .ret a w :=
  by
  subst hv; subst hu; subst hx
  exact bodyPost_ret (by simp [results, hf]) hd hR
/-- A new rope of some text, and no error. -/
def NewRope (w : World) (s : ByteArray) (e : Ending) (w' : World) : Prop := ∃ v o, e = .returned (.tuple #[v, .int .i64 0]) ∧ IsRope w' v o ∧ txt o = s ∧ Ext w w'
/-- No rope: an error. -/
def NoRope (w : World) (n : Int) (e : Ending) (w' : World) : Prop := e = .returned (.tuple #[.pointer none, .int .i64 n]) ∧ Ext w w'
theorem node_of {w w' : World} {v : Value} {o : Option T} (h : IsRope w v o) (hx : Ext w w') : ∃ n, IsTree w' n o ∧ Calls Tryd.prog 32 #[v] w' fun e w'' => e = .returned n ∧ w'' = w' := by
  obtain ⟨n, hn, hc⟩ := rope_node h
  exact ⟨n, hn.mono hx, hc w' hx⟩

set_option maxHeartbeats 1000000 in
theorem c_Join (va vb : Value) (oa ob : Option T) (w : World) (hA : IsRope w va oa) (hB : IsRope w vb ob) (hs : (txt oa).size ≤ 1048576) (ht : (txt ob).size ≤ 1048576) (hl : (txt oa).size + (txt ob).size ≤ 1048576) :
    Calls Tryd.prog 24 #[va, vb] w (NewRope w (txt oa ++ txt ob)) := by
  go_enter Tryd.func24, Tryd.ntmps24
  go_wp2_with fail
  refine (c_Len va oa _ hA (by omega)).mono ?_
  rintro e w1 ⟨rfl, hx1⟩
  go_wp2_with fail
  refine (c_Len vb ob _ (hB.mono hx1) (by omega)).mono ?_
  rintro e w2 ⟨rfl, hx2⟩
  go_wp2_with fail
  obtain ⟨na, hna, ca⟩ := node_of hA (hx1.trans hx2)
  refine ca.mono ?_
  rintro e w3 ⟨rfl, rfl⟩
  clear ca
  go_wp2_with fail
  obtain ⟨nb, hnb, cb⟩ := node_of hB (hx1.trans hx2)
  refine cb.mono ?_
  rintro e w4 ⟨rfl, rfl⟩
  clear cb
  go_wp2_with fail
  refine (c_join _ _ oa ob _ hna hnb (by omega)).mono ?_
  rintro e w5 ⟨v5, o5, rfl, hn5, e5, hx5⟩
  have E5 := Lib.hid e5
  clear e5
  rcases hn5.shape with rfl | ⟨T5, x5, rfl⟩
  all_goals
    go_wp2_with fail
    exact ret_two rfl rfl rfl rfl ⟨_, o5, rfl, .mk _ _ o5 (hn5.mono ((Ext.refl _).alloc _)) (alloc_blk _ _), E5.out, (hx1.trans (hx2.trans hx5)).alloc _⟩

theorem c_Join_long (va vb : Value) (oa ob : Option T) (w : World) (hA : IsRope w va oa) (hB : IsRope w vb ob) (hs : (txt oa).size ≤ 1048576) (ht : (txt ob).size ≤ 1048576) (hl : 1048576 < (txt oa).size + (txt ob).size) :
    Calls Tryd.prog 24 #[va, vb] w (NoRope w 1) := by
  go_enter Tryd.func24, Tryd.ntmps24
  go_wp2_with fail
  refine (c_Len va oa _ hA (by omega)).mono ?_
  rintro e w1 ⟨rfl, hx1⟩
  go_wp2_with fail
  refine (c_Len vb ob _ (hB.mono hx1) (by omega)).mono ?_
  rintro e w2 ⟨rfl, hx2⟩
  go_wp2_with fail
  exact ret_two rfl rfl rfl rfl ⟨rfl, hx1.trans hx2⟩

theorem extract_twice (s : ByteArray) (i j : Nat) (hij : i ≤ j) (hj : j ≤ s.size) : (s.extract 0 j).extract i (s.extract 0 j).size = s.extract i j := by
  apply ext_ba
  rw [toList_extract, toList_extract, toList_extract, ByteArray.size_extract]
  simp only [List.drop_zero, Nat.sub_zero]
  rw [show min j s.size = j from by omega, List.drop_take, List.take_take, Nat.min_self]

set_option maxHeartbeats 1000000 in
theorem c_Insert (v : Value) (o : Option T) (k : Nat) (s : ByteArray) (w : World) (h : IsRope w v o) (hs : (txt o).size ≤ 1048576) (hk : k ≤ (txt o).size) (hz : (txt o).size + s.size ≤ 1048576) :
    Calls Tryd.prog 25 #[v, .int .i64 (k : Nat), .string s] w (NewRope w ((txt o).extract 0 k ++ s ++ (txt o).extract k (txt o).size)) := by
  go_enter Tryd.func25, Tryd.ntmps25
  go_wp2_with fail
  refine (c_place_yes v o _ _ h hs (by omega) (by omega)).mono ?_
  rintro e w1 ⟨rfl, hx1⟩
  go_wp2_with fail
  refine (c_Len v o _ (h.mono hx1) (by omega)).mono ?_
  rintro e w2 ⟨rfl, hx2⟩
  go_wp2_with fail
  refine (c_parted v o k _ (h.mono (hx1.trans hx2)) hs hk).mono ?_
  rintro e w3 ⟨l, r, ol, or, rfl, hl, hr, el, er, hx3⟩
  have zl : (txt ol).size = k := by rw [el, ByteArray.size_extract]; omega
  have zr : (txt or).size = (txt o).size - k := by rw [er, ByteArray.size_extract]; omega
  have zl' : (txt ol).size ≤ k := by omega
  have zr' : (txt or).size ≤ (txt o).size := by omega
  have El := Lib.hid el
  have Er := Lib.hid er
  have Z1 := Lib.hid zl
  have Z2 := Lib.hid zr
  clear el er zl zr
  go_wp2_with fail
  refine (c_build s.size s _ (Nat.le_refl _) (by omega)).mono ?_
  rintro e w4 ⟨v4, o4, rfl, hn4, e4, hx4⟩
  have z4 : (txt o4).size ≤ s.size := by rw [e4]; exact Nat.le_refl _
  have E4 := Lib.hid e4
  clear e4
  go_wp2_with fail
  refine (c_join _ _ ol o4 _ (hl.mono hx4) hn4 (by omega)).mono ?_
  rintro e w5 ⟨v5, o5, rfl, hn5, e5, hx5⟩
  have z5 : (txt o5).size ≤ k + s.size := by rw [e5, ByteArray.size_append]; omega
  have E5 := Lib.hid e5
  clear e5
  go_wp2_with fail
  refine (c_join _ _ o5 or _ hn5 (hr.mono (hx4.trans hx5)) (by omega)).mono ?_
  rintro e w6 ⟨v6, o6, rfl, hn6, e6, hx6⟩
  have E6 := Lib.hid e6
  clear e6
  rcases hn6.shape with rfl | ⟨T6, x6, rfl⟩
  all_goals
    go_wp2_with fail
    refine ret_two rfl rfl rfl rfl ⟨_, o6, rfl, .mk _ _ o6 (hn6.mono ((Ext.refl _).alloc _)) (alloc_blk _ _), ?_, (hx1.trans (hx2.trans (hx3.trans (hx4.trans (hx5.trans hx6))))).alloc _⟩
    rw [E6.out, E5.out, E4.out, El.out, Er.out]

theorem c_Insert_no (v : Value) (o : Option T) (k : Int) (s : ByteArray) (w : World) (h : IsRope w v o) (hs : (txt o).size ≤ 1048576) (hk : k < 0 ∨ ((txt o).size : Nat) < k) :
    Calls Tryd.prog 25 #[v, .int .i64 k, .string s] w (NoRope w 200) := by
  go_enter Tryd.func25, Tryd.ntmps25
  go_wp2_with fail
  refine (c_place_no v o _ _ h hs hk).mono ?_
  rintro e w1 ⟨rfl, hx1⟩
  clear hk
  go_wp2_with fail
  exact ret_two rfl rfl rfl rfl ⟨rfl, hx1⟩
theorem c_Insert_long (v : Value) (o : Option T) (k : Nat) (s : ByteArray) (w : World) (h : IsRope w v o) (hs : (txt o).size ≤ 1048576) (ht : s.size ≤ 1099511627776) (hk : k ≤ (txt o).size) (hz : 1048576 < (txt o).size + s.size) :
    Calls Tryd.prog 25 #[v, .int .i64 (k : Nat), .string s] w (NoRope w 1) := by
  go_enter Tryd.func25, Tryd.ntmps25
  go_wp2_with fail
  refine (c_place_yes v o _ _ h hs (by omega) (by omega)).mono ?_
  rintro e w1 ⟨rfl, hx1⟩
  go_wp2_with fail
  refine (c_Len v o _ (h.mono hx1) (by omega)).mono ?_
  rintro e w2 ⟨rfl, hx2⟩
  go_wp2_with fail
  exact ret_two rfl rfl rfl rfl ⟨rfl, hx1.trans hx2⟩
end Go.Proofs.YtohpekbooapcjaaDoor
