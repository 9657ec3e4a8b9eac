/-
  Delete; the errors of Slice and Delete; the document's Slice, Insert, Delete.
-/
import Derived.Test.YtohpekbooapcjaaWalkS
namespace Go.Proofs.Ytohpekbooapcjaa
open Go.RowKit Go.Rp

set_option maxHeartbeats 1000000 in
theorem c_Delete (v : Value) (o : Option T) (i j : Nat) (w : World) (h : IsRope w v o) (hs : (txt o).size ≤ 1048576) (hij : i ≤ j) (hj : j ≤ (txt o).size) :
    Calls Try.prog 19 #[v, .int .i64 (i : Nat), .int .i64 (j : Nat)] w (NewRope w ((txt o).extract 0 i ++ (txt o).extract j (txt o).size)) := by
  go_enter Try.func19, Try.ntmps19
  go_wp2_with fail
  refine (c_place_yes v o _ _ h hs (by omega) (by omega)).mono ?_
  rintro e w1 ⟨rfl, hx1⟩
  go_wp2_with fail
  refine (c_place_yes v o _ _ (h.mono hx1) hs (by omega) (by omega)).mono ?_
  rintro e w2 ⟨rfl, hx2⟩
  go_wp2_with fail
  refine (c_parted v o i _ (h.mono (hx1.trans hx2)) hs (by omega)).mono ?_
  rintro e w3 ⟨l, r, ol, or, rfl, hl, hr, el, er, hx3⟩
  have El := Lib.hid el
  have zl : (txt ol).size ≤ i := by rw [el, ByteArray.size_extract]; omega
  clear el er
  go_wp2_with fail
  refine (c_parted v o j _ (h.mono (hx1.trans (hx2.trans hx3))) hs hj).mono ?_
  rintro e w4 ⟨l2, r2, ol2, or2, rfl, hl2, hr2, el2, er2, hx4⟩
  have Er2 := Lib.hid er2
  have zr : (txt or2).size ≤ (txt o).size := by rw [er2, ByteArray.size_extract]; omega
  clear el2 er2
  go_wp2_with fail
  refine (c_join _ _ ol or2 _ (hl.mono hx4) hr2 (by omega)).mono ?_
  rintro e w5 ⟨v5, o5, rfl, hn5, e5, hx5⟩
  have E5 := Lib.hid e5
  clear e5
  rcases hn5.shape with rfl | ⟨T5, x5, rfl⟩
  all_goals
    go_wp2_with fail
    refine ret_two rfl rfl rfl rfl ⟨_, o5, rfl, .mk _ _ o5 (hn5.mono ((Ext.refl _).alloc _)) (alloc_blk _ _), ?_, (hx1.trans (hx2.trans (hx3.trans (hx4.trans hx5)))).alloc _⟩
    rw [E5.out, El.out, Er2.out]

/-- A part that is none. -/
def noPart (s : ByteArray) (i j : Int) : Prop := i < 0 ∨ (s.size : Int) < i ∨ j < 0 ∨ (s.size : Int) < j ∨ j < i
set_option maxHeartbeats 1000000 in
theorem c_Slice_no (v : Value) (o : Option T) (i j : Int) (w : World) (h : IsRope w v o) (hs : (txt o).size ≤ 1048576) (hn : noPart (txt o) i j) :
    Calls Try.prog 22 #[v, .int .i64 i, .int .i64 j] w (NoRope w 200) := by
  unfold noPart at hn
  by_cases h1 : i < 0 ∨ ((txt o).size : Int) < i
  · clear hn
    go_enter Try.func22, Try.ntmps22
    go_wp2_with fail
    refine (c_place_no v o _ _ h hs h1).mono ?_
    rintro e w1 ⟨rfl, hx1⟩
    clear h1
    go_wp2_with fail
    exact ret_two rfl rfl rfl rfl ⟨rfl, hx1⟩
  · have a1 : 0 ≤ i := by omega
    have a2 : i ≤ (txt o).size := by omega
    by_cases h2 : j < 0 ∨ ((txt o).size : Int) < j
    · clear hn h1
      go_enter Try.func22, Try.ntmps22
      go_wp2_with fail
      refine (c_place_yes v o _ _ h hs a1 a2).mono ?_
      rintro e w1 ⟨rfl, hx1⟩
      go_wp2_with fail
      refine (c_place_no v o _ _ (h.mono hx1) hs h2).mono ?_
      rintro e w2 ⟨rfl, hx2⟩
      clear h2
      go_wp2_with fail
      exact ret_two rfl rfl rfl rfl ⟨rfl, hx1.trans hx2⟩
    · have a3 : 0 ≤ j := by omega
      have a4 : j ≤ (txt o).size := by omega
      have a5 : j < i := by omega
      clear hn h1 h2
      go_enter Try.func22, Try.ntmps22
      go_wp2_with fail
      refine (c_place_yes v o _ _ h hs a1 a2).mono ?_
      rintro e w1 ⟨rfl, hx1⟩
      go_wp2_with fail
      refine (c_place_yes v o _ _ (h.mono hx1) hs a3 a4).mono ?_
      rintro e w2 ⟨rfl, hx2⟩
      go_wp2_with fail
      exact ret_two rfl rfl rfl rfl ⟨rfl, hx1.trans hx2⟩
end Go.Proofs.Ytohpekbooapcjaa
