/-
  The document's answers: parts of a text, texts with a text between them, texts without a part.
-/
import Derived.Test.YtohpekbooapcjaaWalkW
namespace Go.Proofs.Ytohpekbooapcjaa
open Go.RowKit Go.Rp

/-- A place that is none. -/
theorem c_refSlice (s : ByteArray) (i j : Nat) (w : World) (hs : s.size ≤ 1099511627776) (hij : i ≤ j) (hj : j ≤ s.size) :
    Calls Try.prog 51 #[.string s, .int .i64 (i : Nat), .int .i64 (j : Nat)] w fun e w' => e = .returned (.tuple #[.string (s.extract i j), .int .i64 0]) ∧ w' = w := by
  go_enter Try.func51, Try.ntmps51
  go_wp2_with fail
  exact ret_two rfl rfl rfl rfl ⟨rfl, rfl⟩
theorem c_refSlice_no (s : ByteArray) (i j : Int) (w : World) (hs : s.size ≤ 1099511627776) (hn : noPart s i j) :
    Calls Try.prog 51 #[.string s, .int .i64 i, .int .i64 j] w fun e w' => e = .returned (.tuple #[.string ⟨#[]⟩, .int .i64 200]) ∧ w' = w := by
  unfold noPart at hn
  by_cases h1 : i < 0
  · clear hn
    go_enter Try.func51, Try.ntmps51
    go_wp2_with fail
    exact ret_two rfl rfl rfl rfl ⟨rfl, rfl⟩
  by_cases h2 : j < i
  · clear hn
    go_enter Try.func51, Try.ntmps51
    go_wp2_with fail
    exact ret_two rfl rfl rfl rfl ⟨rfl, rfl⟩
  · have h3 : (s.size : Int) < j := by omega
    clear hn
    go_enter Try.func51, Try.ntmps51
    go_wp2_with fail
    exact ret_two rfl rfl rfl rfl ⟨rfl, rfl⟩
set_option maxHeartbeats 1000000 in
theorem c_refDelete (s : ByteArray) (i j : Nat) (w : World) (hs : s.size ≤ 1099511627776) (hij : i ≤ j) (hj : j ≤ s.size) :
    Calls Try.prog 53 #[.string s, .int .i64 (i : Nat), .int .i64 (j : Nat)] w fun e w' => e = .returned (.tuple #[.string (s.extract 0 i ++ s.extract j s.size), .int .i64 0]) ∧ Ext w w' := by
  go_enter Try.func53, Try.ntmps53
  go_wp2_with fail
  have g1 : i ≤ s.size := by omega
  refine wp_lex [true, true, true, true, true, true, true] (by kernel_rfl) (by kernel_rfl) ?_
  repeat first
    | refine wpG_move (by rfl) (by simp only [Act.eval, Array.getD_eq_getD_getElem?, List.getElem?_toArray, List.getElem?_cons_succ, List.getElem?_cons_zero, Option.getD_some]; try rfl) (by simp only [Act.put, List.setIfInBounds_toArray, List.set_cons_succ, List.set_cons_zero]; rfl) ?_
    | refine wpG_assign (by rfl) (by simp only [Act.eval, Array.getD_eq_getD_getElem?, List.getElem?_toArray, List.getElem?_cons_succ, List.getElem?_cons_zero, Option.getD_some]; try rfl) (by simp only [Act.put, List.setIfInBounds_toArray, List.set_cons_succ, List.set_cons_zero]; rfl) ?_
    | refine wpG_val (by rfl) (fun w' hx => (by go_simp; first | (go_bits; first | exact rfl | exact ⟨by omega, rfl⟩) | exact rfl | exact (if_neg (by omega)).trans rfl | exact ⟨by omega, rfl⟩)) (by simp only [Act.put, List.setIfInBounds_toArray, List.set_cons_succ, List.set_cons_zero]; rfl) ?_
    | refine wpG_no (by rfl) (by simp only [Act.put, List.setIfInBounds_toArray, List.set_cons_succ, List.set_cons_zero]; rfl) ?_
  refine wpG_end (fun w1 hx1 => ?_)
  go_wp2_with fail
  refine gQ_gen (fun W => Ext w W) hx1 (fun W hW => ?_)
  go_wp2_with fail
  exact ret_two rfl rfl rfl rfl ⟨rfl, hW⟩
theorem c_refDelete_no (s : ByteArray) (i j : Int) (w : World) (hs : s.size ≤ 1099511627776) (hn : noPart s i j) :
    Calls Try.prog 53 #[.string s, .int .i64 i, .int .i64 j] w fun e w' => e = .returned (.tuple #[.string ⟨#[]⟩, .int .i64 200]) ∧ w' = w := by
  unfold noPart at hn
  by_cases h1 : i < 0
  · clear hn
    go_enter Try.func53, Try.ntmps53
    go_wp2_with fail
    exact ret_two rfl rfl rfl rfl ⟨rfl, rfl⟩
  by_cases h2 : j < i
  · clear hn
    go_enter Try.func53, Try.ntmps53
    go_wp2_with fail
    exact ret_two rfl rfl rfl rfl ⟨rfl, rfl⟩
  · have h3 : (s.size : Int) < j := by omega
    clear hn
    go_enter Try.func53, Try.ntmps53
    go_wp2_with fail
    exact ret_two rfl rfl rfl rfl ⟨rfl, rfl⟩
set_option maxHeartbeats 1000000 in
theorem c_refInsert (s t : ByteArray) (i : Nat) (w : World) (hs : s.size + t.size ≤ 1048576) (hi : i ≤ s.size) :
    Calls Try.prog 52 #[.string s, .int .i64 (i : Nat), .string t] w fun e w' => e = .returned (.tuple #[.string (s.extract 0 i ++ t ++ s.extract i s.size), .int .i64 0]) ∧ Ext w w' := by
  go_enter Try.func52, Try.ntmps52
  go_wp2_with fail
  refine wp_lex [true, true, true, true, true, true, true, true, true] (by kernel_rfl) (by kernel_rfl) ?_
  repeat first
    | refine wpG_move (by rfl) (by simp only [Act.eval, Array.getD_eq_getD_getElem?, List.getElem?_toArray, List.getElem?_cons_succ, List.getElem?_cons_zero, Option.getD_some]; try rfl) (by simp only [Act.put, List.setIfInBounds_toArray, List.set_cons_succ, List.set_cons_zero]; rfl) ?_
    | refine wpG_assign (by rfl) (by simp only [Act.eval, Array.getD_eq_getD_getElem?, List.getElem?_toArray, List.getElem?_cons_succ, List.getElem?_cons_zero, Option.getD_some]; try rfl) (by simp only [Act.put, List.setIfInBounds_toArray, List.set_cons_succ, List.set_cons_zero]; rfl) ?_
    | refine wpG_val (by rfl) (fun w' hx => (by go_simp; first | (go_bits; first | exact rfl | exact ⟨by omega, rfl⟩) | exact rfl | exact (if_neg (by omega)).trans rfl | exact ⟨by omega, rfl⟩)) (by simp only [Act.put, List.setIfInBounds_toArray, List.set_cons_succ, List.set_cons_zero]; rfl) ?_
    | refine wpG_no (by rfl) (by simp only [Act.put, List.setIfInBounds_toArray, List.set_cons_succ, List.set_cons_zero]; rfl) ?_
  refine wpG_end (fun w1 hx1 => ?_)
  go_wp2_with fail
  refine gQ_gen (fun W => Ext w W) hx1 (fun W hW => ?_)
  go_wp2_with fail
  exact ret_two rfl rfl rfl rfl ⟨rfl, hW⟩
theorem c_refInsert_no (s t : ByteArray) (i : Int) (w : World) (hs : s.size ≤ 1099511627776) (hn : i < 0 ∨ (s.size : Int) < i) :
    Calls Try.prog 52 #[.string s, .int .i64 i, .string t] w fun e w' => e = .returned (.tuple #[.string ⟨#[]⟩, .int .i64 200]) ∧ w' = w := by
  by_cases h1 : i < 0
  · clear hn
    go_enter Try.func52, Try.ntmps52
    go_wp2_with fail
    exact ret_two rfl rfl rfl rfl ⟨rfl, rfl⟩
  · have h2 : (s.size : Int) < i := by omega
    clear hn
    go_enter Try.func52, Try.ntmps52
    go_wp2_with fail
    exact ret_two rfl rfl rfl rfl ⟨rfl, rfl⟩
theorem c_refInsert_long (s t : ByteArray) (i : Nat) (w : World) (hs : s.size ≤ 1048576) (ht : t.size ≤ 1099511627776) (h : 1048576 < s.size + t.size) (hi : i ≤ s.size) :
    Calls Try.prog 52 #[.string s, .int .i64 (i : Nat), .string t] w fun e w' => e = .returned (.tuple #[.string ⟨#[]⟩, .int .i64 1]) ∧ w' = w := by
  go_enter Try.func52, Try.ntmps52
  go_wp2_with fail
  exact ret_two rfl rfl rfl rfl ⟨rfl, rfl⟩
end Go.Proofs.Ytohpekbooapcjaa
