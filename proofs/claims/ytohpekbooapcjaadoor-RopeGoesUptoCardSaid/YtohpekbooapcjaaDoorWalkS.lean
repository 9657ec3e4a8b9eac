/-
  The document's rune at a place; edges.
-/
import Derived.Test.YtohpekbooapcjaaDoorWalkR
namespace Go.Proofs.YtohpekbooapcjaaDoor
open Go.RowKit Go.Rp

theorem runeCells_get (l : List (Nat × Nat × Nat)) : ∀ i (h : i < l.length), (runeCells l)[i * 3]? = some (.int .i32 (l[i].1 : Nat)) ∧ (runeCells l)[i * 3 + 1]? = some (.int .i64 (l[i].2.1 : Nat)) ∧ (runeCells l)[i * 3 + 2]? = some (.int .i64 (l[i].2.2 : Nat)) := by
  induction l with
  | nil => intro i h; simp at h
  | cons x r ih =>
    obtain ⟨a, b, c⟩ := x
    intro i h
    cases i with
    | zero => simp [runeCells]
    | succ i =>
      have := ih i (by simpa using h)
      simp only [List.getElem_cons_succ, runeCells]
      rw [show (i + 1) * 3 = i * 3 + 1 + 1 + 1 from by omega, show i * 3 + 1 + 1 + 1 + 1 = (i * 3 + 1) + 1 + 1 + 1 from by omega, show i * 3 + 1 + 1 + 1 + 2 = (i * 3 + 2) + 1 + 1 + 1 from by omega]
      simpa using this
/-- The rune that begins at a place, and its width; none: zeros. -/
def runeAt (M : List (Nat × Nat × Nat)) (q : Int) : Nat × Nat := match M.find? (fun m => ((m.2.1 : Nat) : Int) == q) with
  | some m => (m.1, m.2.2 - m.2.1)
  | none => (0, 0)
theorem marks_all (n : Nat) : ∀ (l : List UInt8) (p : Nat), ∀ m ∈ marks n l p, m.1 ≤ 1114111 ∧ m.2.1 < m.2.2 ∧ m.2.2 ≤ p + l.length := by
  induction n with
  | zero => intro l p m hm; simp [marks] at hm
  | succ n ih =>
    intro l p m hm
    unfold marks at hm
    by_cases h : l = []
    · simp [h] at hm
    · rw [if_neg h] at hm
      have hp := wid_pos l
      have hw := wid_le l h
      simp only [List.mem_cons] at hm
      rcases hm with rfl | hm
      · exact ⟨run_max l, by simp; omega, by simp; omega⟩
      · obtain ⟨h1, h2, h3⟩ := ih _ _ m hm
        simp only [List.length_drop] at h3
        exact ⟨h1, h2, by omega⟩
theorem marks_len (n : Nat) : ∀ (l : List UInt8) (p : Nat), (marks n l p).length ≤ l.length := by
  induction n with
  | zero => intro l p; simp [marks]
  | succ n ih =>
    intro l p
    unfold marks
    by_cases h : l = []
    · simp [h]
    · rw [if_neg h]
      have hp := wid_pos l
      have hw := wid_le l h
      have := ih (l.drop (wid l)) (p + wid l)
      simp only [List.length_cons, List.length_drop] at *
      omega

set_option maxRecDepth 100000 in
set_option maxHeartbeats 2000000 in
theorem c_refRune (s : ByteArray) (q : Int) (w : World) (hs : s.size ≤ 1099511627776) :
    Calls Tryd.prog 44 #[.string s, .int .i64 q] w fun e w' => e = .returned (.tuple #[.int .i32 ((runeAt (marks s.size s.data.toList 0) q).1 : Nat), .int .i64 ((runeAt (marks s.size s.data.toList 0) q).2 : Nat)]) ∧ Ext w w' := by
  have hall := marks_all s.size s.data.toList 0
  have hlen := marks_len s.size s.data.toList 0
  rw [len_eq] at hlen hall
  have hS := c_SRunes s
  generalize marks s.size s.data.toList 0 = M at *
  have HS := Lib.hid hS
  clear hS
  go_enter Tryd.func44, Tryd.ntmps44
  go_wp2_with fail
  refine (HS.out _ hs).mono ?_
  rintro e w1 ⟨v, rfl, hown, hx1⟩
  have hsl : ∃ a cap, v = .slice a M.length cap := by
    rcases hown.2 with ⟨h1, h2⟩ | ⟨g, cap, _, h1, _⟩
    · exact ⟨none, 0, by rw [h1, h2]⟩
    · exact ⟨_, cap, h1⟩
  obtain ⟨ad, cap, rfl⟩ := hsl
  go_wp2_with fail
  go_loop [7] (fun x => ∃ i : Nat, x = .int .i64 i ∧ i ≤ M.length ∧ Hid (∀ j (h : j < M.length), j < i → ((M[j].2.1 : Nat) : Int) ≠ q)) (fun x => M.length - (intOf x).toNat)
  case atStart => exact ⟨0, rfl, by omega, fun j h hj => by omega⟩
  case round =>
    obtain ⟨i, rfl, h1, h2⟩ := hrel
    by_cases hlt : i < M.length
    · have hg : ∃ g, ad = some ⟨g, 0, none⟩ := by
        rcases hown.2 with ⟨_, h2⟩ | ⟨g, cap', _, h1, _⟩
        · omega
        · exact ⟨g, by injection h1⟩
      obtain ⟨g, rfl⟩ := hg
      obtain ⟨k0, k1, k2⟩ := runeCells_get M i hlt
      have d0 := (hown.cellAt (i * 3) (by omega)).trans k0
      have d1 := (hown.cellAt (i * 3 + 1) (by omega)).trans k1
      have d2 := (hown.cellAt (i * 3 + 2) (by omega)).trans k2
      clear k0 k1 k2
      obtain ⟨b0, b1, b2⟩ := hall M[i] (List.getElem_mem hlt)
      by_cases hq : ((M[i].2.1 : Nat) : Int) = q
      · have e : runeAt M q = (M[i].1, M[i].2.2 - M[i].2.1) := by
          unfold runeAt
          rw [List.find?_eq_some_iff_getElem.2 ⟨by simpa using hq, i, hlt, rfl, fun j hj => by
            have := h2.out j (by omega) hj
            simpa using this⟩]
        have E := Lib.hid e
        have b3 : ((M[i].2.2 : Nat) : Int) - q = ((M[i].2.2 - M[i].2.1 : Nat) : Int) := by omega
        have B3 := Lib.hid b3
        clear e b3
        go_wp2_with fail
        have q0 : ∀ w', Ext w1 w' → w'.cell? ⟨g, i * 3, none⟩ = some (.int .i32 (M[i].1 : Nat)) := fun w' hx => hx.cell d0
        have q1 : ∀ w', Ext w1 w' → w'.cell? ⟨g, i * 3 + 1, none⟩ = some (.int .i64 (M[i].2.1 : Nat)) := fun w' hx => hx.cell d1
        have q2 : ∀ w', Ext w1 w' → w'.cell? ⟨g, i * 3 + 2, none⟩ = some (.int .i64 (M[i].2.2 : Nat)) := fun w' hx => hx.cell d2
        clear d0 d1 d2
        refine wp_lex [true, true, true, true, true, true, true, true, true, true, true, true, true, true, true, true, true, true] (by kernel_rfl) (by kernel_rfl) ?_
        repeat first
          | refine wpG_move (by rfl) (by simp only [Act.eval, Array.getD_eq_getD_getElem?, List.getElem?_toArray, List.getElem?_cons_succ, List.getElem?_cons_zero, Option.getD_some]; try rfl) (by simp only [Act.put, List.setIfInBounds_toArray, List.set_cons_succ, List.set_cons_zero]; rfl) ?_
          | refine wpG_assign (by rfl) (by simp only [Act.eval, Array.getD_eq_getD_getElem?, List.getElem?_toArray, List.getElem?_cons_succ, List.getElem?_cons_zero, Option.getD_some]; try rfl) (by simp only [Act.put, List.setIfInBounds_toArray, List.set_cons_succ, List.set_cons_zero]; rfl) ?_
          | refine wpG_val (by rfl) (fun w' hx => (by go_simp; first | (go_bits; first | exact rfl | exact ⟨by omega, rfl⟩) | exact rfl | exact (if_neg (by omega)).trans rfl | exact ⟨by omega, rfl⟩)) (by simp only [Act.put, List.setIfInBounds_toArray, List.set_cons_succ, List.set_cons_zero]; rfl) ?_
          | refine wpG_no (by rfl) (by simp only [Act.put, List.setIfInBounds_toArray, List.set_cons_succ, List.set_cons_zero]; rfl) ?_
        refine wpG_end (fun w2 hx2 => wpList_nil (gQ_normal ?_))
        go_wp2_with fail
        refine ret_two rfl rfl rfl rfl ⟨?_, hx1.trans hx2⟩
        rw [E.out]
        show Ending.returned (.tuple #[_, .int .i64 (((M[i].2.2 : Nat) : Int) - q)]) = _
        rw [B3.out]
        rfl
      · have H2 : Hid (∀ j (h : j < M.length), j < i + 1 → ((M[j].2.1 : Nat) : Int) ≠ q) := fun j h hj => by
          by_cases hji : j = i
          · subst hji; exact hq
          · exact h2.out j h (by omega)
        clear h2
        go_wp2_with fail
        go_round
        case rel => exact ⟨i + 1, by go_num, by omega, H2⟩
        case measure => simp [intOf]; omega
    · have e : runeAt M q = (0, 0) := by
        unfold runeAt
        rw [List.find?_eq_none.2 (fun m hm => by
          obtain ⟨j, hj, rfl⟩ := List.getElem_of_mem hm
          have := h2.out j hj (by omega)
          simpa using this)]
      have E := Lib.hid e
      clear e
      go_wp2_with fail
      exact ret_two rfl rfl rfl rfl ⟨by rw [E.out]; rfl, hx1⟩

theorem runeAt_edge (s : ByteArray) (k : Nat) (hk : k < s.size) : (0 < (runeAt (marks s.size s.data.toList 0) (k : Nat)).2 ↔ edge s.data.toList k) := by
  have he := marks_edge s.size s.data.toList 0 (by rw [len_eq]; omega) k
  have hall := marks_all s.size s.data.toList 0
  generalize marks s.size s.data.toList 0 = M at *
  rw [len_eq] at he
  unfold runeAt
  cases hf : M.find? (fun m => ((m.2.1 : Nat) : Int) == ((k : Nat) : Int)) with
  | none =>
    simp only [Nat.lt_irrefl, false_iff]
    intro hc
    obtain ⟨m, hm, e⟩ := he.2 ⟨by omega, by omega, by simpa using hc⟩
    have := List.find?_eq_none.1 hf m hm
    rw [e] at this
    simp at this
  | some m =>
    have hm := List.mem_of_find?_eq_some hf
    have h1 := List.find?_some hf
    simp only [beq_iff_eq] at h1
    obtain ⟨_, h2, _⟩ := hall m hm
    have h3 := (he.1 ⟨m, hm, by omega⟩).2.2
    simp only [Nat.sub_zero] at h3
    exact ⟨fun _ => h3, fun _ => by show 0 < m.2.2 - m.2.1; omega⟩

end Go.Proofs.YtohpekbooapcjaaDoor
