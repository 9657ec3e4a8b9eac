/-
  The bounds of a text's letters.
-/
import Derived.Test.YtlmkbldiicbejaaGreatDoorGaA
namespace Go.Proofs.YtlmkbldiicbejaaGreatDoor
open Go.RowKit Go.Rp Go.Maps Go.Cl Go.Shelf Go.Gr

theorem calls_arg {P : Program} {f : FuncId} {u v : Value} {w : World} {R : Ending → World → Prop} (h : u = v) (hc : Calls P f #[v] w R) : Calls P f #[u] w R := h ▸ hc
set_option maxRecDepth 100000 in
set_option maxHeartbeats 4000000 in
theorem c_gdb (w : World) (hT : TabsW w) :
    Calls Tryz.prog 145 #[] w fun e w' => ∃ db, e = .returned (.pointer (some ⟨db, 0, none⟩)) ∧ DbIs w' db (namesP textGp.data.toList) rngG ∧ Ext w w' := by
  have HN := Lib.hid (c_New textGp.data.toList w hT (textB_spec textGp_ok))
  go_enter Tryz.func145, Tryz.ntmps145
  go_wp2_with fail
  refine calls_arg (v := .string ⟨textGp.data.toList.toArray⟩) (by kernel_rfl) (HN.out.mono ?_)
  rintro e w1 ⟨db, rfl, h1, h2⟩
  have HD := Lib.hid (And.intro h1 h2)
  clear h1 h2 HN
  go_wp2_with fail
  exact ret_one rfl rfl rfl ⟨db, rfl, HD.out⟩
theorem c_gends (x : Nat) (w : World) : Calls Tryz.prog 167 #[.int .i64 (x : Nat)] w fun e w' => e = .returned (.bool (endsC x)) ∧ w' = w := by
  have e1 : ((x : Int) == 1) = (x == 1) := by rw [Bool.eq_iff_iff]; simp; omega
  have e2 : ((x : Int) == 2) = (x == 2) := by rw [Bool.eq_iff_iff]; simp; omega
  have e3 : ((x : Int) == 3) = (x == 3) := by rw [Bool.eq_iff_iff]; simp; omega
  go_enter Tryz.func167, Tryz.ntmps167
  go_wp2
  all_goals refine ret_one rfl rfl rfl ⟨?_, rfl⟩
  · exact congrArg (fun b => Ending.returned (.bool b)) (by simp [endsC]; omega)
  · exact congrArg (fun b => Ending.returned (.bool b)) (by simp [endsC]; omega)
  · exact congrArg (fun b => Ending.returned (.bool b)) (by simp [endsC])
/-- A number is one of some, or none of them. -/
def NotIn (x : Nat) (l : List Nat) : Prop := ∀ k ∈ l, ((x : Int) == (k : Int)) = false
theorem notIn {x : Nat} {l : List Nat} (h : x ∉ l) : NotIn x l := fun k hk => by
  have : x ≠ k := fun e => h (e ▸ hk)
  simp; omega
set_option maxRecDepth 100000 in
set_option maxHeartbeats 8000000 in
theorem c_gjoins (x y : Nat) (w : World) : Calls Tryz.prog 147 #[.int .i64 (x : Nat), .int .i64 (y : Nat)] w fun e w' => e = .returned (.bool (joinsC x y)) ∧ w' = w := by
  have HX := c_gends x w
  have HY := c_gends y w
  obtain ⟨a, ha⟩ : ∃ a, endsC x = a := ⟨_, rfl⟩
  obtain ⟨b, hb⟩ : ∃ b, endsC y = b := ⟨_, rfl⟩
  rw [ha] at HX
  rw [hb] at HY
  have HA := Lib.hid ha
  have HB := Lib.hid hb
  clear ha hb
  by_cases hx : x ∈ [1, 7, 8, 9, 10, 11]
  · by_cases hy : y ∈ [2, 4, 5, 6, 8, 9, 10, 11]
    · simp only [List.mem_cons, List.not_mem_nil, or_false] at hx hy
      rcases hx with rfl | rfl | rfl | rfl | rfl | rfl <;> rcases hy with rfl | rfl | rfl | rfl | rfl | rfl | rfl | rfl
      all_goals
        have ha := HA.out
        have hb := HB.out
        clear HA HB
        simp [endsC] at ha hb
        subst ha hb
        go_enter Tryz.func147, Tryz.ntmps147
        go_wp2_with fail
        all_goals try (refine HX.mono ?_; rintro e w1 ⟨rfl, rfl⟩; go_wp2_with fail)
        all_goals try (refine HY.mono ?_; rintro e w1 ⟨rfl, rfl⟩; go_wp2_with fail)
        all_goals refine ret_one rfl rfl rfl ⟨congrArg (fun b => Ending.returned (.bool b)) ?_, rfl⟩
        all_goals rfl
    · have HY0 := Lib.hid hy
      have hy2 := notIn hy
      have y2 : ((y : Int) == 2) = false := hy2 2 (by decide)
      have y4 : ((y : Int) == 4) = false := hy2 4 (by decide)
      have y5 : ((y : Int) == 5) = false := hy2 5 (by decide)
      have y6 : ((y : Int) == 6) = false := hy2 6 (by decide)
      have y8 : ((y : Int) == 8) = false := hy2 8 (by decide)
      have y9 : ((y : Int) == 9) = false := hy2 9 (by decide)
      have y10 : ((y : Int) == 10) = false := hy2 10 (by decide)
      have y11 : ((y : Int) == 11) = false := hy2 11 (by decide)
      simp only [List.mem_cons, List.not_mem_nil, or_false] at hx
      clear hy hy2
      rcases hx with rfl | rfl | rfl | rfl | rfl | rfl <;> rcases b with _ | _
      all_goals
        have ha := HA.out
        clear HA
        simp [endsC] at ha
        subst ha
        go_enter Tryz.func147, Tryz.ntmps147
        go_wp2_with fail
        all_goals try (refine HX.mono ?_; rintro e w1 ⟨rfl, rfl⟩; go_wp2_with fail)
        all_goals try (refine HY.mono ?_; rintro e w1 ⟨rfl, rfl⟩; go_wp2_with fail)
        all_goals refine ret_one rfl rfl rfl ⟨congrArg (fun b => Ending.returned (.bool b)) ?_, rfl⟩
        all_goals (have h1 := HB.out; have h2 := HY0.out; simp only [List.mem_cons, List.not_mem_nil, or_false, not_or] at h2; simp [joinsC, h1, h2, show endsC 1 = true from rfl, show endsC 7 = false from rfl, show endsC 8 = false from rfl, show endsC 9 = false from rfl, show endsC 10 = false from rfl, show endsC 11 = false from rfl])
  · have HX0 := Lib.hid hx
    have hx2 := notIn hx
    have x1 : ((x : Int) == 1) = false := hx2 1 (by decide)
    have x7 : ((x : Int) == 7) = false := hx2 7 (by decide)
    have x8 : ((x : Int) == 8) = false := hx2 8 (by decide)
    have x9 : ((x : Int) == 9) = false := hx2 9 (by decide)
    have x10 : ((x : Int) == 10) = false := hx2 10 (by decide)
    have x11 : ((x : Int) == 11) = false := hx2 11 (by decide)
    clear hx hx2
    by_cases hy : y ∈ [2, 4, 5, 6, 8, 9, 10, 11]
    · simp only [List.mem_cons, List.not_mem_nil, or_false] at hy
      rcases hy with rfl | rfl | rfl | rfl | rfl | rfl | rfl | rfl <;> rcases a with _ | _
      all_goals
        have hb := HB.out
        clear HB
        simp [endsC] at hb
        subst hb
        go_enter Tryz.func147, Tryz.ntmps147
        go_wp2_with fail
        all_goals try (refine HX.mono ?_; rintro e w1 ⟨rfl, rfl⟩; go_wp2_with fail)
        all_goals try (refine HY.mono ?_; rintro e w1 ⟨rfl, rfl⟩; go_wp2_with fail)
        all_goals refine ret_one rfl rfl rfl ⟨congrArg (fun b => Ending.returned (.bool b)) ?_, rfl⟩
        all_goals (have h1 := HA.out; have h2 := HX0.out; simp only [List.mem_cons, List.not_mem_nil, or_false, not_or] at h2; simp [joinsC, h1, h2, show endsC 2 = true from rfl, show endsC 4 = false from rfl, show endsC 5 = false from rfl, show endsC 6 = false from rfl, show endsC 8 = false from rfl, show endsC 9 = false from rfl, show endsC 10 = false from rfl, show endsC 11 = false from rfl])
    · have HY0 := Lib.hid hy
      have hy2 := notIn hy
      have y2 : ((y : Int) == 2) = false := hy2 2 (by decide)
      have y4 : ((y : Int) == 4) = false := hy2 4 (by decide)
      have y5 : ((y : Int) == 5) = false := hy2 5 (by decide)
      have y6 : ((y : Int) == 6) = false := hy2 6 (by decide)
      have y8 : ((y : Int) == 8) = false := hy2 8 (by decide)
      have y9 : ((y : Int) == 9) = false := hy2 9 (by decide)
      have y10 : ((y : Int) == 10) = false := hy2 10 (by decide)
      have y11 : ((y : Int) == 11) = false := hy2 11 (by decide)
      clear hy hy2
      rcases a with _ | _ <;> rcases b with _ | _
      all_goals
        go_enter Tryz.func147, Tryz.ntmps147
        go_wp2_with fail
        all_goals try (refine HX.mono ?_; rintro e w1 ⟨rfl, rfl⟩; go_wp2_with fail)
        all_goals try (refine HY.mono ?_; rintro e w1 ⟨rfl, rfl⟩; go_wp2_with fail)
        all_goals refine ret_one rfl rfl rfl ⟨congrArg (fun b => Ending.returned (.bool b)) ?_, rfl⟩
        all_goals (have h1 := HA.out; have h3 := HB.out; have h2 := HX0.out; have h4 := HY0.out; simp only [List.mem_cons, List.not_mem_nil, or_false, not_or] at h2 h4; simp [joinsC, h1, h2, h3, h4])
end Go.Proofs.YtlmkbldiicbejaaGreatDoor
