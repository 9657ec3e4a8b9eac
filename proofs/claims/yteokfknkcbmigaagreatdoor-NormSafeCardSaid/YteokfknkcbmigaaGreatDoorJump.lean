/-
  A scope in which the run jumps back to one label, and out of its rounds forward to another.
-/
import Derived.Scope
import Derived.WalkMore
namespace Go
/-- As Q; by a goto to label l: J; by one to label l0: J0. -/
def Exit.jump2 (l0 : Nat) (J0 : Act → World → Prop) (l : Nat) (J : Act → World → Prop) (Q : Exit → Act → World → Prop) : Exit → Act → World → Prop
  | .goto l', a, w => (l' = l ∧ J a w) ∨ (l' = l0 ∧ J0 a w)
  | e, a, w => Q e a w
section
variable {P : Program} {a : Act} {w : World} {Q : Exit → Act → World → Prop} {l0 l : Nat} {J0 J : Act → World → Prop}
theorem Exit.jump2_normal : Exit.jump2 l0 J0 l J Q .normal a w = Q .normal a w := rfl
theorem Exit.jump2_ret : Exit.jump2 l0 J0 l J Q .ret a w = Q .ret a w := rfl
theorem wp_scope_two {c rest rest0 : Code} (l0 l : Nat) (J0 J : Act → World → Prop) (μ : Act → World → Nat) (hf : findLabel c l = some rest) (hf0 : findLabel c l0 = some rest0)
    (first : c.wp P (Exit.jump2 l0 J0 l J Q) a w)
    (pass : ∀ a w, J a w → rest.wp P (Exit.jump2 l0 J0 l (fun a' w' => J a' w' ∧ μ a' w' < μ a w) Q) a w)
    (last : ∀ a w, J0 a w → rest0.wp P (Exit.noGoto Q) a w) : (Code.scope c).wp P Q a w := by
  intro b k cs
  have hg : gotoIn l (.inScope c :: k) = some (.code rest :: .inScope c :: k) := by simp [gotoIn, hf]
  have hg0 : gotoIn l0 (.inScope c :: k) = some (.code rest0 :: .inScope c :: k) := by simp [gotoIn, hf0]
  have end0 : ∀ a w, J0 a w → ∃ e a' w', Q e a' w' ∧ Arrives P (lone (b.at a (.code rest0 :: .inScope c :: k)) cs w) b k cs e a' w' := by
    intro a w hJ
    obtain ⟨e, a₁, w₁, hq, harr⟩ := last a w hJ b (.inScope c :: k) cs
    cases e with
    | normal => exact ⟨.normal, a₁, w₁, hq, Steps.trans harr (.one step_inScope)⟩
    | exit id => exact ⟨.exit id, a₁, w₁, hq, fun k' hk => harr k' (by simp [exitTo, hk])⟩
    | goto l' => exact absurd hq (by simp [Exit.noGoto])
    | ret => exact ⟨_, a₁, w₁, hq, harr⟩
    | panic ch => exact ⟨_, a₁, w₁, hq, harr⟩
    | outgrown => exact ⟨_, a₁, w₁, hq, harr⟩
  have key : ∀ n a w, μ a w = n → J a w → ∃ e a' w', Q e a' w' ∧ Arrives P (lone (b.at a (.code rest :: .inScope c :: k)) cs w) b k cs e a' w' := by
    intro n
    induction n using Nat.strongRecOn with
    | _ n ih =>
      intro a w hn hJ
      obtain ⟨e, a₁, w₁, hq, harr⟩ := pass a w hJ b (.inScope c :: k) cs
      cases e with
      | normal => exact ⟨.normal, a₁, w₁, hq, Steps.trans harr (.one step_inScope)⟩
      | exit id => exact ⟨.exit id, a₁, w₁, hq, fun k' hk => harr k' (by simp [exitTo, hk])⟩
      | goto l' =>
        rcases hq with ⟨rfl, hJ', hlt⟩ | ⟨rfl, hJ'⟩
        · obtain ⟨e₂, a₂, w₂, hq₂, harr₂⟩ := ih _ (by omega) a₁ w₁ rfl hJ'
          exact ⟨e₂, a₂, w₂, hq₂, .of_steps (harr _ hg) harr₂⟩
        · obtain ⟨e₂, a₂, w₂, hq₂, harr₂⟩ := end0 a₁ w₁ hJ'
          exact ⟨e₂, a₂, w₂, hq₂, .of_steps (harr _ hg0) harr₂⟩
      | ret => exact ⟨_, a₁, w₁, hq, harr⟩
      | panic ch => exact ⟨_, a₁, w₁, hq, harr⟩
      | outgrown => exact ⟨_, a₁, w₁, hq, harr⟩
  obtain ⟨e, a₁, w₁, hq, harr⟩ := first b (.inScope c :: k) cs
  cases e with
  | normal => exact ⟨.normal, a₁, w₁, hq, .head step_scope (Steps.trans harr (.one step_inScope))⟩
  | exit id => exact ⟨.exit id, a₁, w₁, hq, fun k' hk => .head step_scope (harr k' (by simp [exitTo, hk]))⟩
  | goto l' =>
    rcases hq with ⟨rfl, hJ'⟩ | ⟨rfl, hJ'⟩
    · obtain ⟨e₂, a₂, w₂, hq₂, harr₂⟩ := key _ a₁ w₁ rfl hJ'
      exact ⟨e₂, a₂, w₂, hq₂, .of_steps (.head step_scope (harr _ hg)) harr₂⟩
    · obtain ⟨e₂, a₂, w₂, hq₂, harr₂⟩ := end0 a₁ w₁ hJ'
      exact ⟨e₂, a₂, w₂, hq₂, .of_steps (.head step_scope (harr _ hg0)) harr₂⟩
  | ret => exact ⟨_, a₁, w₁, hq, .of_steps (.one step_scope) harr⟩
  | panic ch => exact ⟨_, a₁, w₁, hq, .of_steps (.one step_scope) harr⟩
  | outgrown => exact ⟨_, a₁, w₁, hq, .of_steps (.one step_scope) harr⟩
theorem wp_skip_seq {c : Code} (h : c.wp P Q a w) : (Code.skip.seq c).wp P Q a w := by
  apply wp_seq
  apply wp_skip
  exact h
theorem wp_scope_two' {c rest rest0 : Code} (l0 l : Nat) (J0 J : Act → World → Prop) (μ : Act → World → Nat) (hf : findLabel c l = some (Code.skip.seq rest)) (hf0 : findLabel c l0 = some rest0)
    (first : (∀ a w, J a w → rest.wp P (Exit.jump2 l0 J0 l (fun a' w' => J a' w' ∧ μ a' w' < μ a w) Q) a w) → c.wp P (Exit.jump2 l0 J0 l J Q) a w)
    (pass : ∀ a w, J a w → rest.wp P (Exit.jump2 l0 J0 l (fun a' w' => J a' w' ∧ μ a' w' < μ a w) Q) a w)
    (last : ∀ a w, J0 a w → rest0.wp P (Exit.noGoto Q) a w) : (Code.scope c).wp P Q a w :=
  wp_scope_two l0 l J0 J μ hf hf0 (first pass) (fun a w h => wp_skip_seq (pass a w h)) last
/-- What the first round does is what every round does. -/
theorem wp_as_pass {c : Code} {l0 l : Nat} {J0 J J' : Act → World → Prop} (h : c.wp P (Exit.jump2 l0 J0 l J' Q) a w) (hj : ∀ a w, J' a w → J a w) : c.wp P (Exit.jump2 l0 J0 l J Q) a w := by
  intro b k cs
  obtain ⟨e, a', w', hq, harr⟩ := h b k cs
  refine ⟨e, a', w', ?_, harr⟩
  cases e with
  | goto l' => exact hq.imp (fun h => ⟨h.1, hj _ _ h.2⟩) id
  | _ => exact hq
end
end Go
