/-
 May a text be cut there?
-/
import Derived.Test.YtokeamebcdhnpaaGreatDoorWalkJ
import Derived.Test.YtokeamebcdhnpaaGreatDoorChk
namespace Go.Proofs.YtokeamebcdhnpaaGreatDoor
open Go.RowKit Go.Rp Go.Shelf Go.Maps

theorem sylE_range {r : Int} (h : 44032 ≤ r ∧ r ≤ 55203) : ∀ x ∈ sylE r, 0 ≤ x ∧ x < 16777216 := by
 intro x hx
 unfold sylE at hx
 split at hx <;> simp at hx <;> omega
theorem fal_range {A K : List (Int × List Int)} (hA : GoodT A) (hK : GoodT K) : ∀ (n : Nat) (k : Bool) (r : Int), 0 ≤ r → r < 16777216 → ∀ x ∈ fal A K n k r, 0 ≤ x ∧ x < 16777216 := by
 intro n
 induction n with
 | zero => intro k r h0 h1 x hx; simp [fal] at hx; omega
 | succ n ih =>
  intro k r h0 h1 x hx
  have hf : ∀ {l : List Int}, (∀ y ∈ l, 0 ≤ y ∧ y < 16777216) → x ∈ l.flatMap (fal A K n k) → 0 ≤ x ∧ x < 16777216 := fun hl hx => by
   obtain ⟨y, hy, hx⟩ := List.mem_flatMap.1 hx
   exact ih k y (hl y hy).1 (hl y hy).2 x hx
  unfold fal at hx
  split at hx
  ·rename_i h
   exact sylE_range h x hx
  ·split at hx
   ·rename_i l e
    exact hf (hA.1 _ (lookE_mem e)).2.2 hx
   ·split at hx
    ·split at hx
     ·rename_i l e
      exact hf (hK.1 _ (lookE_mem e)).2.2 hx
     ·simp at hx; omega
    ·simp at hx; omega
theorem c_fallT (nb tB : Nat) (f : Int) (r : Int) (w : World) (h0 : 0 ≤ r) (h1 : r < 16777216) (ht : NTab nb w tB) :
  Calls Tryz.prog 87 #[.pointer (some ⟨tB, 0, none⟩), .int .i32 r, .int .i64 f] w fun e w' => ∃ v, e = .returned v ∧ w'.ownsRow w.heap.size 21 1 v (faT (decide (f = 2 ∨ f = 3)) r).length (i32s (faT (decide (f = 2 ∨ f = 3)) r)) ∧ Ext w w' :=
 c_fall nb tB f _ rfl 5 (Nat.le_refl _) r w h0 h1 (deepT _ _) ht
/-- What is asked of the first rune. -/
noncomputable def firmT (f r : Int) : Bool := decide (odT ((faT (decide (f = 2 ∨ f = 3)) r).headD 0) = 0) && !(decide (f = 1 ∨ f = 3) && scT ((faT (decide (f = 2 ∨ f = 3)) r).headD 0))
end Go.Proofs.YtokeamebcdhnpaaGreatDoor
