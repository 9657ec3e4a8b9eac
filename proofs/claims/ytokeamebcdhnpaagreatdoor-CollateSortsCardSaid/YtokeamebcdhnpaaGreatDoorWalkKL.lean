/-
 May a text be cut there? The elements of a text.
-/
import Derived.Test.YtokeamebcdhnpaaGreatDoorWalkIJ
import Derived.Test.YtokeamebcdhnpaaGreatDoorChk
import Derived.Test.YtokeamebcdhnpaaGreatDoorPlainM
import Derived.RangeFuncBox
import Derived.WalkSmall
import Derived.Lib.OthersKept
section
namespace Go.Proofs.YtokeamebcdhnpaaGreatDoor
open Go.RowKit Go.Rp Go.Shelf Go.Maps

theorem sylE_range {r : Int} (h : 44032 ≤ r ∧ r ≤ 55203) : ∀ x ∈ sylE r, 0 ≤ x ∧ x < 16777216 := by
 intro x hx
 unfold sylE at hx
 split at hx <;> simp at hx <;> omega
theorem fal_range {A K : List (Int × List Int)} (hA : GoodT A) (hK : GoodT K) : ∀ (n : Nat) (k : Bool) (r : Int), 0 ≤ r → r < 16777216 → ∀ x ∈ fal A K n k r, 0 ≤ x ∧ x < 16777216 := by
 intro n
 induction n with
 | zero => intro k r h0 h1 x hx; simp [fal] at hx; omega
 | succ n ih =>
  intro k r h0 h1 x hx
  have hf : ∀ {l : List Int}, (∀ y ∈ l, 0 ≤ y ∧ y < 16777216) → x ∈ l.flatMap (fal A K n k) → 0 ≤ x ∧ x < 16777216 := fun hl hx => by
   obtain ⟨y, hy, hx⟩ := List.mem_flatMap.1 hx
   exact ih k y (hl y hy).1 (hl y hy).2 x hx
  unfold fal at hx
  split at hx
  ·rename_i h
   exact sylE_range h x hx
  ·split at hx
   ·rename_i l e
    exact hf (hA.1 _ (lookE_mem e)).2.2 hx
   ·split at hx
    ·split at hx
     ·rename_i l e
      exact hf (hK.1 _ (lookE_mem e)).2.2 hx
     ·simp at hx; omega
    ·simp at hx; omega
theorem c_fallT (nb tB : Nat) (f : Int) (r : Int) (w : World) (h0 : 0 ≤ r) (h1 : r < 16777216) (ht : NTab nb w tB) :
  Calls Tryz.prog 87 #[.pointer (some ⟨tB, 0, none⟩), .int .i32 r, .int .i64 f] w fun e w' => ∃ v, e = .returned v ∧ w'.ownsRow w.heap.size 21 1 v (faT (decide (f = 2 ∨ f = 3)) r).length (i32s (faT (decide (f = 2 ∨ f = 3)) r)) ∧ Ext w w' :=
 c_fall nb tB f _ rfl 5 (Nat.le_refl _) r w h0 h1 (deepT _ _) ht
end Go.Proofs.YtokeamebcdhnpaaGreatDoor
end

section
namespace Go.Proofs.YtokeamebcdhnpaaGreatDoor
open Go.RowKit Go.Rp Go.Shelf Go.Maps Go.Nm

def elV (x : El) : List Value := [.int .i32 x.r, .int .i64 x.ord, .int .i64 (if x.bad = true then 1 else 0)]
def elCells (l : List El) : List Value := l.flatMap elV
theorem elCells_length (l : List El) : (elCells l).length = l.length * 3 := by
 induction l with
 | nil => rfl
 | cons x t ih => simp [elCells, elV] at ih ⊢; omega
theorem elCells_append (a b : List El) : elCells (a ++ b) = elCells a ++ elCells b := by simp [elCells]
theorem els_append (k : Bool) (a b : List (Int × Bool)) : tbT.els k (a ++ b) = tbT.els k a ++ tbT.els k b := by simp [Tb.els]
theorem infoEl : (Tryz.prog.info? 146).map (fun i => (i.zero, i.size, i.bytes)) = some (some (.agg #[.int .i32 0, .int .i64 0, .int .i64 0]), 3, 24) := by kernel_rfl
theorem wrap32_small {n : Int} (h0 : 0 ≤ n) (h1 : n < 2147483648) : wrap32 n = n := by unfold wrap32; omega
theorem cell3_new (w : World) (a b c : Value) (t : TypeId) : ∀ (j : Nat) u, [a, b, c][j]? = some u → (w.alloc (.cells #[a, b, c] t)).cell? ((⟨w.heap.size, 0, none⟩ : Addr).add j) = some u := by
 intro j u h
 have hadd : (⟨w.heap.size, 0, none⟩ : Addr).add j = ⟨w.heap.size, j, none⟩ := by unfold Addr.add; split <;> simp_all
 rw [hadd, cell_blk (World.alloc_heap_new w _) j]
 simpa using h
theorem row_ne {W : World} {b1 b2 e1 e2 s1 s2 k1 k2 : Nat} {v1 v2 : Value} {x1 x2 : List Value} (h1 : W.ownsRow b1 e1 s1 v1 k1 x1) (h2 : W.ownsRow b2 e2 s2 v2 k2 x2) (hne : e1 ≠ e2) : v1.ownBlock = none ∨ v1.ownBlock ≠ v2.ownBlock := by
 rcases h1.2 with ⟨rfl, _⟩ | ⟨g, cap, cur, rfl, _, hg, _⟩
 ·exact .inl rfl
 ·right
  rcases h2.2 with ⟨rfl, _⟩ | ⟨g', cap', cur', rfl, _, hg', _⟩
  ·simp [Value.ownBlock]
  ·intro e
   obtain rfl : g = g' := by simpa [Value.ownBlock] using e
   rw [hg] at hg'
   simp only [Option.some.injEq, Obj.cells.injEq] at hg'
   exact hne hg'.2.1
end Go.Proofs.YtokeamebcdhnpaaGreatDoor
end
