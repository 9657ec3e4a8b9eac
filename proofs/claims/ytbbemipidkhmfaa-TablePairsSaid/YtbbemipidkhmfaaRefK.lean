/-
  A row of ranges of the call's own: one of them read, one of them laid anew.
-/
import Derived.Test.YtbbemipidkhmfaaWalkK
namespace Go.Proofs.Ytbbemipidkhmfaa
open Go.RowKit Go.Maps Go.Shelf

theorem own_slice {W : World} {n₀ size n : Nat} {e : TypeId} {v : Value} {xs : List Value} (h : W.ownsRow n₀ e size v n xs) : ∃ p cap, v = .slice p n cap := by
  rcases h.2 with ⟨e, h0⟩ | ⟨g, cap, _, rfl, _⟩
  · exact ⟨none, 0, by subst e; simp_all⟩
  · exact ⟨_, _, rfl⟩
theorem rows_kept {W W' : World} {n₀ n₁ s1 s2 k1 k2 : Nat} {e1 e2 : TypeId} {v1 v2 : Value} {xs1 xs2 : List Value} (h1 : W.ownsRow n₀ e1 s1 v1 k1 xs1) (h2 : W.ownsRow n₁ e2 s2 v2 k2 xs2) (hne : e1 ≠ e2) (hg : W.grownBy W' v2.ownBlock) : W'.ownsRow n₀ e1 s1 v1 k1 xs1 := by
  refine h1.kept hg ?_
  rcases h1.2 with ⟨rfl, _⟩ | ⟨g, cap, cur, rfl, _, hb, _⟩
  · exact .inl rfl
  · right
    intro e
    have e' : v2.ownBlock = some g := e.symm
    rcases h2.2 with ⟨rfl, _⟩ | ⟨g2, cap2, cur2, rfl, _, hb2, _⟩
    · simp [Value.ownBlock] at e'
    · obtain rfl : g2 = g := by simpa [Value.ownBlock] using e'
      rw [hb] at hb2
      simp only [Option.some.injEq, Obj.cells.injEq] at hb2
      exact hne hb2.2.1
theorem own_getR {W : World} {n₀ g n cap : Nat} {m : List Rng} (h : W.ownsRow n₀ 32 3 (.slice (some ⟨g, 0, none⟩) n cap) n (rgCells m)) (i : Nat) (hi : i < n) (him : i < m.length) :
    W.cell? ⟨g, i * 3, none⟩ = some (.int .i32 m[i].lo) ∧ W.cell? ⟨g, i * 3 + 1, none⟩ = some (.int .i32 m[i].hi) ∧ W.cell? ⟨g, i * 3 + 2, none⟩ = some (.int .i64 m[i].cl) := by
  obtain ⟨y, hy⟩ : ∃ y, m[i] = y := ⟨_, rfl⟩
  have hmx : m = m.take i ++ y :: m.drop (i + 1) := by rw [← hy, ← List.drop_eq_getElem_cons him, List.take_append_drop]
  obtain ⟨a1, a2, a3⟩ := rgCells_get (m.take i) y (m.drop (i + 1))
  rw [← hmx, List.length_take, Nat.min_eq_left (by omega)] at a1 a2 a3
  rw [hy]
  exact ⟨(h.cellAt (i * 3) (by omega)).trans a1, (h.cellAt (i * 3 + 1) (by omega)).trans a2, (h.cellAt (i * 3 + 2) (by omega)).trans a3⟩
/-- The world with one range laid anew. -/
def setR (W : World) (g i : Nat) (x : Rng) : World := ((W.setCell ⟨g, i * 3, none⟩ (.int .i32 x.lo)).setCell ⟨g, i * 3 + 1, none⟩ (.int .i32 x.hi)).setCell ⟨g, i * 3 + 2, none⟩ (.int .i64 x.cl)
theorem own_setR {W : World} {n₀ g n cap : Nat} {m : List Rng} (h : W.ownsRow n₀ 32 3 (.slice (some ⟨g, 0, none⟩) n cap) n (rgCells m)) (i : Nat) (him : i < m.length) (x : Rng) :
    (setR W g i x).ownsRow n₀ 32 3 (.slice (some ⟨g, 0, none⟩) n cap) n (rgCells (m.set i x)) ∧ (n₀ ≤ W.heap.size → Below n₀ W (setR W g i x)) ∧ W.grownBy (setR W g i x) (some g) := by
  obtain ⟨s1, g1⟩ := h.stored (i * 3) (.int .i32 x.lo)
  obtain ⟨s2, g2⟩ := s1.stored (i * 3 + 1) (.int .i32 x.hi)
  obtain ⟨s3, g3⟩ := s2.stored (i * 3 + 2) (.int .i64 x.cl)
  rw [rgCells_set m i x him] at s3
  have hgl := h.lt g rfl
  refine ⟨s3, fun h0 => ?_, (g1.trans g2).trans g3⟩
  have hb1 := (Below.refl n₀ W).grown g1 h0 (fun k e => by cases e; exact hgl.1)
  have hb2 := hb1.grown g2 (by have := hb1.size; omega) (fun k e => by cases e; exact hgl.1)
  exact hb2.grown g3 (by have := hb2.size; omega) (fun k e => by cases e; exact hgl.1)
/-- One range laid, at the operation. -/
theorem wpList_storeR {ops : Array Oper} {rest : List Oper} {o : Oper} {a : Act} {w : World} {Q : Exit → Act → World → Prop} (hg : o.guard = none) (x y : Operand) (ho : o.op = .store 32 x y)
    {n₀ g n cap i off : Nat} {m : List Rng} (r : Rng) (hx : a.eval x = .pointer (some ⟨g, off, none⟩)) (hy : a.eval y = rgA r) (hoff : off = i * 3) (h : w.ownsRow n₀ 32 3 (.slice (some ⟨g, 0, none⟩) n cap) n (rgCells m)) (hn : i < n)
    (hK : wpList Try.prog ops Q rest (a.put o.dst undef) (setR w g i r)) : wpList Try.prog ops Q (o :: rest) a w := by
  refine wpList_plain hg fun K' hK' => ?_
  subst hoff
  have hrun : (Instr.storeAt 32 (.pointer (some ⟨g, i * 3, none⟩)) (rgA r)).run Try.prog w = .ok () (setR w g i r) := by
    simp only [Instr.storeAt, Instr.sureAddr, Sem.run_bind, Sem.run_pure, Result.andThen]
    have hst := run_storeCells_cells (P := Try.prog) g (i * 3) (rgV r) 0 w (fun j hj => by
      have hj3 : j < 3 := hj
      have hl := h.1
      rw [Nat.add_zero, h.cellAt (i * 3 + j) (by omega), List.getElem?_eq_getElem (by omega)]
      rfl) (fun j _ => h.frozenAt _) (by intro v hv; simp [rgV] at hv; rcases hv with rfl | rfl | rfl <;> rfl)
    have hv : (sizeOf 32).run Try.prog w = .ok 3 w := Try.sizeOf32 w
    unfold storeVar
    simp only [Sem.run_bind, hv, Result.andThen]
    have e : (rgA r).cells.size = 3 := rfl
    simp only [e, ne_eq, not_true_eq_false, if_false]
    exact hst
  unfold Oper.wp
  simp [execOp, ho, hx, hy, hrun, Result.andThen]
  exact hK' _ _ hK
end Go.Proofs.Ytbbemipidkhmfaa
