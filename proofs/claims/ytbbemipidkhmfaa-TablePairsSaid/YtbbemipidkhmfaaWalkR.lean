/-
  A loop over an iterator whose round lays its element into a block of its own.
-/
import Derived.RangeFuncKeeps
import Derived.RangeFuncBound
import Derived.RangeFuncLeaves
import Derived.RangeFuncFrom
import Derived.RangeFuncBox
import Derived.OwnWalkIn
import Derived.TacticsInMore
import Derived.LoopIn
import Derived.LoopNIn
import Derived.Shelf.Abstract
import Derived.Test.YtbbemipidkhmfaaWalkQ
namespace Go.Proofs.Ytbbemipidkhmfaa
open Go.RowKit Go.Maps Go.Shelf

/-- The loop over an iterator that never stops early: the assignment lays the element's block. -/
theorem wpIn_rangeB {F : Fence} {n : Nat} {P : Program} {α : Type} {g : Operand} {ps : Array Tmp} {assign body : Code} {Q : Exit → Act → World → Prop} {a : Act} {w : World} {n₀ : Nat} (hn₀ : n₀ ≤ w.heap.size)
    (hro : F.round = none) (h1 : 1 ≤ n) {gf : Nat} {lb : Array Value} (hg : a.eval g = .func (.func gf) #[] lb) (hFg : F.fn gf) (eg : ∀ args w, (callFunc gf args).run P w = .ok (.enter gf args) w)
    {encs : α → Array Value} {S Sp : List α → Prop} {N : Nat} {w0 : World} (hseq : SeqStopsK F (n - 1) P gf lb encs (Below n₀) S Sp N w0) (hb0 : Below w0.heap.size w0 w) (hps : ∀ x, (encs x).size = ps.size)
    (I : List α → World → Prop) (hI : OwnFrom w.heap.size I) (h0 : I [] w) (a₁ : α → Nat → Act) (o₁ : α → Obj)
    (hassign : ∀ (l : Nat) (x : α) (W : World) (K : Act → World → Prop), K (a₁ x W.heap.size) (W.alloc (o₁ x)) →
      assign.wpIn (F.inRound l) (n - 1 - 1) P (Exit.then K (fun _ _ _ => False)) { tmps := (ps.zip (encs x)).foldl (fun t (p, v) => t.setIfInBounds p v) a.tmps, defers := [] } W)
    (hbody : ∀ (l : Nat) (pre : List α) (x : α) (B : Nat) (W : World), I pre W → W.heap[B]? = some (o₁ x) → w.heap.size ≤ B → pre.length < N →
      body.wpIn (F.inRound l) (n - 1 - 1) P (ownPostK (Below n₀) I (fun _ _ _ => False) (pre ++ [x]) W) (a₁ x B) W)
    (hdone : ∀ (D : Nat) (xs : List α) (W : World), w.heap.size ≤ D → S xs → I xs W → W.heap[D]? = some (.deferred (some [])) → Q .normal { a with defers := { target := .collected D, args := #[] } :: a.defers } W) :
    (Code.rangeFunc g ps assign body).wpIn F n P Q a w := by
  refine wpIn_rangeFunc fun fn hfn => ?_
  rw [hro]
  obtain ⟨rd, hrd⟩ : ∃ rd : LoopState → Option Code → Loop, rd = fun st pe => { state := st, pending := pe, fn, tmps := a.tmps, params := ps, assign, body, defers := w.heap.size } := ⟨_, rfl⟩
  have hrp : ∀ st pe, (rd st pe).pending = pe ∧ (rd st pe).state = st ∧ (rd st pe).params = ps ∧ (rd st pe).fn = fn ∧ (rd st pe).tmps = a.tmps ∧ (rd st pe).assign = assign ∧ (rd st pe).body = body := fun st pe => by rw [hrd]; exact ⟨rfl, rfl, rfl, rfl, rfl, rfl, rfl⟩
  have hrs : ∀ st pe st', { rd st pe with state := st' } = rd st' pe := fun st pe st' => by rw [hrd]
  have hre : ∀ st pe st' pe', { rd st pe with state := st', pending := pe' } = rd st' pe' := fun st pe st' pe' => by rw [hrd]
  obtain ⟨W1, hW1⟩ : ∃ W1, (w.alloc (.deferred (some []))).alloc (.loop (rd .ready none)) = W1 := ⟨_, rfl⟩
  have e1 : W1.heap[w.heap.size + 1]? = some (.loop (rd .ready none)) := by
    have := World.alloc_heap_new (w.alloc (.deferred (some []))) (.loop (rd .ready none))
    rw [World.size_alloc, hW1] at this
    exact this
  have e2 : W1.heap[w.heap.size]? = some (.deferred (some [])) := by
    rw [← hW1]
    exact (Below.heap_alloc _ _ _ (by simp)).trans (World.alloc_heap_new w _)
  have e3 : W1.heap.size = w.heap.size + 2 := by rw [← hW1]; simp
  have e4 : I [] W1 := by rw [← hW1]; exact hI.alloc _ (hI.alloc _ h0)
  have e5 : Below w0.heap.size w0 W1 := by
    rw [← hW1]
    exact (hb0.alloc hb0.size _).alloc (by have := hb0.size; simp; omega) _
  refine ⟨w.heap.size + 1, [{ target := .collected w.heap.size, args := #[] }], W1, { target := .fn (.func gf) lb, args := #[.func (.yield (w.heap.size + 1)) #[] #[]] }, W1, gf,
    #[.func (.yield (w.heap.size + 1)) #[] #[]] ++ lb, W1, by rw [← hW1, hrd]; exact run_enterLoop_outer _ _ _ _ _, by simp only [resolve, hg]; simp [go_sem], fun f' hf' => by simp [Target.leads] at hf'; subst hf'; exact hFg, by simp [invoke, go_sem, eg], fun _ => h1, ?_⟩
  have keep : ∀ (s : List α) (A B : World) (row : Option Nat), (I s A ∧ A.heap[w.heap.size + 1]? = some (.loop (rd .ready none)) ∧ A.heap[w.heap.size]? = some (.deferred (some []))) → A.grownBy B row → (∀ r, row = some r → W1.heap.size ≤ r ∧ ∃ o : Obj, A.heap[r]? = some o ∧ o.isWalk = true) →
      (I s B ∧ B.heap[w.heap.size + 1]? = some (.loop (rd .ready none)) ∧ B.heap[w.heap.size]? = some (.deferred (some []))) := by
    rintro s A B row ⟨q1, q2, q3⟩ hgr hr
    refine ⟨hI s A B row q1 hgr fun r e => ?_, ?_, ?_⟩
    · obtain ⟨k1, o, k2, k3⟩ := hr r e
      exact ⟨by omega, o, k2, Obj.not_cells_of_walk k3⟩
    · exact (hgr.block _ (blk_lt q2) (fun e => by have := (hr _ e.symm).1; omega)).trans q2
    · exact (hgr.block _ (blk_lt q3) (fun e => by have := (hr _ e.symm).1; omega)).trans q3
  refine (hseq (w.heap.size + 1) (fun pre W => I pre W ∧ W.heap[w.heap.size + 1]? = some (.loop (rd .ready none)) ∧ W.heap[w.heap.size]? = some (.deferred (some []))) (fun _ _ => False) W1 e5 keep (fun _ _ _ _ h _ _ => h.elim) ?_ ⟨e4, e1, e2⟩).mono ?_
  · rintro pre x W ⟨q1, q2, q3⟩ hlen
    have hlt := blk_lt q2
    have hy := run_yield (P := P) (args := encs x) q2 (by rw [(hrp _ _).2.2.1]; exact hps x)
    rw [(hrp _ _).2.2.1, (hrp _ _).2.2.2.1, (hrp _ _).2.2.2.2.1, (hrp _ _).2.2.2.2.2.1, (hrp _ _).2.2.2.2.2.2] at hy
    have p2 : (W.alloc (o₁ x)).heap[w.heap.size + 1]? = some (.loop (rd .ready none)) := (Below.heap_alloc _ _ _ hlt).trans q2
    have p3 : (W.alloc (o₁ x)).heap[w.heap.size]? = some (.deferred (some [])) := (Below.heap_alloc _ _ _ (blk_lt q3)).trans q3
    have p4 := World.alloc_heap_new W (o₁ x)
    have p5 := hI.alloc (o₁ x) q1
    have hbr := run_beginRound (P := P) p2 (hrp _ _).2.1
    rw [hrs] at hbr
    obtain ⟨V, hV⟩ : ∃ V, (W.alloc (o₁ x)).putObj (w.heap.size + 1) (.loop (rd .busy none)) = V := ⟨_, rfl⟩
    rw [hV] at hbr
    have v1 : I pre V := by rw [← hV]; exact hI.putObj _ p5 (by omega) p2 rfl
    have v2 : V.heap[w.heap.size + 1]? = some (.loop (rd .busy none)) := by rw [← hV]; exact World.putObj_heap_same (blk_lt p2)
    have v3 : V.heap[w.heap.size]? = some (.deferred (some [])) := by rw [← hV]; exact (World.putObj_heap_other (by omega)).trans p3
    have v4 : V.heap[W.heap.size]? = some (o₁ x) := by rw [← hV]; exact (World.putObj_heap_other (by omega)).trans p4
    have v5 : Below n₀ W V := by
      rw [← hV]
      exact ((Below.refl n₀ W).alloc (by omega) _).trans (belowK_b hn₀ _ _ _ _ (by omega) p2 rfl rfl)
    refine ⟨fn, _, assign, body, hy, roundIn_of_wpIn hfn (hassign _ x W _ ⟨V, hbr, wpIn_mono (hbody _ pre x W.heap.size V v1 v4 (by omega) hlen) ?_⟩)⟩
    rintro e a3 W3 hp
    cases e with
    | normal =>
      obtain ⟨k1, k2, k3⟩ := hp
      have u2 := k1.same _ _ v2 rfl
      have u3 := k1.same _ _ v3 rfl
      have her := run_endRound (P := P) none u2
      rw [hre] at her
      refine ⟨_, _, her, .inl ⟨rfl, ⟨hI.putObj _ k3 (by omega) u2 rfl, World.putObj_heap_same (blk_lt u2), (World.putObj_heap_other (by omega)).trans u3⟩, ?_⟩⟩
      exact (v5.trans k2).trans (belowK_b hn₀ _ _ _ _ (by omega) u2 rfl rfl)
    | ret => exact hp.2.elim
    | exit id => exact hp.2.elim
    | goto t => exact hp.2.elim
    | panic ch => exact hp.elim
    | outgrown => exact hp.elim
  · rintro e W2 ⟨⟨v, rfl⟩, (⟨xs, hS, q1, q2, q3⟩ | ⟨_, _, h⟩)⟩
    · have hel := run_endLoop (P := P) q2 (by rw [(hrp _ _).2.1]; intro h; cases h)
      rw [(hrp _ _).1] at hel
      exact ⟨none, _, hel, hdone _ xs _ (Nat.le_refl _) hS (hI.putObj _ q1 (by omega) q2 rfl) ((World.putObj_heap_other (by omega)).trans q3)⟩
    · exact h.elim
end Go.Proofs.Ytbbemipidkhmfaa
