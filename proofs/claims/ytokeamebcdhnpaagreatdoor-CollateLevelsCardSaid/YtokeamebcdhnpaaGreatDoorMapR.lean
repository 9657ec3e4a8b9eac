/-
 A range over a map under way: which entries are still to come.
-/
import Derived.Maps.Range
import Derived.Maps.RangeWalk
import Derived.Test.YtokeamebcdhnpaaGreatDoorMaps
namespace Go.Proofs.YtokeamebcdhnpaaGreatDoor
open Go.RowKit Go.Maps
open Go.ChangeMaps (setBlock)

section
variable {P : Program} {kT eT mT : TypeId} {W : World} {m r : Nat} {kv : List (Value × Value)} {I : List Nat}
/-- Block r goes over the map m, which holds kv; the entries at the places I are still to come. -/
def MRng (W : World) (m r : Nat) (kv : List (Value × Value)) (I : List Nat) : Prop :=
 ∃ es clock since seen c0, W.heap[m]? = some (.map es clock) ∧ es.toList.map (fun e => (e.key, e.val)) = kv ∧ es.toList.Pairwise (fun x y => x.born ≠ y.born) ∧
  W.heap[r]? = some (.mapIter (some m) since seen c0) ∧ (∀ x ∈ es.toList, x.born < since) ∧ since ≤ c0 ∧ since ≤ clock ∧ ∀ i, i ∈ I ↔ ∃ h : i < es.toList.length, seen.contains es.toList[i].born = false
theorem MRng.of_blk {W' : World} (h : MRng W m r kv I) (hm : W'.heap[m]? = W.heap[m]?) (hr : W'.heap[r]? = W.heap[r]?) : MRng W' m r kv I ∧ W'.rangeLeft m r = W.rangeLeft m r := by
 obtain ⟨es, clock, since, seen, c0, h1, h2, h3, h4, h5⟩ := h
 refine ⟨⟨es, clock, since, seen, c0, hm.trans h1, h2, h3, hr.trans h4, h5⟩, ?_⟩
 unfold World.rangeLeft
 rw [hm, hr]
theorem MRng.lt (h : MRng W m r kv I) : m < W.heap.size ∧ r < W.heap.size ∧ m ≠ r := by
 obtain ⟨es, clock, since, seen, c0, h1, h2, h3, h4, h5⟩ := h
 refine ⟨blk_lt h1, blk_lt h4, ?_⟩
 rintro rfl
 rw [h1] at h4
 cases h4
theorem MRng.bound (h : MRng W m r kv I) : ∀ i ∈ I, i < kv.length := by
 obtain ⟨es, clock, since, seen, c0, h1, rfl, h3, h4, h5, h6, h7, h8⟩ := h
 intro i hi
 obtain ⟨h, _⟩ := (h8 i).1 hi
 simpa using h
theorem pair_nodup {l : List MapEntry} (h : l.Pairwise fun x y => x.born ≠ y.born) : (l.map (·.born)).Nodup := by
 unfold List.Nodup
 rw [List.pairwise_map]
 exact h
/-- The loop begins. -/
theorem MRng.begin (h : MapIs W m kv) (ht : P.underlying mT = some (.map kT eT)) : ∃ W', (Instr.range mT (.map (some m))).run P W = .ok (.pointer (some ⟨W.heap.size, 0, none⟩)) W' ∧ MRng W' m W.heap.size kv (List.range kv.length) ∧ W.grownBy W' none ∧ W'.heap.size = W.heap.size + 1 := by
 have hl := h.lt
 obtain ⟨es, clock, hb, rfl, hst⟩ := h
 refine ⟨_, run_range_map W mT kT eT m es clock ht hb, ⟨es, clock, clock, #[], clock, (Below.heap_alloc W _ m hl).trans hb, rfl, hst.2, World.alloc_heap_new W _, hst.1, Nat.le_refl _, Nat.le_refl _, fun i => ?_⟩, World.grownBy_alloc W _ none, by simp⟩
 simp
/-- The step. -/
theorem MRng.step (h : MRng W m r kv I) (ty : TypeId) :
  ((∀ i, i ∉ I) ∧ (Instr.next (.pointer (some ⟨r, 0, none⟩)) false ty).run P W = .ok (.tuple #[.bool false]) W) ∨
  ∃ i, ∃ hi : i < kv.length, ∃ W', i ∈ I ∧ (Instr.next (.pointer (some ⟨r, 0, none⟩)) false ty).run P W = .ok (.tuple #[.bool true, kv[i].1, kv[i].2]) W' ∧ (∀ I', (∀ j, j ∈ I' ↔ j ∈ I ∧ j ≠ i) → MRng W' m r kv I') ∧ W'.rangeLeft m r < W.rangeLeft m r ∧
   W.grownBy W' (some r) ∧ W'.heap.size = W.heap.size ∧ (Instr.entry (.pointer (some ⟨r, 0, none⟩))).run P W' = .ok (.tuple #[kv[i].1, kv[i].2]) W' := by
 have hlt := h.lt
 obtain ⟨es, clock, since, seen, c0, h1, rfl, h3, h4, h5, h6, h7, h8⟩ := h
 rcases run_next_at (P := P) W ty r m since c0 seen es clock h4 h1 h5 h6 with ⟨h0, hrun⟩ | ⟨e, he, w1, hal, hrun⟩
 ·refine .inl ⟨fun i hi => ?_, hrun⟩
  obtain ⟨hh, hs⟩ := (h8 i).1 hi
  have := all_seen es seen h0 _ (List.getElem_mem hh)
  rw [this] at hs
  cases hs
 ·obtain ⟨hem, hes⟩ := mem_left he
  obtain ⟨i, hi, rfl⟩ := List.mem_iff_getElem.1 hem
  have hr1 : w1.heap[r]? = some (.mapIter (some m) since seen c0) := by rcases hal with rfl | rfl <;> exact h4
  have hb1 : w1.heap[m]? = some (.map es clock) := by rcases hal with rfl | rfl <;> exact h1
  have hsz1 : w1.heap.size = W.heap.size := by rcases hal with rfl | rfl <;> rfl
  have hnew : (setBlock w1 r (.mapIter (some m) since (seen.push es.toList[i].born) clock)).heap[r]? = some (.mapIter (some m) since (seen.push es.toList[i].born) clock) := by
   unfold setBlock
   simp [hsz1, hlt.2.1]
  have hold : ∀ k, k ≠ r → (setBlock w1 r (.mapIter (some m) since (seen.push es.toList[i].born) clock)).heap[k]? = w1.heap[k]? := fun k hk => by
   unfold setBlock
   exact Array.getElem?_setIfInBounds_ne (Ne.symm hk)
  have hb' := (hold m hlt.2.2).trans hb1
  refine .inr ⟨i, by simpa using hi, _, (h8 i).2 ⟨hi, hes⟩, by simpa using hrun, fun I' hI' => ⟨es, clock, since, seen.push es.toList[i].born, clock, hb', rfl, h3, hnew, h5, h7, h7, fun j => ?_⟩, ?_, ?_, ?_, ?_⟩
  ·rw [hI', h8]
   constructor
   ·rintro ⟨⟨hj, hs⟩, hne⟩
    refine ⟨hj, ?_⟩
    rw [Array.contains_push, hs, Bool.false_or]
    have : es.toList[j].born ≠ es.toList[i].born := by
     rcases Nat.lt_or_gt_of_ne hne with hc | hc
     ·exact List.pairwise_iff_getElem.1 h3 j i hj hi hc
     ·exact (List.pairwise_iff_getElem.1 h3 i j hi hj hc).symm
    simpa using this
   ·rintro ⟨hj, hs⟩
    rw [Array.contains_push, Bool.or_eq_false_iff] at hs
    refine ⟨⟨hj, hs.1⟩, ?_⟩
    rintro rfl
    simp at hs
  ·unfold World.rangeLeft
   rw [hb', hnew, h1, h4]
   exact left_shrinks es seen _ he
  ·rcases hal with rfl | rfl
   ·exact ⟨rfl, rfl, rfl, by simp [setBlock], fun k _ hk => hold k (fun e1 => hk (by rw [e1]))⟩
   ·exact ⟨rfl, rfl, rfl, by show _ ≤ (W.drew.heap.setIfInBounds _ _).size; rw [Array.size_setIfInBounds]; exact Nat.le_refl _, fun k _ hk => hold k (fun e1 => hk (by rw [e1]))⟩
  ·rcases hal with rfl | rfl <;> simp [setBlock]
  ·have := run_entry_at (P := P) _ r m since seen es clock es.toList[i] hnew hb' hem (pair_nodup h3)
   simpa using this
/-- The same at the operations. -/
theorem wpList_range_is {ops : Array Oper} {rest : List Oper} {o : Oper} {a : Act} {Q : Exit → Act → World → Prop} (hg : o.guard = none) (x : Operand) (hop : o.op = Op.range mT x) (ht : P.underlying mT = some (.map kT eT)) (hm : a.eval x = .map (some m)) (h : MapIs W m kv)
  (hK : ∀ W', MRng W' m W.heap.size kv (List.range kv.length) → W.grownBy W' none → W'.heap.size = W.heap.size + 1 → wpList P ops Q rest (a.put o.dst (.pointer (some ⟨W.heap.size, 0, none⟩))) W') : wpList P ops Q (o :: rest) a W := by
 refine wpList_plain hg fun K' hK' => ?_
 obtain ⟨W', hrun, r1, r2, r3⟩ := MRng.begin h ht
 unfold Oper.wp
 simp [execOp, hop, hm, hrun, Result.andThen]
 exact hK' _ _ (hK W' r1 r2 r3)
theorem wpList_next_is {ops : Array Oper} {rest : List Oper} {o : Oper} {a : Act} {Q : Exit → Act → World → Prop} (hg : o.guard = none) (it : Operand) (hop : o.op = Op.next it false) (hit : a.eval it = .pointer (some ⟨r, 0, none⟩)) (h : MRng W m r kv I)
  (hDone : (∀ i, i ∉ I) → wpList P ops Q rest (a.put o.dst (.tuple #[.bool false])) W)
  (hMore : ∀ (i : Nat) (hi : i < kv.length) (W' : World), i ∈ I → (∀ I', (∀ j, j ∈ I' ↔ j ∈ I ∧ j ≠ i) → MRng W' m r kv I') → W'.rangeLeft m r < W.rangeLeft m r → W.grownBy W' (some r) → W'.heap.size = W.heap.size →
   (Instr.entry (.pointer (some ⟨r, 0, none⟩))).run P W' = .ok (.tuple #[kv[i].1, kv[i].2]) W' → wpList P ops Q rest (a.put o.dst (.tuple #[.bool true, kv[i].1, kv[i].2])) W') : wpList P ops Q (o :: rest) a W := by
 refine wpList_plain hg fun K' hK' => ?_
 unfold Oper.wp
 rcases h.step (P := P) o.type with ⟨h0, hrun⟩ | ⟨i, hi, W', hiI, hrun, h1, h2, h3, h4, h5⟩
 ·simp [execOp, hop, hit, hrun, Result.andThen]
  exact hK' _ _ (hDone h0)
 ·simp [execOp, hop, hit, hrun, Result.andThen]
  exact hK' _ _ (hMore i hi W' hiI h1 h2 h3 h4 h5)
end
end Go.Proofs.YtokeamebcdhnpaaGreatDoor
