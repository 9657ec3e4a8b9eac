/-
  Maps that a call makes and writes: which entries they hold, in the order in which they were laid.
-/
import Derived.Test.YtbbemipidkhmfaaWalkC
import Derived.Maps.OwnOps
import Derived.DeepKeys4
namespace Go.Proofs.Ytbbemipidkhmfaa
open Go.RowKit Go.Maps

section
variable {P : Program} {kT eT mT : TypeId} {W : World} {m : Nat} {kv : List (Value × Value)}

/-- What entries a map holds. -/
def MapIs (W : World) (m : Nat) (kv : List (Value × Value)) : Prop := ∃ es clock, W.heap[m]? = some (.map es clock) ∧ es.toList.map (fun e => (e.key, e.val)) = kv
theorem MapIs.new (W : World) : MapIs (W.alloc (.map #[] 0)) W.heap.size [] := ⟨#[], 0, World.alloc_heap_new W _, rfl⟩
theorem MapIs.lt (h : MapIs W m kv) : m < W.heap.size := by obtain ⟨_, _, hb, _⟩ := h; exact blk_lt hb
theorem MapIs.kept {W' : World} {row : Option Nat} (h : MapIs W m kv) (hg : W.grownBy W' row) (hne : some m ≠ row) : MapIs W' m kv := by
  have hl := h.lt
  obtain ⟨es, clock, hb, e⟩ := h
  exact ⟨es, clock, (hg.block m hl hne).trans hb, e⟩
theorem MapIs.ext {W' : World} (h : MapIs W m kv) (hx : Ext W W') : MapIs W' m kv := by
  obtain ⟨es, clock, hb, e⟩ := h
  exact ⟨es, clock, hx.blk hb, e⟩
/-- A look-up with 'ok'. -/
theorem MapIs.lookup (K : Keyed P kT) (ht : P.underlying mT = some (.map kT eT)) (h : MapIs W m kv) (hk : ∀ p ∈ kv, ∃ l, keyOf P kT p.1 = some l) {x z : Value} {lx : Lit} (hx : keyOf P kT x = some lx) (hz : ∀ W, (zeroValue eT).run P W = .ok z W) :
    ∃ v b, (Instr.lookup mT (.map (some m)) x true).run P W = .ok (.tuple #[v, .bool b]) W ∧ ((b = true ∧ (x, v) ∈ kv) ∨ (b = false ∧ v = z ∧ ∀ p ∈ kv, p.1 ≠ x)) := by
  obtain ⟨es, clock, hb, rfl⟩ := h
  have hk' : ∀ e ∈ es.toList, ∃ l, keyOf P kT e.key = some l := fun e he => hk (e.key, e.val) (List.mem_map.2 ⟨e, he, rfl⟩)
  have hget : (getObj m).run P W = .ok (.map es clock) W := by simp [getObj, Sem.run, hb]
  rcases K.find W hx es.toList hk' with ⟨hf, hne⟩ | ⟨j, e, hf, hj, hkey⟩
  · refine ⟨z, false, ?_, .inr ⟨rfl, rfl, ?_⟩⟩
    · simp [Instr.lookup, underlying, ht, hget, K.check W _ hx, hf, hz, Result.andThen]
    · intro p hp
      obtain ⟨e, he, rfl⟩ := List.mem_map.1 hp
      exact hne e he
  · refine ⟨e.val, true, ?_, .inl ⟨rfl, ?_⟩⟩
    · simp [Instr.lookup, underlying, ht, hget, K.check W _ hx, hf, Result.andThen]
    · exact List.mem_map.2 ⟨e, List.mem_of_getElem? hj, by rw [hkey]⟩
/-- A store at a key that is not there. -/
theorem MapIs.put (K : Keyed P kT) (ht : P.underlying mT = some (.map kT eT)) (h : MapIs W m kv) (hk : ∀ p ∈ kv, ∃ l, keyOf P kT p.1 = some l) {x v : Value} {lx : Lit} (hx : keyOf P kT x = some lx) (hne : ∀ p ∈ kv, p.1 ≠ x) :
    ∃ W', (Instr.mapUpdate mT (.map (some m)) x v).run P W = .ok () W' ∧ MapIs W' m (kv ++ [(x, v)]) ∧ W.grownBy W' (some m) ∧ W'.heap.size = W.heap.size := by
  have hl := h.lt
  obtain ⟨es, clock, hb, rfl⟩ := h
  have hk' : ∀ e ∈ es.toList, ∃ l, keyOf P kT e.key = some l := fun e he => hk (e.key, e.val) (List.mem_map.2 ⟨e, he, rfl⟩)
  have hget : (getObj m).run P W = .ok (.map es clock) W := by simp [getObj, Sem.run, hb]
  have hset : ∀ o, (setObj m o).run P W = .ok () (W.putObj m o) := fun o => by simp [setObj, Sem.run, hb, World.putObj]
  rcases K.find W hx es.toList hk' with ⟨hf, _⟩ | ⟨j, e, hf, hj, hkey⟩
  · refine ⟨W.putObj m (.map (es.push { key := x, val := v, born := clock }) (clock + 1)), ?_, ⟨es.push { key := x, val := v, born := clock }, clock + 1, by simp [World.putObj, hl], by simp⟩, grownBy_putObj' W m _, by simp [World.putObj]⟩
    simp [Instr.mapUpdate, underlying, ht, hget, K.check W _ hx, hf, hset, Result.andThen]
  · exact absurd hkey (hne (e.key, e.val) (List.mem_map.2 ⟨e, List.mem_of_getElem? hj, rfl⟩))

/-- The same at the operation. -/
theorem wpList_lookup_is {ops : Array Oper} {rest : List Oper} {o : Oper} {a : Act} {Q : Exit → Act → World → Prop} (hg : o.guard = none) (mm x : Operand) (ho : o.op = Op.lookup mT mm x true)
    (K : Keyed P kT) (ht : P.underlying mT = some (.map kT eT)) {z : Value} (hz : ∀ W, (zeroValue eT).run P W = .ok z W) (hm : a.eval mm = .map (some m)) {key : Value} (hx : a.eval x = key) (h : MapIs W m kv) (hk : ∀ p ∈ kv, ∃ l, keyOf P kT p.1 = some l) {lx : Lit} (hkey : keyOf P kT key = some lx)
    (hK : ∀ v b, ((b = true ∧ (key, v) ∈ kv) ∨ (b = false ∧ v = z ∧ ∀ p ∈ kv, p.1 ≠ key)) → wpList P ops Q rest (a.put o.dst (.tuple #[v, .bool b])) W) : wpList P ops Q (o :: rest) a W := by
  refine wpList_plain hg fun K' hK' => ?_
  obtain ⟨v, b, hrun, hvb⟩ := h.lookup K ht hk hkey hz
  unfold Oper.wp
  simp [execOp, ho, hm, hx, hrun, Result.andThen]
  exact hK' _ _ (hK v b hvb)
theorem wpList_mapUpdate_is {ops : Array Oper} {rest : List Oper} {o : Oper} {a : Act} {Q : Exit → Act → World → Prop} (hg : o.guard = none) (mm x y : Operand) (ho : o.op = Op.mapUpdate mT mm x y)
    (K : Keyed P kT) (ht : P.underlying mT = some (.map kT eT)) (hm : a.eval mm = .map (some m)) {key val : Value} (hx : a.eval x = key) (hy : a.eval y = val) (h : MapIs W m kv) (hk : ∀ p ∈ kv, ∃ l, keyOf P kT p.1 = some l) {lx : Lit} (hkey : keyOf P kT key = some lx) (hne : ∀ p ∈ kv, p.1 ≠ key)
    (hK : ∀ W', MapIs W' m (kv ++ [(key, val)]) → W.grownBy W' (some m) → W'.heap.size = W.heap.size → wpList P ops Q rest (a.put o.dst undef) W') : wpList P ops Q (o :: rest) a W := by
  refine wpList_plain hg fun K' hK' => ?_
  obtain ⟨W', hrun, r1, r2, r3⟩ := h.put K ht hk hkey hne (v := val)
  unfold Oper.wp
  simp [execOp, ho, hm, hx, hy, hrun, Result.andThen]
  exact hK' _ _ (hK W' r1 r2 r3)
end

/-! Blocks of classes as keys. -/
theorem keyed83 : Keyed Try.prog 83 := Keyed.of_law (deep_law_laid (m := 2) (by kernel_rfl) (by decide) (of_decide_eq_true (by kernel_rfl)) (by kernel_rfl) (by kernel_rfl))
theorem mapM_some {α β : Type} (f : α → Option β) : ∀ l : List α, (∀ x ∈ l, ∃ y, f x = some y) → ∃ ys, l.mapM f = some ys
  | [], _ => ⟨[], rfl⟩
  | x :: l, h => by
    obtain ⟨y, hy⟩ := h x (by simp)
    obtain ⟨ys, hys⟩ := mapM_some f l fun z hz => h z (by simp [hz])
    exact ⟨y :: ys, by rw [List.mapM_cons]; simp [hy, hys]⟩
theorem cells83 : Try.prog.cellsOf 83 = 128 := by kernel_rfl
theorem cells5 : Try.prog.cellsOf 5 = 1 := by kernel_rfl
theorem key83 (l : List Int) (hl : l.length = 128) (hb : ∀ x ∈ l, 0 ≤ x ∧ x ≤ 255) : ∃ k, keyOf Try.prog 83 (.agg (u8s l)) = some k := by
  have hkt : Try.prog.keyType 83 = true := by kernel_rfl
  obtain ⟨m, hm⟩ : ∃ m, Try.prog.types.size = m + 1 + 1 := ⟨Try.prog.types.size - 2, by kernel_rfl⟩
  have hu : Try.prog.underlying 83 = some (.array 128 5) := Try.underlying83
  have hu5 : Try.prog.underlying 5 = some (.int .u8) := Try.underlying5
  unfold keyOf
  simp only [hu]
  rw [if_pos (by simp [hkt, Value.formed, hu, cells83, u8s_size, hl]), hm]
  unfold Program.keyLits
  simp only [hu, Value.cells]
  rw [if_pos (by rw [cells83]; simp [u8s, hl])]
  obtain ⟨ys, hys⟩ := mapM_some (fun i => Try.prog.keyLits (m + 1 + 1) 5 (((u8s l).toList.drop (i * Try.prog.cellsOf 5)).take (Try.prog.cellsOf 5))) (List.range 128) (fun i hi => by
    have hi' : i < l.length := by rw [hl]; exact List.mem_range.1 hi
    rw [cells5, Nat.mul_one]
    have e : ((u8s l).toList.drop i).take 1 = [.int .u8 l[i]] := by
      simp [u8s, List.take_one, hi']
    rw [e]
    have hr := hb l[i] (List.getElem_mem hi')
    have hw : (Lit.int .u8 l[i]).wf = true := by simp [Lit.wf, IntKind.min, IntKind.max, IntKind.bits, IntKind.signed]; omega
    simp [Program.keyLits, hu5, hw])
  rw [hys]
  exact ⟨_, rfl⟩
end Go.Proofs.Ytbbemipidkhmfaa
