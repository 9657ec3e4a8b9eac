/-
 A loop over an iterator that keeps what is left in a variable of its own, and whose body never leaves. Maps that a call makes and writes: which entries they hold, in the order in which they were laid. A range over a map under way: which entries are still to come.
-/
import Derived.RangeFuncKeeps
import Derived.RangeFuncFrom
import Derived.RangeFuncBound
import Derived.RangeFuncLeaves
import Derived.RangeFuncBox
import Derived.OwnWalkIn
import Derived.TacticsInMore
import Derived.BigFrameIn
import Derived.Test.YtokeamebcdhnpaaGreatDoorPlans
import Derived.Maps.OwnOps
import Derived.DeepKeys4
import Derived.Maps.Range
import Derived.Maps.RangeWalk
section
namespace Go.Proofs.YtokeamebcdhnpaaGreatDoor
open Go.RowKit

variable {F : Fence} {n : Nat} {P : Program}
/-- The iterator hands over xs, one by one; block Bx is its own variable. -/
def GivesB {α : Type} (F : Fence) (n : Nat) (P : Program) (g : Nat) (lb : Array Value) (encs : α → Array Value) (Kp : World → World → Prop) (Bx : Nat) (xs : List α) (w : World) : Prop :=
 ∀ (l : Nat) (J : List α → World → Prop) (W : World), (∀ s A B row, J s A → A.grownBy B row → (∀ r, row = some r → r = Bx) → J s B) → W.heap[Bx]? = w.heap[Bx]? → w.heap.size ≤ W.heap.size →
  (∀ pre x W1, J pre W1 → (∃ t, xs = pre ++ x :: t) → YieldAt F (n - 1) P l (encs x) W1 fun e W' => e = .returned (.bool true) ∧ J (pre ++ [x]) W' ∧ Kp W1 W') →
  J [] W → CallsIn F n P g (#[.func (.yield l) #[] #[]] ++ lb) W fun e W' => (∃ v, e = .returned v) ∧ J xs W'
/-- How a round ends: it goes on. -/
def onPost {α : Type} (Kp : World → World → Prop) (I : List α → World → Prop) (xs : List α) (W : World) : Exit → Act → World → Prop
 | .normal, _, W' => KeepsOthers W W' ∧ Kp W W' ∧ I xs W'
 | _, _, _ => False
theorem wpIn_rangeFunc_box {α : Type} {g : Operand} {ps : Array Tmp} {assign body : Code} {Q : Exit → Act → World → Prop} {a : Act} {w : World}
  (hro : F.round = none) (h1 : 1 ≤ n) {gf : Nat} {lb : Array Value} (hg : a.eval g = .func (.func gf) #[] lb) (hFg : F.fn gf) (eg : ∀ args w, (callFunc gf args).run P w = .ok (.enter gf args) w)
  {encs : α → Array Value} {Kp : World → World → Prop} {Bx : Nat} {xs : List α} (hBx : Bx < w.heap.size) {c0 : Array Value} {t0 : TypeId} {z0 : Nat × Nat} (hc0 : w.heap[Bx]? = some (.cells c0 t0 z0)) (hseq : GivesB F (n - 1) P gf lb encs Kp Bx xs w)
  (hKt : ∀ {A B C : World}, Kp A B → Kp B C → Kp A C) (hKb : ∀ (W : World) (l : Nat) (o o' : Obj), w.heap.size ≤ l → W.heap[l]? = some o → o.isCells = false → Kp W (W.putObj l o')) (hps : ∀ x, (encs x).size = ps.size)
  (I : List α → World → Prop) (hI : OwnFrom w.heap.size I) (hIx : ∀ s A B row, I s A → A.grownBy B row → (∀ r, row = some r → r = Bx) → I s B) (h0 : I [] w) (a₁ : α → Act)
  (hassign : ∀ (l : Nat) (x : α) (W : World) (K : Act → World → Prop), K (a₁ x) W →
   assign.wpIn (F.inRound l) (n - 1 - 1) P (Exit.then K (fun _ _ _ => False)) { tmps := (ps.zip (encs x)).foldl (fun t (p, v) => t.setIfInBounds p v) a.tmps, defers := [] } W)
  (hbody : ∀ (l : Nat) (pre : List α) (x : α) (W : World), I pre W → (∃ t, xs = pre ++ x :: t) → body.wpIn (F.inRound l) (n - 1 - 1) P (onPost Kp I (pre ++ [x]) W) (a₁ x) W)
  (hdone : ∀ (D : Nat) (W : World), w.heap.size ≤ D → I xs W → W.heap[D]? = some (.deferred (some [])) → Q .normal { a with defers := { target := .collected D, args := #[] } :: a.defers } W) :
  (Code.rangeFunc g ps assign body).wpIn F n P Q a w := by
 refine wpIn_rangeFunc ?_
 intro fn hfn
 rw [hro]
 obtain ⟨rec, hrec⟩ : ∃ rec : LoopState → Loop, rec = fun st => { state := st, pending := none, fn, tmps := a.tmps, params := ps, assign, body, defers := w.heap.size } := ⟨_, rfl⟩
 obtain ⟨W1, hW1⟩ : ∃ W1, (w.alloc (.deferred (some []))).alloc (.loop (rec .ready)) = W1 := ⟨_, rfl⟩
 have hL1 : W1.heap[w.heap.size + 1]? = some (.loop (rec .ready)) := by
  rw [← hW1]
  have := World.alloc_heap_new (w.alloc (.deferred (some []))) (.loop (rec .ready))
  rwa [World.size_alloc] at this
 have hx1 : Ext w W1 := by rw [← hW1]; exact ((Ext.refl w).alloc _).alloc _
 have hK1 : W1.heap[w.heap.size]? = some (.deferred (some [])) := by
  rw [← hW1]; exact (Below.heap_alloc _ _ _ (by simp)).trans (World.alloc_heap_new w _)
 have hI1 : I [] W1 := by rw [← hW1]; exact hI.alloc _ (hI.alloc _ h0)
 have stay : ∀ {A B : World} {row : Option Nat} {b : Nat} {o : Obj}, A.grownBy B row → (∀ r, row = some r → r = Bx) → w.heap.size ≤ b → A.heap[b]? = some o → B.heap[b]? = some o := fun hg hr hb ho =>
  (hg.block _ (Array.getElem?_eq_some_iff.1 ho).1 (fun e => by have := hr _ e.symm; omega)).trans ho
 refine ⟨w.heap.size + 1, [{ target := .collected w.heap.size, args := #[] }], W1, { target := .fn (.func gf) lb, args := #[.func (.yield (w.heap.size + 1)) #[] #[]] }, W1, gf,
  #[.func (.yield (w.heap.size + 1)) #[] #[]] ++ lb, W1, ?_, ?_, ?_, ?_, fun _ => h1, ?_⟩
 ·rw [← hW1, hrec]; exact run_enterLoop_outer _ _ _ _ _
 ·simp only [resolve, hg]
  simp [go_sem]
 ·intro f' hf'; simp [Target.leads] at hf'; subst hf'; exact hFg
 ·simp [invoke, go_sem, eg]
 ·refine (hseq (w.heap.size + 1)
   (fun pre W => I pre W ∧ W.heap[w.heap.size + 1]? = some (.loop (rec .ready)) ∧ W.heap[w.heap.size]? = some (.deferred (some []))) W1
   (fun s A B row hs hg' hr => ⟨hIx s A B row hs.1 hg' hr, stay hg' hr (by omega) hs.2.1, stay hg' hr (Nat.le_refl _) hs.2.2⟩)
   ((hx1.blk hc0).trans hc0.symm) hx1.sz ?_ ⟨hI1, hL1, hK1⟩).mono ?_
  ·rintro pre x W ⟨hi, hl, hk⟩ hlen
   have hlt : w.heap.size + 1 < W.heap.size := (Array.getElem?_eq_some_iff.1 hl).1
   have hy := run_yield (P := P) (args := encs x) hl (by rw [hrec]; exact hps x)
   rw [hrec] at hy
   refine ⟨fn, _, assign, body, hy, roundIn_of_wpIn hfn (hassign _ x W _ ⟨_, run_beginRound hl (by rw [hrec]), ?_⟩)⟩
   have hl2 : (W.putObj (w.heap.size + 1) (.loop { rec .ready with state := .busy })).heap[w.heap.size + 1]? = some (.loop { rec .ready with state := .busy }) := World.putObj_heap_same hlt
   have hk2 : (W.putObj (w.heap.size + 1) (.loop { rec .ready with state := .busy })).heap[w.heap.size]? = some (.deferred (some [])) := (World.putObj_heap_other (by omega)).trans hk
   have hw2 : Kp W (W.putObj (w.heap.size + 1) (.loop { rec .ready with state := .busy })) := hKb _ _ _ _ (by omega) hl rfl
   refine wpIn_mono (hbody _ pre x _ (hI.putObj _ hi (by omega) hl rfl) hlen) ?_
   rintro e a3 W3 hp
   cases e with
   | normal =>
    obtain ⟨hk3, hkp3, hi3⟩ := hp
    have hl3 := hk3.same _ _ hl2 rfl
    have hr := run_endRound (P := P) none hl3
    rw [hrec] at hr hl3
    refine ⟨_, _, hr, ⟨rfl, ⟨hI.putObj _ hi3 (by omega) hl3 rfl, ?_, (World.putObj_heap_other (by omega)).trans (hk3.same _ _ hk2 rfl)⟩, hKt (hKt hw2 hkp3) (hKb _ _ _ _ (by omega) hl3 rfl)⟩⟩
    rw [hrec]
    exact World.putObj_heap_same (Array.getElem?_eq_some_iff.1 hl3).1
   | ret => exact hp.elim
   | exit id => exact hp.elim
   | goto t => exact hp.elim
   | panic ch => exact hp.elim
   | outgrown => exact hp.elim
  ·rintro e W2 ⟨⟨v, rfl⟩, hi, hl, hk⟩
   exact ⟨none, _, by have := run_endLoop (P := P) hl (by rw [hrec]; simp); rw [hrec] at this; exact this, hdone _ _ (Nat.le_refl _) (hI.putObj _ hi (by omega) hl rfl) ((World.putObj_heap_other (by omega)).trans hk)⟩
end Go.Proofs.YtokeamebcdhnpaaGreatDoor
end

section
namespace Go.Proofs.YtokeamebcdhnpaaGreatDoor
open Go.RowKit Go.Maps

section
variable {P : Program} {kT eT mT : TypeId} {W : World} {m : Nat} {kv : List (Value × Value)}

/-- What entries a map holds. -/
def MapIs (W : World) (m : Nat) (kv : List (Value × Value)) : Prop := ∃ es clock, W.heap[m]? = some (.map es clock) ∧ es.toList.map (fun e => (e.key, e.val)) = kv ∧ (∀ e ∈ es.toList, e.born < clock) ∧ es.toList.Pairwise (fun x y => x.born ≠ y.born)
theorem MapIs.new (W : World) : MapIs (W.alloc (.map #[] 0)) W.heap.size [] := ⟨#[], 0, World.alloc_heap_new W _, rfl, by simp, by simp⟩
theorem MapIs.lt (h : MapIs W m kv) : m < W.heap.size := by obtain ⟨_, _, hb, _⟩ := h; exact blk_lt hb
theorem MapIs.of_blk {W' : World} (h : MapIs W m kv) (hg : ∀ o, W.heap[m]? = some o → o.isCells = false → W'.heap[m]? = some o) : MapIs W' m kv := by
 obtain ⟨es, clock, hb, e⟩ := h
 exact ⟨es, clock, hg _ hb rfl, e⟩
theorem MapIs.kept {W' : World} {row : Option Nat} (h : MapIs W m kv) (hg : W.grownBy W' row) (hne : some m ≠ row) : MapIs W' m kv :=
 h.of_blk fun _ ho _ => (hg.block m h.lt hne).trans ho
theorem MapIs.ext {W' : World} (h : MapIs W m kv) (hx : Ext W W') : MapIs W' m kv := h.of_blk fun _ ho _ => hx.blk ho
/-- A look-up: what is there, or the type's zero. -/
theorem MapIs.look (K : Keyed P kT) (ht : P.underlying mT = some (.map kT eT)) (h : MapIs W m kv) (hk : ∀ p ∈ kv, ∃ l, keyOf P kT p.1 = some l) {x z : Value} {lx : Lit} (hx : keyOf P kT x = some lx) (hz : ∀ W, (zeroValue eT).run P W = .ok z W) (ok : Bool) :
  ∃ v b, (Instr.lookup mT (.map (some m)) x ok).run P W = .ok (if ok = true then .tuple #[v, .bool b] else v) W ∧ ((b = true ∧ (x, v) ∈ kv) ∨ (b = false ∧ v = z ∧ ∀ p ∈ kv, p.1 ≠ x)) := by
 obtain ⟨es, clock, hb, rfl, hst⟩ := h
 have hk' : ∀ e ∈ es.toList, ∃ l, keyOf P kT e.key = some l := fun e he => hk (e.key, e.val) (List.mem_map.2 ⟨e, he, rfl⟩)
 have hget : (getObj m).run P W = .ok (.map es clock) W := by simp [getObj, Sem.run, hb]
 rcases K.find W hx es.toList hk' with ⟨hf, hne⟩ | ⟨j, e, hf, hj, hkey⟩
 ·refine ⟨z, false, ?_, .inr ⟨rfl, rfl, ?_⟩⟩
  ·cases ok <;> simp [Instr.lookup, underlying, ht, hget, K.check W _ hx, hf, hz, Result.andThen]
  ·intro p hp
   obtain ⟨e, he, rfl⟩ := List.mem_map.1 hp
   exact hne e he
 ·refine ⟨e.val, true, ?_, .inl ⟨rfl, ?_⟩⟩
  ·cases ok <;> simp [Instr.lookup, underlying, ht, hget, K.check W _ hx, hf, Result.andThen]
  ·exact List.mem_map.2 ⟨e, List.mem_of_getElem? hj, by rw [hkey]⟩
theorem MapIs.there (K : Keyed P kT) (ht : P.underlying mT = some (.map kT eT)) (h : MapIs W m kv) (hk : ∀ p ∈ kv, ∃ l, keyOf P kT p.1 = some l) {x z : Value} {lx : Lit} (hx : keyOf P kT x = some lx) (hz : ∀ W, (zeroValue eT).run P W = .ok z W) {v : Value} (hv : (x, v) ∈ kv) (hu : ∀ v', (x, v') ∈ kv → v' = v) (ok : Bool) :
  (Instr.lookup mT (.map (some m)) x ok).run P W = .ok (if ok = true then .tuple #[v, .bool true] else v) W := by
 obtain ⟨v', b, hr, h1⟩ := h.look K ht hk hx hz ok
 rcases h1 with ⟨rfl, h1⟩ | ⟨rfl, _, h1⟩
 ·rw [hr, hu _ h1]
 ·exact absurd rfl (h1 _ hv)
theorem MapIs.none (K : Keyed P kT) (ht : P.underlying mT = some (.map kT eT)) (h : MapIs W m kv) (hk : ∀ p ∈ kv, ∃ l, keyOf P kT p.1 = some l) {x z : Value} {lx : Lit} (hx : keyOf P kT x = some lx) (hz : ∀ W, (zeroValue eT).run P W = .ok z W) (hv : ∀ p ∈ kv, p.1 ≠ x) (ok : Bool) :
  (Instr.lookup mT (.map (some m)) x ok).run P W = .ok (if ok = true then .tuple #[z, .bool false] else z) W := by
 obtain ⟨v', b, hr, h1⟩ := h.look K ht hk hx hz ok
 rcases h1 with ⟨rfl, h1⟩ | ⟨rfl, h1, _⟩
 ·exact absurd rfl (hv _ h1)
 ·rw [hr, h1]
/-- A store at a key that is not there. -/
theorem MapIs.put (K : Keyed P kT) (ht : P.underlying mT = some (.map kT eT)) (h : MapIs W m kv) (hk : ∀ p ∈ kv, ∃ l, keyOf P kT p.1 = some l) {x v : Value} {lx : Lit} (hx : keyOf P kT x = some lx) (hne : ∀ p ∈ kv, p.1 ≠ x) :
  ∃ W', (Instr.mapUpdate mT (.map (some m)) x v).run P W = .ok () W' ∧ MapIs W' m (kv ++ [(x, v)]) ∧ W.grownBy W' (some m) ∧ W'.heap.size = W.heap.size := by
 have hl := h.lt
 obtain ⟨es, clock, hb, rfl, hst⟩ := h
 have hk' : ∀ e ∈ es.toList, ∃ l, keyOf P kT e.key = some l := fun e he => hk (e.key, e.val) (List.mem_map.2 ⟨e, he, rfl⟩)
 have hget : (getObj m).run P W = .ok (.map es clock) W := by simp [getObj, Sem.run, hb]
 have hset : ∀ o, (setObj m o).run P W = .ok () (W.putObj m o) := fun o => by simp [setObj, Sem.run, hb, World.putObj]
 rcases K.find W hx es.toList hk' with ⟨hf, _⟩ | ⟨j, e, hf, hj, hkey⟩
 ·refine ⟨W.putObj m (.map (es.push { key := x, val := v, born := clock }) (clock + 1)), ?_, ⟨es.push { key := x, val := v, born := clock }, clock + 1, by simp [World.putObj, hl], by simp, ?_, ?_⟩, grownBy_putObj' W m _, by simp [World.putObj]⟩
  ·simp [Instr.mapUpdate, underlying, ht, hget, K.check W _ hx, hf, hset, Result.andThen]
  ·intro e he
   rw [Array.toList_push] at he
   rcases List.mem_append.1 he with he | he
   ·have := hst.1 e he; omega
   ·rw [List.mem_singleton] at he
    subst he
    exact Nat.lt_succ_self _
  ·rw [Array.toList_push]
   refine List.pairwise_append.2 ⟨hst.2, by simp, fun a ha b hb => ?_⟩
   rw [List.mem_singleton] at hb
   subst hb
   exact Nat.ne_of_lt (hst.1 a ha)
 ·exact absurd hkey (hne (e.key, e.val) (List.mem_map.2 ⟨e, List.mem_of_getElem? hj, rfl⟩))
theorem mem_mod {x v : Value} {l : List MapEntry} {j : Nat} {e : MapEntry} (h : e ∈ l.modify j fun e => { e with key := x, val := v }) : ∃ e3 ∈ l, e.born = e3.born := by
 obtain ⟨i, hi, rfl⟩ := List.mem_iff_getElem.1 h
 rw [List.length_modify] at hi
 rw [List.getElem_modify]
 split
 ·exact ⟨l[i], List.getElem_mem hi, rfl⟩
 ·exact ⟨l[i], List.getElem_mem hi, rfl⟩
theorem pair_mod {x v : Value} {l : List MapEntry} {j : Nat} (h : l.Pairwise fun a b => a.born ≠ b.born) : (l.modify j fun e => { e with key := x, val := v }).Pairwise fun a b => a.born ≠ b.born := by
 rw [List.pairwise_iff_getElem] at h ⊢
 intro a b ha hb hab
 rw [List.length_modify] at ha hb
 rw [List.getElem_modify, List.getElem_modify]
 have := h a b ha hb hab
 split <;> split <;> exact this
/-- A store at a key that is there: at the place of the pair. -/
theorem MapIs.set (K : Keyed P kT) (ht : P.underlying mT = some (.map kT eT)) {A B : List (Value × Value)} {x u v : Value} (h : MapIs W m (A ++ (x, u) :: B)) (hk : ∀ p ∈ A ++ (x, u) :: B, ∃ l, keyOf P kT p.1 = some l) {lx : Lit} (hx : keyOf P kT x = some lx) (hA : ∀ p ∈ A, p.1 ≠ x) (hB : ∀ p ∈ B, p.1 ≠ x) :
  ∃ W', (Instr.mapUpdate mT (.map (some m)) x v).run P W = .ok () W' ∧ MapIs W' m (A ++ (x, v) :: B) ∧ W.grownBy W' (some m) ∧ W'.heap.size = W.heap.size := by
 have hl := h.lt
 obtain ⟨es, clock, hb, he, hst⟩ := h
 have hk' : ∀ e ∈ es.toList, ∃ l, keyOf P kT e.key = some l := fun e h => hk (e.key, e.val) (by rw [← he]; exact List.mem_map.2 ⟨e, h, rfl⟩)
 have hget : (getObj m).run P W = .ok (.map es clock) W := by simp [getObj, Sem.run, hb]
 have hset : ∀ o, (setObj m o).run P W = .ok () (W.putObj m o) := fun o => by simp [setObj, Sem.run, hb, World.putObj]
 have hlen : es.toList.length = A.length + 1 + B.length := by
  have := congrArg List.length he
  simp only [List.length_map, List.length_append, List.length_cons] at this
  omega
 have hlt : A.length < es.toList.length := by omega
 have hat : (es.toList[A.length].key, es.toList[A.length].val) = (x, u) := by
  have h1 : (es.toList.map fun e => (e.key, e.val))[A.length]? = (A ++ (x, u) :: B)[A.length]? := by rw [he]
  rw [List.getElem?_map, List.getElem?_eq_getElem hlt, List.getElem?_append_right (Nat.le_refl _), Nat.sub_self] at h1
  simpa using h1
 rcases K.find W hx es.toList hk' with ⟨hf, hne⟩ | ⟨j, e, hf, hj, hkey⟩
 ·exact absurd (Prod.mk.inj hat).1 (hne _ (List.getElem_mem hlt))
 ·have hjl : j = A.length := by
   have h1 : (A ++ (x, u) :: B)[j]? = some (e.key, e.val) := by rw [← he, List.getElem?_map, hj]; rfl
   rw [hkey] at h1
   rcases Nat.lt_trichotomy j A.length with hc | hc | hc
   ·rw [List.getElem?_append_left hc] at h1
    exact absurd rfl (hA _ (List.mem_of_getElem? h1))
   ·exact hc
   ·rw [List.getElem?_append_right (by omega)] at h1
    obtain ⟨k, hk⟩ : ∃ k, j - A.length = k + 1 := ⟨j - A.length - 1, by omega⟩
    rw [hk, List.getElem?_cons_succ] at h1
    exact absurd rfl (hB _ (List.mem_of_getElem? h1))
  subst hjl
  have he0 : e = es.toList[A.length] := by rw [List.getElem?_eq_getElem hlt] at hj; exact (Option.some.inj hj).symm
  have hsz : A.length < es.size := by simpa using hlt
  have hkst : ((es[A.length]?).map (·.key)).getD x = x := by
   rw [Array.getElem?_eq_getElem hsz]
   simp only [Option.map_some, Option.getD_some]
   have : es[A.length] = e := by rw [he0]; simp
   rw [this, hkey]
  refine ⟨W.putObj m (.map (es.modify A.length fun e => { e with key := x, val := v }) clock), ?_, ⟨es.modify A.length (fun e => { e with key := x, val := v }), clock, by simp [World.putObj, hl], ?_, ?_, ?_⟩, grownBy_putObj' W m _, by simp [World.putObj]⟩
  ·simp [Instr.mapUpdate, underlying, ht, hget, K.check W _ hx, hf, hset, Result.andThen, hkst, K.stays W hx]
  ·apply List.ext_getElem?
   intro i
   rw [List.getElem?_map, Array.toList_modify, List.getElem?_modify]
   have hb2 : (es.toList.map fun e => (e.key, e.val))[i]? = (A ++ (x, u) :: B)[i]? := by rw [he]
   rw [List.getElem?_map] at hb2
   by_cases hi : A.length = i
   ·subst hi
    rw [List.getElem?_eq_getElem hlt, List.getElem?_append_right (Nat.le_refl _), Nat.sub_self]
    simp
   ·simp only [if_neg hi]
    have e1 : (A ++ (x, v) :: B)[i]? = (A ++ (x, u) :: B)[i]? := by
     rcases Nat.lt_or_ge i A.length with hc | hc
     ·rw [List.getElem?_append_left hc, List.getElem?_append_left hc]
     ·rw [List.getElem?_append_right hc, List.getElem?_append_right hc]
      obtain ⟨k, hk⟩ : ∃ k, i - A.length = k + 1 := ⟨i - A.length - 1, by omega⟩
      rw [hk, List.getElem?_cons_succ, List.getElem?_cons_succ]
    rw [e1, ← hb2]
    simp
  ·intro e2 he2
   rw [Array.toList_modify] at he2
   obtain ⟨e3, h3, h4⟩ := mem_mod he2
   rw [h4]
   exact hst.1 e3 h3
  ·rw [Array.toList_modify]
   exact pair_mod hst.2
end
end Go.Proofs.YtokeamebcdhnpaaGreatDoor
end

section
namespace Go.Proofs.YtokeamebcdhnpaaGreatDoor
open Go.RowKit Go.Maps
open Go.ChangeMaps (setBlock)

section
variable {P : Program} {kT eT mT : TypeId} {W : World} {m r : Nat} {kv : List (Value × Value)} {I : List Nat}
/-- Block r goes over the map m, which holds kv; the entries at the places I are still to come. -/
def MRng (W : World) (m r : Nat) (kv : List (Value × Value)) (I : List Nat) : Prop :=
 ∃ es clock since seen c0, W.heap[m]? = some (.map es clock) ∧ es.toList.map (fun e => (e.key, e.val)) = kv ∧ es.toList.Pairwise (fun x y => x.born ≠ y.born) ∧
  W.heap[r]? = some (.mapIter (some m) since seen c0) ∧ (∀ x ∈ es.toList, x.born < since) ∧ since ≤ c0 ∧ since ≤ clock ∧ ∀ i, i ∈ I ↔ ∃ h : i < es.toList.length, seen.contains es.toList[i].born = false
theorem MRng.of_blk {W' : World} (h : MRng W m r kv I) (hm : W'.heap[m]? = W.heap[m]?) (hr : W'.heap[r]? = W.heap[r]?) : MRng W' m r kv I ∧ W'.rangeLeft m r = W.rangeLeft m r := by
 obtain ⟨es, clock, since, seen, c0, h1, h2, h3, h4, h5⟩ := h
 refine ⟨⟨es, clock, since, seen, c0, hm.trans h1, h2, h3, hr.trans h4, h5⟩, ?_⟩
 unfold World.rangeLeft
 rw [hm, hr]
theorem MRng.lt (h : MRng W m r kv I) : m < W.heap.size ∧ r < W.heap.size ∧ m ≠ r := by
 obtain ⟨es, clock, since, seen, c0, h1, h2, h3, h4, h5⟩ := h
 refine ⟨blk_lt h1, blk_lt h4, ?_⟩
 rintro rfl
 rw [h1] at h4
 cases h4
theorem pair_nodup {l : List MapEntry} (h : l.Pairwise fun x y => x.born ≠ y.born) : (l.map (·.born)).Nodup := by
 unfold List.Nodup
 rw [List.pairwise_map]
 exact h
/-- The loop begins. -/
theorem MRng.begin (h : MapIs W m kv) (ht : P.underlying mT = some (.map kT eT)) : ∃ W', (Instr.range mT (.map (some m))).run P W = .ok (.pointer (some ⟨W.heap.size, 0, none⟩)) W' ∧ MRng W' m W.heap.size kv (List.range kv.length) ∧ W.grownBy W' none ∧ W'.heap.size = W.heap.size + 1 := by
 have hl := h.lt
 obtain ⟨es, clock, hb, rfl, hst⟩ := h
 refine ⟨_, run_range_map W mT kT eT m es clock ht hb, ⟨es, clock, clock, #[], clock, (Below.heap_alloc W _ m hl).trans hb, rfl, hst.2, World.alloc_heap_new W _, hst.1, Nat.le_refl _, Nat.le_refl _, fun i => ?_⟩, World.grownBy_alloc W _ none, by simp⟩
 simp
/-- The step. -/
theorem MRng.step (h : MRng W m r kv I) (ty : TypeId) :
  ((∀ i, i ∉ I) ∧ (Instr.next (.pointer (some ⟨r, 0, none⟩)) false ty).run P W = .ok (.tuple #[.bool false]) W) ∨
  ∃ i, ∃ hi : i < kv.length, ∃ W', i ∈ I ∧ (Instr.next (.pointer (some ⟨r, 0, none⟩)) false ty).run P W = .ok (.tuple #[.bool true, kv[i].1, kv[i].2]) W' ∧ (∀ I', (∀ j, j ∈ I' ↔ j ∈ I ∧ j ≠ i) → MRng W' m r kv I') ∧ W'.rangeLeft m r < W.rangeLeft m r ∧
   W.grownBy W' (some r) ∧ W'.heap.size = W.heap.size ∧ (Instr.entry (.pointer (some ⟨r, 0, none⟩))).run P W' = .ok (.tuple #[kv[i].1, kv[i].2]) W' := by
 have hlt := h.lt
 obtain ⟨es, clock, since, seen, c0, h1, rfl, h3, h4, h5, h6, h7, h8⟩ := h
 rcases run_next_at (P := P) W ty r m since c0 seen es clock h4 h1 h5 h6 with ⟨h0, hrun⟩ | ⟨e, he, w1, hal, hrun⟩
 ·refine .inl ⟨fun i hi => ?_, hrun⟩
  obtain ⟨hh, hs⟩ := (h8 i).1 hi
  have := all_seen es seen h0 _ (List.getElem_mem hh)
  rw [this] at hs
  cases hs
 ·obtain ⟨hem, hes⟩ := mem_left he
  obtain ⟨i, hi, rfl⟩ := List.mem_iff_getElem.1 hem
  have hr1 : w1.heap[r]? = some (.mapIter (some m) since seen c0) := by rcases hal with rfl | rfl <;> exact h4
  have hb1 : w1.heap[m]? = some (.map es clock) := by rcases hal with rfl | rfl <;> exact h1
  have hsz1 : w1.heap.size = W.heap.size := by rcases hal with rfl | rfl <;> rfl
  have hnew : (setBlock w1 r (.mapIter (some m) since (seen.push es.toList[i].born) clock)).heap[r]? = some (.mapIter (some m) since (seen.push es.toList[i].born) clock) := by
   unfold setBlock
   simp [hsz1, hlt.2.1]
  have hold : ∀ k, k ≠ r → (setBlock w1 r (.mapIter (some m) since (seen.push es.toList[i].born) clock)).heap[k]? = w1.heap[k]? := fun k hk => by
   unfold setBlock
   exact Array.getElem?_setIfInBounds_ne (Ne.symm hk)
  have hb' := (hold m hlt.2.2).trans hb1
  refine .inr ⟨i, by simpa using hi, _, (h8 i).2 ⟨hi, hes⟩, by simpa using hrun, fun I' hI' => ⟨es, clock, since, seen.push es.toList[i].born, clock, hb', rfl, h3, hnew, h5, h7, h7, fun j => ?_⟩, ?_, ?_, ?_, ?_⟩
  ·rw [hI', h8]
   constructor
   ·rintro ⟨⟨hj, hs⟩, hne⟩
    refine ⟨hj, ?_⟩
    rw [Array.contains_push, hs, Bool.false_or]
    have : es.toList[j].born ≠ es.toList[i].born := by
     rcases Nat.lt_or_gt_of_ne hne with hc | hc
     ·exact List.pairwise_iff_getElem.1 h3 j i hj hi hc
     ·exact (List.pairwise_iff_getElem.1 h3 i j hi hj hc).symm
    simpa using this
   ·rintro ⟨hj, hs⟩
    rw [Array.contains_push, Bool.or_eq_false_iff] at hs
    refine ⟨⟨hj, hs.1⟩, ?_⟩
    rintro rfl
    simp at hs
  ·unfold World.rangeLeft
   rw [hb', hnew, h1, h4]
   exact left_shrinks es seen _ he
  ·rcases hal with rfl | rfl
   ·exact ⟨rfl, rfl, rfl, by simp [setBlock], fun k _ hk => hold k (fun e1 => hk (by rw [e1]))⟩
   ·exact ⟨rfl, rfl, rfl, by show _ ≤ (W.drew.heap.setIfInBounds _ _).size; rw [Array.size_setIfInBounds]; exact Nat.le_refl _, fun k _ hk => hold k (fun e1 => hk (by rw [e1]))⟩
  ·rcases hal with rfl | rfl <;> simp [setBlock]
  ·have := run_entry_at (P := P) _ r m since seen es clock es.toList[i] hnew hb' hem (pair_nodup h3)
   simpa using this
/-- The same at the operations. -/
theorem wpList_range_is {ops : Array Oper} {rest : List Oper} {o : Oper} {a : Act} {Q : Exit → Act → World → Prop} (hg : o.guard = none) (x : Operand) (hop : o.op = Op.range mT x) (ht : P.underlying mT = some (.map kT eT)) (hm : a.eval x = .map (some m)) (h : MapIs W m kv)
  (hK : ∀ W', MRng W' m W.heap.size kv (List.range kv.length) → W.grownBy W' none → W'.heap.size = W.heap.size + 1 → wpList P ops Q rest (a.put o.dst (.pointer (some ⟨W.heap.size, 0, none⟩))) W') : wpList P ops Q (o :: rest) a W := by
 refine wpList_plain hg fun K' hK' => ?_
 obtain ⟨W', hrun, r1, r2, r3⟩ := MRng.begin h ht
 unfold Oper.wp
 simp [execOp, hop, hm, hrun, Result.andThen]
 exact hK' _ _ (hK W' r1 r2 r3)
theorem wpList_next_is {ops : Array Oper} {rest : List Oper} {o : Oper} {a : Act} {Q : Exit → Act → World → Prop} (hg : o.guard = none) (it : Operand) (hop : o.op = Op.next it false) (hit : a.eval it = .pointer (some ⟨r, 0, none⟩)) (h : MRng W m r kv I)
  (hDone : (∀ i, i ∉ I) → wpList P ops Q rest (a.put o.dst (.tuple #[.bool false])) W)
  (hMore : ∀ (i : Nat) (hi : i < kv.length) (W' : World), i ∈ I → (∀ I', (∀ j, j ∈ I' ↔ j ∈ I ∧ j ≠ i) → MRng W' m r kv I') → W'.rangeLeft m r < W.rangeLeft m r → W.grownBy W' (some r) → W'.heap.size = W.heap.size →
   (Instr.entry (.pointer (some ⟨r, 0, none⟩))).run P W' = .ok (.tuple #[kv[i].1, kv[i].2]) W' → wpList P ops Q rest (a.put o.dst (.tuple #[.bool true, kv[i].1, kv[i].2])) W') : wpList P ops Q (o :: rest) a W := by
 refine wpList_plain hg fun K' hK' => ?_
 unfold Oper.wp
 rcases h.step (P := P) o.type with ⟨h0, hrun⟩ | ⟨i, hi, W', hiI, hrun, h1, h2, h3, h4, h5⟩
 ·simp [execOp, hop, hit, hrun, Result.andThen]
  exact hK' _ _ (hDone h0)
 ·simp [execOp, hop, hit, hrun, Result.andThen]
  exact hK' _ _ (hMore i hi W' hiI h1 h2 h3 h4 h5)
end
end Go.Proofs.YtokeamebcdhnpaaGreatDoor
end
