/-
 Maps that a call makes and writes: which entries they hold, in the order in which they were laid.
-/
import Derived.Maps.OwnOps
import Derived.DeepKeys4
import Derived.Test.YtokeamebcdhnpaaGreatDoorPlans
namespace Go.Proofs.YtokeamebcdhnpaaGreatDoor
open Go.RowKit Go.Maps

section
variable {P : Program} {kT eT mT : TypeId} {W : World} {m : Nat} {kv : List (Value × Value)}

/-- What entries a map holds. -/
def MapIs (W : World) (m : Nat) (kv : List (Value × Value)) : Prop := ∃ es clock, W.heap[m]? = some (.map es clock) ∧ es.toList.map (fun e => (e.key, e.val)) = kv ∧ (∀ e ∈ es.toList, e.born < clock) ∧ es.toList.Pairwise (fun x y => x.born ≠ y.born)
theorem MapIs.new (W : World) : MapIs (W.alloc (.map #[] 0)) W.heap.size [] := ⟨#[], 0, World.alloc_heap_new W _, rfl, by simp, by simp⟩
theorem MapIs.lt (h : MapIs W m kv) : m < W.heap.size := by obtain ⟨_, _, hb, _⟩ := h; exact blk_lt hb
theorem MapIs.of_blk {W' : World} (h : MapIs W m kv) (hg : ∀ o, W.heap[m]? = some o → o.isCells = false → W'.heap[m]? = some o) : MapIs W' m kv := by
 obtain ⟨es, clock, hb, e⟩ := h
 exact ⟨es, clock, hg _ hb rfl, e⟩
theorem MapIs.kept {W' : World} {row : Option Nat} (h : MapIs W m kv) (hg : W.grownBy W' row) (hne : some m ≠ row) : MapIs W' m kv :=
 h.of_blk fun _ ho _ => (hg.block m h.lt hne).trans ho
theorem MapIs.ext {W' : World} (h : MapIs W m kv) (hx : Ext W W') : MapIs W' m kv := h.of_blk fun _ ho _ => hx.blk ho
/-- A look-up: what is there, or the type's zero. -/
theorem MapIs.look (K : Keyed P kT) (ht : P.underlying mT = some (.map kT eT)) (h : MapIs W m kv) (hk : ∀ p ∈ kv, ∃ l, keyOf P kT p.1 = some l) {x z : Value} {lx : Lit} (hx : keyOf P kT x = some lx) (hz : ∀ W, (zeroValue eT).run P W = .ok z W) (ok : Bool) :
  ∃ v b, (Instr.lookup mT (.map (some m)) x ok).run P W = .ok (if ok = true then .tuple #[v, .bool b] else v) W ∧ ((b = true ∧ (x, v) ∈ kv) ∨ (b = false ∧ v = z ∧ ∀ p ∈ kv, p.1 ≠ x)) := by
 obtain ⟨es, clock, hb, rfl, hst⟩ := h
 have hk' : ∀ e ∈ es.toList, ∃ l, keyOf P kT e.key = some l := fun e he => hk (e.key, e.val) (List.mem_map.2 ⟨e, he, rfl⟩)
 have hget : (getObj m).run P W = .ok (.map es clock) W := by simp [getObj, Sem.run, hb]
 rcases K.find W hx es.toList hk' with ⟨hf, hne⟩ | ⟨j, e, hf, hj, hkey⟩
 ·refine ⟨z, false, ?_, .inr ⟨rfl, rfl, ?_⟩⟩
  ·cases ok <;> simp [Instr.lookup, underlying, ht, hget, K.check W _ hx, hf, hz, Result.andThen]
  ·intro p hp
   obtain ⟨e, he, rfl⟩ := List.mem_map.1 hp
   exact hne e he
 ·refine ⟨e.val, true, ?_, .inl ⟨rfl, ?_⟩⟩
  ·cases ok <;> simp [Instr.lookup, underlying, ht, hget, K.check W _ hx, hf, Result.andThen]
  ·exact List.mem_map.2 ⟨e, List.mem_of_getElem? hj, by rw [hkey]⟩
theorem MapIs.there (K : Keyed P kT) (ht : P.underlying mT = some (.map kT eT)) (h : MapIs W m kv) (hk : ∀ p ∈ kv, ∃ l, keyOf P kT p.1 = some l) {x z : Value} {lx : Lit} (hx : keyOf P kT x = some lx) (hz : ∀ W, (zeroValue eT).run P W = .ok z W) {v : Value} (hv : (x, v) ∈ kv) (hu : ∀ v', (x, v') ∈ kv → v' = v) (ok : Bool) :
  (Instr.lookup mT (.map (some m)) x ok).run P W = .ok (if ok = true then .tuple #[v, .bool true] else v) W := by
 obtain ⟨v', b, hr, h1⟩ := h.look K ht hk hx hz ok
 rcases h1 with ⟨rfl, h1⟩ | ⟨rfl, _, h1⟩
 ·rw [hr, hu _ h1]
 ·exact absurd rfl (h1 _ hv)
theorem MapIs.none (K : Keyed P kT) (ht : P.underlying mT = some (.map kT eT)) (h : MapIs W m kv) (hk : ∀ p ∈ kv, ∃ l, keyOf P kT p.1 = some l) {x z : Value} {lx : Lit} (hx : keyOf P kT x = some lx) (hz : ∀ W, (zeroValue eT).run P W = .ok z W) (hv : ∀ p ∈ kv, p.1 ≠ x) (ok : Bool) :
  (Instr.lookup mT (.map (some m)) x ok).run P W = .ok (if ok = true then .tuple #[z, .bool false] else z) W := by
 obtain ⟨v', b, hr, h1⟩ := h.look K ht hk hx hz ok
 rcases h1 with ⟨rfl, h1⟩ | ⟨rfl, h1, _⟩
 ·exact absurd rfl (hv _ h1)
 ·rw [hr, h1]
/-- A store at a key that is not there. -/
theorem MapIs.put (K : Keyed P kT) (ht : P.underlying mT = some (.map kT eT)) (h : MapIs W m kv) (hk : ∀ p ∈ kv, ∃ l, keyOf P kT p.1 = some l) {x v : Value} {lx : Lit} (hx : keyOf P kT x = some lx) (hne : ∀ p ∈ kv, p.1 ≠ x) :
  ∃ W', (Instr.mapUpdate mT (.map (some m)) x v).run P W = .ok () W' ∧ MapIs W' m (kv ++ [(x, v)]) ∧ W.grownBy W' (some m) ∧ W'.heap.size = W.heap.size := by
 have hl := h.lt
 obtain ⟨es, clock, hb, rfl, hst⟩ := h
 have hk' : ∀ e ∈ es.toList, ∃ l, keyOf P kT e.key = some l := fun e he => hk (e.key, e.val) (List.mem_map.2 ⟨e, he, rfl⟩)
 have hget : (getObj m).run P W = .ok (.map es clock) W := by simp [getObj, Sem.run, hb]
 have hset : ∀ o, (setObj m o).run P W = .ok () (W.putObj m o) := fun o => by simp [setObj, Sem.run, hb, World.putObj]
 rcases K.find W hx es.toList hk' with ⟨hf, _⟩ | ⟨j, e, hf, hj, hkey⟩
 ·refine ⟨W.putObj m (.map (es.push { key := x, val := v, born := clock }) (clock + 1)), ?_, ⟨es.push { key := x, val := v, born := clock }, clock + 1, by simp [World.putObj, hl], by simp, ?_, ?_⟩, grownBy_putObj' W m _, by simp [World.putObj]⟩
  ·simp [Instr.mapUpdate, underlying, ht, hget, K.check W _ hx, hf, hset, Result.andThen]
  ·intro e he
   rw [Array.toList_push] at he
   rcases List.mem_append.1 he with he | he
   ·have := hst.1 e he; omega
   ·rw [List.mem_singleton] at he
    subst he
    exact Nat.lt_succ_self _
  ·rw [Array.toList_push]
   refine List.pairwise_append.2 ⟨hst.2, by simp, fun a ha b hb => ?_⟩
   rw [List.mem_singleton] at hb
   subst hb
   exact Nat.ne_of_lt (hst.1 a ha)
 ·exact absurd hkey (hne (e.key, e.val) (List.mem_map.2 ⟨e, List.mem_of_getElem? hj, rfl⟩))
theorem mem_mod {x v : Value} {l : List MapEntry} {j : Nat} {e : MapEntry} (h : e ∈ l.modify j fun e => { e with key := x, val := v }) : ∃ e3 ∈ l, e.born = e3.born := by
 obtain ⟨i, hi, rfl⟩ := List.mem_iff_getElem.1 h
 rw [List.length_modify] at hi
 rw [List.getElem_modify]
 split
 ·exact ⟨l[i], List.getElem_mem hi, rfl⟩
 ·exact ⟨l[i], List.getElem_mem hi, rfl⟩
theorem pair_mod {x v : Value} {l : List MapEntry} {j : Nat} (h : l.Pairwise fun a b => a.born ≠ b.born) : (l.modify j fun e => { e with key := x, val := v }).Pairwise fun a b => a.born ≠ b.born := by
 rw [List.pairwise_iff_getElem] at h ⊢
 intro a b ha hb hab
 rw [List.length_modify] at ha hb
 rw [List.getElem_modify, List.getElem_modify]
 have := h a b ha hb hab
 split <;> split <;> exact this
/-- A store at a key that is there: at the place of the pair. -/
theorem MapIs.set (K : Keyed P kT) (ht : P.underlying mT = some (.map kT eT)) {A B : List (Value × Value)} {x u v : Value} (h : MapIs W m (A ++ (x, u) :: B)) (hk : ∀ p ∈ A ++ (x, u) :: B, ∃ l, keyOf P kT p.1 = some l) {lx : Lit} (hx : keyOf P kT x = some lx) (hA : ∀ p ∈ A, p.1 ≠ x) (hB : ∀ p ∈ B, p.1 ≠ x) :
  ∃ W', (Instr.mapUpdate mT (.map (some m)) x v).run P W = .ok () W' ∧ MapIs W' m (A ++ (x, v) :: B) ∧ W.grownBy W' (some m) ∧ W'.heap.size = W.heap.size := by
 have hl := h.lt
 obtain ⟨es, clock, hb, he, hst⟩ := h
 have hk' : ∀ e ∈ es.toList, ∃ l, keyOf P kT e.key = some l := fun e h => hk (e.key, e.val) (by rw [← he]; exact List.mem_map.2 ⟨e, h, rfl⟩)
 have hget : (getObj m).run P W = .ok (.map es clock) W := by simp [getObj, Sem.run, hb]
 have hset : ∀ o, (setObj m o).run P W = .ok () (W.putObj m o) := fun o => by simp [setObj, Sem.run, hb, World.putObj]
 have hlen : es.toList.length = A.length + 1 + B.length := by
  have := congrArg List.length he
  simp only [List.length_map, List.length_append, List.length_cons] at this
  omega
 have hlt : A.length < es.toList.length := by omega
 have hat : (es.toList[A.length].key, es.toList[A.length].val) = (x, u) := by
  have h1 : (es.toList.map fun e => (e.key, e.val))[A.length]? = (A ++ (x, u) :: B)[A.length]? := by rw [he]
  rw [List.getElem?_map, List.getElem?_eq_getElem hlt, List.getElem?_append_right (Nat.le_refl _), Nat.sub_self] at h1
  simpa using h1
 rcases K.find W hx es.toList hk' with ⟨hf, hne⟩ | ⟨j, e, hf, hj, hkey⟩
 ·exact absurd (Prod.mk.inj hat).1 (hne _ (List.getElem_mem hlt))
 ·have hjl : j = A.length := by
   have h1 : (A ++ (x, u) :: B)[j]? = some (e.key, e.val) := by rw [← he, List.getElem?_map, hj]; rfl
   rw [hkey] at h1
   rcases Nat.lt_trichotomy j A.length with hc | hc | hc
   ·rw [List.getElem?_append_left hc] at h1
    exact absurd rfl (hA _ (List.mem_of_getElem? h1))
   ·exact hc
   ·rw [List.getElem?_append_right (by omega)] at h1
    obtain ⟨k, hk⟩ : ∃ k, j - A.length = k + 1 := ⟨j - A.length - 1, by omega⟩
    rw [hk, List.getElem?_cons_succ] at h1
    exact absurd rfl (hB _ (List.mem_of_getElem? h1))
  subst hjl
  have he0 : e = es.toList[A.length] := by rw [List.getElem?_eq_getElem hlt] at hj; exact (Option.some.inj hj).symm
  have hsz : A.length < es.size := by simpa using hlt
  have hkst : ((es[A.length]?).map (·.key)).getD x = x := by
   rw [Array.getElem?_eq_getElem hsz]
   simp only [Option.map_some, Option.getD_some]
   have : es[A.length] = e := by rw [he0]; simp
   rw [this, hkey]
  refine ⟨W.putObj m (.map (es.modify A.length fun e => { e with key := x, val := v }) clock), ?_, ⟨es.modify A.length (fun e => { e with key := x, val := v }), clock, by simp [World.putObj, hl], ?_, ?_, ?_⟩, grownBy_putObj' W m _, by simp [World.putObj]⟩
  ·simp [Instr.mapUpdate, underlying, ht, hget, K.check W _ hx, hf, hset, Result.andThen, hkst, K.stays W hx]
  ·apply List.ext_getElem?
   intro i
   rw [List.getElem?_map, Array.toList_modify, List.getElem?_modify]
   have hb2 : (es.toList.map fun e => (e.key, e.val))[i]? = (A ++ (x, u) :: B)[i]? := by rw [he]
   rw [List.getElem?_map] at hb2
   by_cases hi : A.length = i
   ·subst hi
    rw [List.getElem?_eq_getElem hlt, List.getElem?_append_right (Nat.le_refl _), Nat.sub_self]
    simp
   ·simp only [if_neg hi]
    have e1 : (A ++ (x, v) :: B)[i]? = (A ++ (x, u) :: B)[i]? := by
     rcases Nat.lt_or_ge i A.length with hc | hc
     ·rw [List.getElem?_append_left hc, List.getElem?_append_left hc]
     ·rw [List.getElem?_append_right hc, List.getElem?_append_right hc]
      obtain ⟨k, hk⟩ : ∃ k, i - A.length = k + 1 := ⟨i - A.length - 1, by omega⟩
      rw [hk, List.getElem?_cons_succ, List.getElem?_cons_succ]
    rw [e1, ← hb2]
    simp
  ·intro e2 he2
   rw [Array.toList_modify] at he2
   obtain ⟨e3, h3, h4⟩ := mem_mod he2
   rw [h4]
   exact hst.1 e3 h3
  ·rw [Array.toList_modify]
   exact pair_mod hst.2
end
end Go.Proofs.YtokeamebcdhnpaaGreatDoor
