/-
  What a world keeps while it grows.
-/
import Derived.Test.YteokfknkcbmigaaDoorRows
import Derived.WalkKit
import Derived.WalkSpells
import Derived.WalkLawsBesides
import Derived.RangeFuncBox
import Derived.RangeFuncNested
import Derived.Test.YteokfknkcbmigaaDoorBytes
namespace Go.Proofs.YteokfknkcbmigaaDoor
open Go.RowKit

/-- The world has grown: what was there is as it was. -/
def Ext (w w' : World) : Prop := Below w.heap.size w w'
theorem Ext.refl (w : World) : Ext w w := Below.refl _ _
theorem Ext.trans {a b c : World} (h : Ext a b) (k : Ext b c) : Ext a c := Below.trans h (Below.mono k h.size)
theorem Ext.alloc {a w : World} (h : Ext a w) (o : Obj) : Ext a (w.alloc o) := Below.alloc h h.size o
theorem Ext.iter {a w : World} (h : Ext a w) (s : ByteArray) (p : Nat) : Ext a (w.iter s p) := Ext.alloc h _
theorem Ext.drew {a w : World} (h : Ext a w) : Ext a w.drew := Below.drew h
theorem Ext.setCell {a w : World} (h : Ext a w) {p : Addr} (hp : a.heap.size ≤ p.block) (u : Value) : Ext a (w.setCell p u) := Below.setCell h hp u
theorem Ext.sz {a w : World} (h : Ext a w) : a.heap.size ≤ w.heap.size := h.size
theorem Ext.blk {a w : World} (h : Ext a w) {b : Nat} {o : Obj} (hb : a.heap[b]? = some o) : w.heap[b]? = some o := by
  rw [h.block b (by rcases Nat.lt_or_ge b a.heap.size with g | g; exact g; simp [Array.getElem?_eq_none g] at hb)]; exact hb
theorem Ext.cell {a w : World} (h : Ext a w) {p : Addr} {v : Value} (hb : a.cell? p = some v) : w.cell? p = some v := by
  rw [Below.cell h (World.block_lt_of_cell? _ _ hb)]; exact hb
theorem Ext.below {a w : World} (h : Ext a w) : Below a.heap.size a w := h
theorem Ext.of {a w : World} (h : Below a.heap.size a w) : Ext a w := h
theorem blk_lt {w : World} {b : Nat} {o : Obj} (hb : w.heap[b]? = some o) : b < w.heap.size := by
  rcases Nat.lt_or_ge b w.heap.size with g | g
  · exact g
  · simp [Array.getElem?_eq_none g] at hb
theorem cell_blk {w : World} {b : Nat} {c : Array Value} {t : TypeId} {f : Nat × Nat} (h : w.heap[b]? = some (.cells c t f)) (i : Nat) : w.cell? ⟨b, i, none⟩ = c[i]? := by
  simp [World.cell?, h]
theorem alloc_blk (w : World) (o : Obj) : (w.alloc o).heap[w.heap.size]? = some o := by
  show (w.heap.push o)[w.heap.size]? = _
  simp
theorem set_blk {w : World} {b : Nat} {c : Array Value} {t : TypeId} {f : Nat × Nat} (h : w.heap[b]? = some (.cells c t f)) (i : Nat) (v : Value) :
    (w.setCell ⟨b, i, none⟩ v).heap[b]? = some (.cells (c.setIfInBounds i v) t f) := by
  show (w.heap.modify b _)[b]? = _
  rw [Array.getElem?_modify, if_pos rfl, h]
  rfl
theorem frz_blk {w : World} {b : Nat} {c : Array Value} {t : TypeId} (h : w.heap[b]? = some (.cells c t (0, 0))) (i : Nat) : w.frozen? ⟨b, i, none⟩ = false := by
  simp [World.frozen?, h]
theorem ownsRow_ext {W W' : World} {base : Nat} {e : TypeId} {size : Nat} {v : Value} {n : Nat} {xs : List Value} (h : W.ownsRow base e size v n xs) (hx : Ext W W') : W'.ownsRow base e size v n xs := by
  obtain ⟨h1, h2⟩ := h
  refine ⟨h1, ?_⟩
  rcases h2 with h2 | ⟨g, cap, cur, rfl, a1, a2, a3⟩
  · exact .inl h2
  · exact .inr ⟨g, cap, cur, rfl, a1, hx.blk a2, a3⟩
theorem _root_.Go.Boxed.ext {W W' : World} {B : Nat} {t : TypeId} {v : Value} (h : Boxed W B t v) (hx : Ext W W') : Boxed W' B t v := Ext.blk hx h

/-- The world may have turned, but for these cells, and what is no cells in their blocks. -/
structure EOn (S : Addr → Prop) (W W' : World) : Prop where
  sz : W.heap.size ≤ W'.heap.size
  same : ∀ a, S a → a.block < W.heap.size → W'.cell? a = W.cell? a
  objs : ∀ m o, S ⟨m, 0, none⟩ → W.heap[m]? = some o → o.isCells = false → W'.heap[m]? = some o
theorem EOn.refl (S : Addr → Prop) (W : World) : EOn S W W := ⟨Nat.le_refl _, fun _ _ _ => rfl, fun _ _ _ h _ => h⟩
theorem EOn.trans {S : Addr → Prop} {A B C : World} (h : EOn S A B) (k : EOn S B C) : EOn S A C :=
  ⟨Nat.le_trans h.sz k.sz, fun a ha hb => (k.same a ha (Nat.lt_of_lt_of_le hb h.sz)).trans (h.same a ha hb), fun m o hm ho hc => k.objs m o hm (h.objs m o hm ho hc) hc⟩
theorem EOn.of_ext {S : Addr → Prop} {A B : World} (h : Ext A B) : EOn S A B := ⟨h.sz, fun _ _ hb => Below.cell h hb, fun _ _ _ ho _ => h.blk ho⟩
theorem EOn.cell {S : Addr → Prop} {A B : World} (h : EOn S A B) {a : Addr} {v : Value} (ha : S a) (hc : A.cell? a = some v) : B.cell? a = some v :=
  (h.same a ha (World.block_lt_of_cell? _ _ hc)).trans hc
/-- One block alone has turned. -/
theorem EOn.of_grown {S : Addr → Prop} {A B : World} {row : Option Nat} (hg : A.grownBy B row) (hS : ∀ a, S a → a.block < A.heap.size → some a.block ≠ row) : EOn S A B :=
  ⟨hg.size, fun a ha hb => World.cell?_of_block (hg.block a.block hb (hS a ha hb)), fun m o hm ho _ => (hg.block m (blk_lt ho) (hS ⟨m, 0, none⟩ hm (blk_lt ho))).trans ho⟩
end Go.Proofs.YteokfknkcbmigaaDoor
