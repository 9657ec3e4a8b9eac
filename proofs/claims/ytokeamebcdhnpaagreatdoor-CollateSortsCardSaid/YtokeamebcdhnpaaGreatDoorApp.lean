/-
 Appending what was just laid, or a row that is owned, to a slice of the call's own.
-/
import Derived.Test.YtokeamebcdhnpaaGreatDoorWalkC
import Derived.Test.YtokeamebcdhnpaaGreatDoorPlanIn
namespace Go.Proofs.YtokeamebcdhnpaaGreatDoor
open Go.RowKit

/-- All blocks but those of rows of one kind stay. -/
def KeepTy (e : TypeId) (W W' : World) : Prop := ∀ (b : Nat) (o : Obj), W.heap[b]? = some o → (∀ c z, o ≠ .cells c e z) → W'.heap[b]? = some o
theorem KeepTy.of_ext {e : TypeId} {W W' : World} (h : Ext W W') : KeepTy e W W' := fun b o hb _ => (h.block b (by
 apply Decidable.byContradiction
 intro hge
 rw [Array.getElem?_eq_none (by omega)] at hb
 cases hb)).trans hb
theorem KeepTy.trans {e : TypeId} {A B C : World} (h : KeepTy e A B) (k : KeepTy e B C) : KeepTy e A C := fun b o hb hn => k b o (h b o hb hn) hn
theorem KeepTy.of_grown {e : TypeId} {W W' : World} {base size n : Nat} {v : Value} {xs : List Value} (hown : W.ownsRow base e size v n xs) (hg : W.grownBy W' v.ownBlock) : KeepTy e W W' := fun b o hb hn => by
 refine (hg.block b ?_ ?_).trans hb
 ·apply Decidable.byContradiction
  intro hge
  rw [Array.getElem?_eq_none (by omega)] at hb
  cases hb
 ·intro eb
  rcases hown.2 with ⟨rfl, _⟩ | ⟨g, cap, cur, rfl, _, hgb, _⟩
  ·simp [Value.ownBlock] at eb
  ·obtain rfl : b = g := by simpa [Value.ownBlock] using eb
   rw [hb] at hgb
   cases hgb
   exact hn _ _ rfl
section
variable {P : Program} {ops : Array Oper} {rest : List Oper} {o : Oper} {a : Act} {Q : Exit → Act → World → Prop}
/-- One element, just laid. -/
theorem wpList_app (hgd : o.guard = none) (s x : Operand) (t : TypeId) (ho : o.op = .call { callee := .builtin .append, args := #[s, x], argTypes := #[t, t] })
  (e : TypeId) (i : TypeInfo) (z : Value) (size bytes : Nat) (ht : P.underlying t = some (.slice e)) (hi : P.info? e = some i) (hz : i.zero = some z)
  (hsize : i.size = size) (hby : i.bytes = bytes) (hzs : z.cells.size = size) (hsz : 0 < size)
  {W0 wr : World} {v : Value} {n : Nat} {xs : List Value} (hs : a.eval s = v) (hown : wr.ownsRow W0.heap.size e size v n xs) (hx : Ext W0 wr)
  (news : List Value) (hxv : a.eval x = .slice (some ⟨wr.heap.size, 0, none⟩) 1 1) (hl : news.length = size) (h1 : ∀ u ∈ news, u.oneCell' = true)
  (hn : n ≤ 100000000) (hb : bytes ≤ 1000)
  (h : ∀ v' w', w'.ownsRow W0.heap.size e size v' (n + 1) (xs ++ news) → Ext W0 w' → KeepTy e wr w' → wpList P ops Q rest (a.put o.dst v') w') : wpList P ops Q (o :: rest) a (wr.alloc (.cells news.toArray e)) := by
 have hx1 := hx.alloc (.cells news.toArray e)
 have hown1 := ownsRow_ext hown ((Ext.refl wr).alloc (.cells news.toArray e))
 have hsz1 : W0.heap.size ≤ (wr.alloc (.cells news.toArray e)).heap.size := hx1.sz
 refine wpList_append_own _ hgd s x t ho W0.heap.size e i z size bytes ht hi hz hsize hby hzs hsz v n xs hs hown1 ⟨wr.heap.size, 0, none⟩ 1 1 news hxv (by omega) (World.news_of_block (World.alloc_heap_new wr (.cells news.toArray e))) h1 (by unfold maxLen; omega) (Nat.le_trans (Nat.mul_le_mul (show n + 1 ≤ 100000001 by omega) hb) (by decide)) hsz1 ?_
 intro v' w' h2 h3 _
 exact h v' w' h2 (Below.grown hx1 h3 hsz1 (fun k ek => (hown1.lt k ek).1)) ((KeepTy.of_ext ((Ext.refl wr).alloc _)).trans (KeepTy.of_grown hown1 h3))
/-- A row of cells that stand somewhere. -/
theorem wpList_apps (hgd : o.guard = none) (s x : Operand) (t : TypeId) (ho : o.op = .call { callee := .builtin .append, args := #[s, x], argTypes := #[t, t] })
  (e : TypeId) (i : TypeInfo) (z : Value) (size bytes : Nat) (ht : P.underlying t = some (.slice e)) (hi : P.info? e = some i) (hz : i.zero = some z)
  (hsize : i.size = size) (hby : i.bytes = bytes) (hzs : z.cells.size = size) (hsz : 0 < size)
  {W0 wr : World} {v : Value} {n : Nat} {xs : List Value} (hs : a.eval s = v) (hown : wr.ownsRow W0.heap.size e size v n xs) (hx : Ext W0 wr)
  (news : List Value) (g f m c : Nat) (hxv : a.eval x = .slice (some ⟨g, f, none⟩) m c) (hl : news.length = m * size) (hc : ∀ j (h : j < news.length), wr.cell? ⟨g, f + j, none⟩ = some news[j]) (h1 : ∀ u ∈ news, u.oneCell' = true)
  (hn : n + m ≤ 100000000) (hb : bytes ≤ 1000)
  (h : ∀ v' w', w'.ownsRow W0.heap.size e size v' (n + m) (xs ++ news) → Ext W0 w' → KeepTy e wr w' → wpList P ops Q rest (a.put o.dst v') w') : wpList P ops Q (o :: rest) a wr := by
 refine wpList_append_own _ hgd s x t ho W0.heap.size e i z size bytes ht hi hz hsize hby hzs hsz v n xs hs hown ⟨g, f, none⟩ m c news hxv hl (fun j u hu => ?_) h1 (by unfold maxLen; omega) (Nat.le_trans (Nat.mul_le_mul (show n + m ≤ 100000000 by omega) hb) (by decide)) hx.sz ?_
 ·obtain ⟨hj, e⟩ := List.getElem?_eq_some_iff.1 hu
  have := hc j hj
  rw [e] at this
  rw [Addr.add_lit]
  exact this
 ·intro v' w' h2 h3 _
  exact h v' w' h2 (Below.grown hx h3 hx.sz (fun k ek => (hown.lt k ek).1)) (KeepTy.of_grown hown h3)
/-- The same in a region that draws its order: the operation stands alone. -/
theorem wpG_apps {S : Addr → Prop} {bs : List Bool} {Q' : Exit → Act → World → Prop} (hgd : o.guard = none) (hQo : ∀ a w, ¬ gQ Q' .outgrown a w) (s x : Operand) (t : TypeId) (ho : o.op = .call { callee := .builtin .append, args := #[s, x], argTypes := #[t, t] })
  (e : TypeId) (i : TypeInfo) (z : Value) (size bytes : Nat) (ht : P.underlying t = some (.slice e)) (hi : P.info? e = some i) (hz : i.zero = some z)
  (hsize : i.size = size) (hby : i.bytes = bytes) (hzs : z.cells.size = size) (hsz : 0 < size)
  {W0 W1 wr : World} {v : Value} {n : Nat} {xs : List Value} (hs : a.eval s = v) (hown : W1.ownsRow W0.heap.size e size v n xs) (hx : Ext W0 W1) (hx1 : Ext W1 wr)
  (news : List Value) (g f m c : Nat) (hxv : a.eval x = .slice (some ⟨g, f, none⟩) m c) (hl : news.length = m * size) (hc : ∀ j (h : j < news.length), wr.cell? ⟨g, f + j, none⟩ = some news[j]) (h1 : ∀ u ∈ news, u.oneCell' = true)
  (hS : ∀ ad : Addr, S ad → ad.block < wr.heap.size → ∀ c z, wr.heap[ad.block]? ≠ some (.cells c e z))
  (hn : n + m ≤ 100000000) (hb : bytes ≤ 1000)
  (h : ∀ v' w', w'.ownsRow W0.heap.size e size v' (n + m) (xs ++ news) → Ext W0 w' → KeepTy e wr w' → wpG S P ops Q' bs rest (a.put o.dst v') w') : wpG S P ops Q' (false :: bs) (o :: rest) a wr := by
 intro w2 hx2
 have hw : Region.wanted o (yielded ops a.tmps) = true := by unfold Region.wanted; rw [hgd]
 refine ⟨hw, ?_⟩
 have hown2 := ownsRow_ext hown (hx1.trans hx2)
 have hx02 := hx.trans (hx1.trans hx2)
 refine wp_alone (ops := #[]) (by unfold Region.wanted; rw [hgd]) hQo ?_
 refine wpList_append_own _ hgd s x t ho W0.heap.size e i z size bytes ht hi hz hsize hby hzs hsz v n xs hs hown2 ⟨g, f, none⟩ m c news hxv hl (fun j u hu => ?_) h1 (by unfold maxLen; omega) (Nat.le_trans (Nat.mul_le_mul (show n + m ≤ 100000000 by omega) hb) (by decide)) hx02.sz ?_
 ·obtain ⟨hj, e⟩ := List.getElem?_eq_some_iff.1 hu
  have := hx2.cell (hc j hj)
  rw [e] at this
  rw [Addr.add_lit]
  exact this
 ·intro v' w' h2 h3 _
  refine ⟨EOn.of_grown h3 (fun ad hS' hlt eq => ?_), h v' w' h2 (Below.grown hx02 h3 hx02.sz (fun k ek => (hown2.lt k ek).1)) ((KeepTy.of_ext hx2).trans (KeepTy.of_grown hown2 h3))⟩
  rcases hown2.2 with ⟨rfl, _⟩ | ⟨g', cap, cur, rfl, hbase, hgb, _⟩
  ·simp [Value.ownBlock] at eq
  ·obtain rfl : ad.block = g' := by simpa [Value.ownBlock] using eq
   by_cases hlt2 : ad.block < wr.heap.size
   ·have hbl : ∃ ob, wr.heap[ad.block]? = some ob := ⟨_, Array.getElem?_eq_getElem hlt2⟩
    obtain ⟨ob, hob⟩ := hbl
    have := hx2.blk hob
    rw [hgb] at this
    cases this
    exact hS ad hS' hlt2 _ _ hob
   ·rcases hown.2 with ⟨e1, _⟩ | ⟨g2, cap2, cur2, e1, _, hgb2, _⟩
    ·cases e1
    ·cases e1
     have := blk_lt hgb2
     have := hx1.sz
     omega
end
end Go.Proofs.YtokeamebcdhnpaaGreatDoor
