/-
  What stays as it was when one row alone is turned.
-/
import Derived.Test.YtbbemipidkhmfaaWalkP
import Derived.Test.YtbbemipidkhmfaaRefD
namespace Go.Proofs.Ytbbemipidkhmfaa
open Go.RowKit

/-- All but one block is as it was. -/
def Off (g : Nat) (w w' : World) : Prop := w.heap.size ≤ w'.heap.size ∧ ∀ k, k < w.heap.size → k ≠ g → w'.heap[k]? = w.heap[k]?
theorem Off.refl (g : Nat) (w : World) : Off g w w := ⟨Nat.le_refl _, fun _ _ _ => rfl⟩
theorem Off.trans {g : Nat} {a b c : World} (h : Off g a b) (k : Off g b c) : Off g a c :=
  ⟨Nat.le_trans h.1 k.1, fun j hj hg => (k.2 j (Nat.lt_of_lt_of_le hj h.1) hg).trans (h.2 j hj hg)⟩
theorem Off.of_ext {g : Nat} {a b : World} (h : Ext a b) : Off g a b := ⟨h.sz, fun k hk _ => Below.block h k hk⟩
theorem Off.of_grown {g : Nat} {a b : World} (h : a.grownBy b (some g)) : Off g a b := ⟨h.size, fun k hk hg => h.block k hk (fun e => hg (by injection e))⟩
theorem Off.blk {g : Nat} {a b : World} (h : Off g a b) {k : Nat} {o : Obj} (hk : a.heap[k]? = some o) (hg : k ≠ g) : b.heap[k]? = some o := (h.2 k (blk_lt hk) hg).trans hk
theorem Off.cell {g : Nat} {a b : World} (h : Off g a b) {p : Addr} {v : Value} (hp : a.cell? p = some v) (hg : p.block ≠ g) : b.cell? p = some v :=
  (World.cell?_of_block (h.2 p.block (World.block_lt_of_cell? _ _ hp) hg)).trans hp
theorem Off.row {g : Nat} {a b : World} (h : Off g a b) {n : Nat} {e : TypeId} {size : Nat} {v : Value} {k : Nat} {xs : List Value} (hr : a.ownsRow n e size v k xs) (hg : g < n) : b.ownsRow n e size v k xs := by
  obtain ⟨h1, h2⟩ := hr
  refine ⟨h1, ?_⟩
  rcases h2 with h2 | ⟨g', cap, cur, rfl, a1, a2, a3⟩
  · exact .inl h2
  · exact .inr ⟨g', cap, cur, rfl, a1, h.blk a2 (by omega), a3⟩
theorem Tab.off {g n : Nat} {W W' : World} {T : Nat} {rest : Int} {f : Int → Int} {U : List (List Int)} {ix : List Nat} {ob oc ub uc : Nat} (h : Tab W T rest f U ix ob oc ub uc) (hfr : FreshT n W (.pointer (some ⟨T, 0, none⟩))) (hg : g < n) (ho : Off g W W') : Tab W' T rest f U ix ob oc ub uc := by
  obtain ⟨T', r, ob', on, oc', ub', un, uc', e, hb, h1, h2, h3⟩ := hfr
  cases e
  have e := h.hT.symm.trans hb
  simp only [Option.some.injEq, Obj.cells.injEq, Array.mk.injEq, List.cons.injEq, Value.slice.injEq, Addr.mk.injEq] at e
  obtain ⟨⟨-, ⟨⟨rfl, -⟩, -⟩, ⟨⟨rfl, -⟩, -⟩, -⟩, -⟩ := e
  exact ⟨ho.blk h.hT (by omega), fun n hn => ho.cell (h.ho n hn) (by show ob ≠ g; omega), fun k i hk hi => ho.cell (h.hu k i hk hi) (by show ub ≠ g; omega), h.ixl, h.ixok, h.okb, h.uok, h.nod, h.ule, h.r0⟩
theorem IsRef.off {g n : Nat} {W W' : World} {v : Value} {rest : Int} {L : List Rng} (h : IsRef n W v rest L) (hg : g < n) (ho : Off g W W') : IsRef n W' v rest L := by
  obtain ⟨Y, lv, e, h1, h2, h3, h4, h5⟩ := h
  exact ⟨Y, lv, e, ho.blk h1 (by omega), h2, ho.row h3 hg, h4, h5⟩
end Go.Proofs.Ytbbemipidkhmfaa
