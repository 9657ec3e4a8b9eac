/-
  What a world keeps while it grows; how ropes lie in memory.
-/
import Derived.Test.YtohpekbooapcjaaDoorRows
import Derived.WalkKit
import Derived.WalkSpells
import Derived.WalkLawsBesides
import Derived.Test.YtohpekbooapcjaaDoorMath
namespace Go.Proofs.YtohpekbooapcjaaDoor
open Go.RowKit Go.Rp

/-- The world has grown: what was there is as it was. -/
def Ext (w w' : World) : Prop := Below w.heap.size w w'
theorem Ext.refl (w : World) : Ext w w := Below.refl _ _
theorem Ext.trans {a b c : World} (h : Ext a b) (k : Ext b c) : Ext a c := Below.trans h (Below.mono k h.size)
theorem Ext.alloc {a w : World} (h : Ext a w) (o : Obj) : Ext a (w.alloc o) := Below.alloc h h.size o
theorem Ext.iter {a w : World} (h : Ext a w) (s : ByteArray) (p : Nat) : Ext a (w.iter s p) := Ext.alloc h _
theorem Ext.drew {a w : World} (h : Ext a w) : Ext a w.drew := Below.drew h
theorem Ext.setCell {a w : World} (h : Ext a w) {p : Addr} (hp : a.heap.size ≤ p.block) (u : Value) : Ext a (w.setCell p u) := Below.setCell h hp u
theorem Ext.sz {a w : World} (h : Ext a w) : a.heap.size ≤ w.heap.size := h.size
theorem Ext.blk {a w : World} (h : Ext a w) {b : Nat} {o : Obj} (hb : a.heap[b]? = some o) : w.heap[b]? = some o := by
  rw [h.block b (by rcases Nat.lt_or_ge b a.heap.size with g | g; exact g; simp [Array.getElem?_eq_none g] at hb)]; exact hb
theorem Ext.cell {a w : World} (h : Ext a w) {p : Addr} {v : Value} (hb : a.cell? p = some v) : w.cell? p = some v := by
  rw [Below.cell h (World.block_lt_of_cell? _ _ hb)]; exact hb
theorem Ext.below {a w : World} (h : Ext a w) : Below a.heap.size a w := h
theorem Ext.of {a w : World} (h : Below a.heap.size a w) : Ext a w := h
theorem blk_lt {w : World} {b : Nat} {o : Obj} (hb : w.heap[b]? = some o) : b < w.heap.size := by
  rcases Nat.lt_or_ge b w.heap.size with g | g
  · exact g
  · simp [Array.getElem?_eq_none g] at hb
theorem cell_blk {w : World} {b : Nat} {c : Array Value} {t : TypeId} {f : Nat × Nat} (h : w.heap[b]? = some (.cells c t f)) (i : Nat) : w.cell? ⟨b, i, none⟩ = c[i]? := by
  simp [World.cell?, h]
theorem alloc_blk (w : World) (o : Obj) : (w.alloc o).heap[w.heap.size]? = some o := by
  show (w.heap.push o)[w.heap.size]? = _
  simp

theorem alloc2_blk (w : World) (a b : Obj) : ((w.alloc a).alloc b).heap[w.heap.size]? = some a ∧ ((w.alloc a).alloc b).heap[w.heap.size + 1]? = some b := by
  refine ⟨((Ext.refl _).alloc _).blk (alloc_blk w a), ?_⟩
  have := alloc_blk (w.alloc a) b
  simpa using this
theorem alloc3_blk (w : World) (a b c : Obj) : (((w.alloc a).alloc b).alloc c).heap[w.heap.size]? = some a ∧ (((w.alloc a).alloc b).alloc c).heap[w.heap.size + 1]? = some b ∧ (((w.alloc a).alloc b).alloc c).heap[w.heap.size + 1 + 1]? = some c := by
  obtain ⟨h1, h2⟩ := alloc2_blk w a b
  refine ⟨((Ext.refl _).alloc _).blk h1, ((Ext.refl _).alloc _).blk h2, ?_⟩
  have := alloc_blk ((w.alloc a).alloc b) c
  simpa using this

def nRunes (s : ByteArray) : Nat := runes s.data.toList
def nUnits (s : ByteArray) : Nat := units s.data.toList
def nBreaks (s : ByteArray) : Nat := (s.data.toList.filter (· == 10)).length
def hdB (s : ByteArray) : ByteArray := s.extract 0 (min 3 s.size)
def tlB (s : ByteArray) : ByteArray := s.extract (s.size - 3) s.size
def sumA (s : ByteArray) : Array Value := #[.int .i64 (s.size : Nat), .int .i64 (nRunes s : Nat), .int .i64 (nUnits s : Nat), .int .i64 (nBreaks s : Nat), .string (hdB s), .string (tlB s)]

inductive T where
  | leaf (s : ByteArray)
  | br (a b : T)
def T.text : T → ByteArray
  | .leaf s => s
  | .br a b => a.text ++ b.text
def T.deep : T → Nat
  | .leaf _ => 1
  | .br a b => max a.deep b.deep + 1

inductive IsNode (w : World) : Value → T → Prop where
  | leaf (s : ByteArray) (h : 0 < s.size) (h2 : s.size ≤ 256) : IsNode w (.iface 92 (.string s)) (.leaf s)
  | br (blk : Nat) (va vb : Value) (a b : T) (ha : IsNode w va a) (hb : IsNode w vb b) (hd : a.deep ≤ b.deep + 1 ∧ b.deep ≤ a.deep + 1)
     (hc : w.heap[blk]? = some (.cells #[va, vb, .int .i64 ((a.text ++ b.text).size : Nat), .int .i64 (nRunes (a.text ++ b.text) : Nat), .int .i64 (nUnits (a.text ++ b.text) : Nat), .int .i64 (nBreaks (a.text ++ b.text) : Nat), .string (hdB (a.text ++ b.text)), .string (tlB (a.text ++ b.text)), .int .i64 ((max a.deep b.deep + 1 : Nat))] 96 (0, 0)))
     : IsNode w (.iface 94 (.pointer (some ⟨blk, 0, none⟩))) (.br a b)

theorem IsNode.mono {w w' : World} (h : Ext w w') {v : Value} {t : T} (hn : IsNode w v t) : IsNode w' v t := by
  induction hn with
  | leaf s h1 h2 => exact .leaf s h1 h2
  | br blk va vb a b ha hb hd hc iha ihb => exact .br blk va vb a b iha ihb hd (h.blk hc)

theorem IsNode.size {w : World} {v : Value} {t : T} (hn : IsNode w v t) : 0 < t.text.size := by
  induction hn with
  | leaf s h1 h2 => exact h1
  | br blk va vb a b ha hb hd hc iha ihb => simp only [T.text, ByteArray.size_append]; omega
theorem T.deep_pos (t : T) : 1 ≤ t.deep := by cases t <;> simp [T.deep]
/-- As deep as may be: two levels want twice the bytes. -/
theorem IsNode.flat {w : World} {v : Value} {t : T} (hn : IsNode w v t) : 2 ^ ((t.deep - 1) / 2) ≤ t.text.size ∧ 2 ^ (t.deep / 2) ≤ 2 * t.text.size := by
  induction hn with
  | leaf s h1 h2 => simp [T.deep, T.text]; omega
  | br blk va vb a b ha hb hd hc iha ihb =>
    have pa := a.deep_pos
    have pb := b.deep_pos
    simp only [T.text, ByteArray.size_append, T.deep]
    obtain ⟨a1, a2⟩ := iha
    obtain ⟨b1, b2⟩ := ihb
    have key : ∀ x y : Nat, x ≤ y → 2 ^ x ≤ 2 ^ y := fun x y h => Nat.pow_le_pow_right (by omega) h
    by_cases g : a.deep ≤ b.deep
    · rw [Nat.max_eq_right g]
      have e1 := key ((b.deep - 1) / 2) (a.deep / 2) (by omega)
      have e2 := key ((b.deep + 1 - 1) / 2) ((b.deep) / 2) (by omega)
      have e3 : 2 ^ ((b.deep + 1) / 2) = 2 * 2 ^ ((b.deep - 1) / 2) := by rw [show (b.deep + 1) / 2 = (b.deep - 1) / 2 + 1 from by omega, Nat.pow_succ]; omega
      have e4 := key ((b.deep - 1) / 2 - 0) ((b.deep - 1) / 2) (by omega)
      have e5 := key (b.deep / 2) ((a.deep - 1) / 2 + 1) (by omega)
      rw [Nat.pow_succ] at e5
      constructor
      · omega
      · omega
    · rw [Nat.max_eq_left (by omega)]
      have e3 : 2 ^ ((a.deep + 1) / 2) = 2 * 2 ^ ((a.deep - 1) / 2) := by rw [show (a.deep + 1) / 2 = (a.deep - 1) / 2 + 1 from by omega, Nat.pow_succ]; omega
      have e5 := key (a.deep / 2) ((b.deep - 1) / 2 + 1) (by omega)
      have e6 := key ((a.deep - 1) / 2) (b.deep / 2) (by omega)
      rw [Nat.pow_succ] at e5
      have e7 := key ((a.deep + 1 - 1) / 2) (a.deep / 2) (by omega)
      constructor
      · omega
      · omega

/-- A node, or nil. -/
def IsTree (w : World) (v : Value) : Option T → Prop
  | none => v = .nilIface
  | some t => IsNode w v t
def txt : Option T → ByteArray
  | none => ByteArray.empty
  | some t => t.text
def dp : Option T → Nat
  | none => 0
  | some t => t.deep
theorem IsTree.mono {w w' : World} (h : Ext w w') {v : Value} {o : Option T} (hn : IsTree w v o) : IsTree w' v o := by
  cases o with
  | none => exact hn
  | some t => exact IsNode.mono h hn

inductive IsRope (w : World) : Value → Option T → Prop where
  | nil : IsRope w (.pointer none) none
  | mk (b : Nat) (n : Value) (o : Option T) (hn : IsTree w n o) (hc : w.heap[b]? = some (.cells #[n] 64 (0, 0))) : IsRope w (.pointer (some ⟨b, 0, none⟩)) o
theorem IsRope.mono {w w' : World} (h : Ext w w') {v : Value} {o : Option T} (hn : IsRope w v o) : IsRope w' v o := by
  cases hn with
  | nil => exact .nil
  | mk b n o hn hc => exact .mk b n o (hn.mono h) (h.blk hc)

end Go.Proofs.YtohpekbooapcjaaDoor
