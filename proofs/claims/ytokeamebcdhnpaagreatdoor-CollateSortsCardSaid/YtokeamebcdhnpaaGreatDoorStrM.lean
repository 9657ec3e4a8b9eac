/-
 Slices of texts: how long they are. A slice of texts that came in.
-/
import Derived.Test.YtokeamebcdhnpaaGreatDoorApp
import Derived.SliceStrings
import Derived.Test.YtokeamebcdhnpaaGreatDoorRowBase
import Derived.Test.YtokeamebcdhnpaaGreatDoorWalkIJ
section
namespace Go.Proofs.YtokeamebcdhnpaaGreatDoor
open Go.RowKit Go.Rp Go.Shelf Go.Maps

/-- A slice of texts. -/
def StrRow (w : World) (v : Value) (l : List ByteArray) : Prop :=
 ∃ p cap, v = .slice p l.length cap ∧ (l ≠ [] → ∃ b off, p = some ⟨b, off, none⟩ ∧ b < w.heap.size ∧ ∀ i (h : i < l.length), w.cell? ⟨b, off + i, none⟩ = some (.string l[i]))
theorem StrRow.mono {w w' : World} {v : Value} {l : List ByteArray} (hx : Ext w w') (h : StrRow w v l) : StrRow w' v l := by
 obtain ⟨p, cap, rfl, h2⟩ := h
 refine ⟨p, cap, rfl, fun hne => ?_⟩
 obtain ⟨b, off, rfl, hb, hc⟩ := h2 hne
 exact ⟨b, off, rfl, Nat.lt_of_lt_of_le hb hx.sz, fun i hi => hx.cell (hc i hi)⟩
theorem StrRow.form {w : World} {v : Value} {l : List ByteArray} (h : StrRow w v l) : ∃ p cap, v = .slice p l.length cap := by
 obtain ⟨p, cap, rfl, _⟩ := h
 exact ⟨p, cap, rfl⟩

/-- A slice of texts that came in: nil has no room. -/
def StrRowN (w : World) (v : Value) (l : List ByteArray) : Prop := StrRow w v l ∧ ∀ n c, v = .slice none n c → c = 0
def total : List ByteArray → Nat
 | [] => 0
 | s :: l => s.size + total l
theorem total_append (a b : List ByteArray) : total (a ++ b) = total a + total b := by
 induction a with
 | nil => simp [total]
 | cons s l ih => simp [total, ih]; omega
theorem total_step (l : List ByteArray) (k : Nat) (h : k < l.length) : total (l.take (k + 1)) = total (l.take k) + l[k].size := by
 rw [List.take_succ_eq_append_getElem h, total_append]
 simp [total]
theorem total_le (l : List ByteArray) (m : Nat) (h : ∀ s ∈ l, s.size ≤ m) : total l ≤ m * l.length := by
 induction l with
 | nil => simp [total]
 | cons s l ih =>
  have h1 := h s (by simp)
  have h2 := ih (fun x hx => h x (by simp [hx]))
  simp only [total, List.length_cons, Nat.mul_succ]
  omega
end Go.Proofs.YtokeamebcdhnpaaGreatDoor
end

section
namespace Go.Proofs.YtokeamebcdhnpaaGreatDoor
open Go.Shelf
open Go.ChangeShapes Go.WideShapes Go.ChangeAt Go.RowKit
open Go.ChangeMaps (open_string shut_string)

theorem cellsString : Tryz.prog.cellsOf 9 = 1 := by kernel_rfl
theorem weights_strs {H : Type} (l : List ByteArray) : ∀ s ∈ l, s.size ∈ DataW.weightsAll Tryz.checked.prog 9 (strs l : List (DataW H)) := by
 induction l with
 | nil => intro s hs; simp at hs
 | cons x l ih =>
  intro s hs
  simp only [strs, List.map_cons, DataW.weightsAll, DataW.weights, List.mem_append]
  rcases List.mem_cons.1 hs with rfl | h
  ·left
   rw [len_eq]
   simp
  ·right
   exact ih s h

set_option maxRecDepth 100000 in
/-- A slice of texts that came in. -/
theorem open_texts {H : Type} {enc : TypeId × Value → H} {W : World} {r : Reach} {base : Nat} {v : Value} {d : DataW H} {p : List MemPlace} (hv : Value.okWide Tryz.prog W r base 40 v)
  (h : DataW.Trod enc Tryz.prog W 0 (fun _ => true) true 40 v d p) :
  ∃ l : List ByteArray, StrRowN W v l ∧ ∀ s ∈ l, s.size ∈ d.weights Tryz.checked.prog 40 := by
 obtain ⟨a0, len0, cap0, rfl⟩ := okWide_slice Tryz.underlying40 hv
 obtain ⟨fuel, hf⟩ := h
 have hu : Tryz.checked.prog.underlying 40 = _ := Tryz.underlying40
 rcases open_strings Tryz.underlying40 Tryz.underlying9 cellsString hf with ⟨hcs, hx⟩ | ⟨a, len, cap, ss, hcs, _, hl, hm, hz, hx, hcell, hws⟩
 ·simp only [Value.cells, List.cons.injEq, and_true] at hcs
  obtain ⟨rfl, rfl, rfl⟩ := Value.slice.inj hcs
  exact ⟨[], ⟨⟨none, 0, rfl, fun h => absurd rfl h⟩, fun n c e => by cases e; rfl⟩, fun s hs => by simp at hs⟩
 ·simp only [Value.cells, List.cons.injEq, and_true] at hcs
  obtain ⟨rfl, rfl, rfl⟩ := Value.slice.inj hcs
  simp only [if_true] at hz
  simp only [Prod.mk.injEq] at hx
  obtain ⟨rfl, rfl⟩ := hx
  have hlen : (ss.take len0).length = len0 := by rw [List.length_take]; omega
  refine ⟨ss.take len0, ⟨⟨some a, cap0, by rw [hlen], fun hne => ?_⟩, fun n c e => by cases e⟩, fun s hs => ?_⟩
  ·have hpos : 0 < len0 := by
    apply Nat.pos_of_ne_zero
    intro e
    subst e
    simp at hne
   obtain ⟨ab, ao, spot⟩ := a
   have h0 := hcell 0 (by omega)
   have hspot : spot = none := by simpa [Addr.add] using World.cell?_spot h0
   subst hspot
   refine ⟨ab, ao, rfl, ?_, fun i hi => ?_⟩
   ·rw [Addr.add_lit] at h0
    simp only [World.cell?] at h0
    apply Decidable.byContradiction
    intro hge
    rw [Array.getElem?_eq_none (by omega)] at h0
    simp at h0
   ·have hi2 : i < len0 := by omega
    have := hcell i (by omega)
    rw [Addr.add_lit] at this
    rw [this, List.getElem_take]
    congr 2
    rw [List.getD_eq_getElem?_getD, List.getElem?_eq_getElem (by omega), Option.getD_some]
  ·simp only [DataW.weights, hu, List.mem_cons, List.mem_append]
   exact .inr (.inl (weights_strs _ s hs))
end Go.Proofs.YtokeamebcdhnpaaGreatDoor
end
