/-
  What a row of this seat lists, and what its arguments are: the tables of the library's decoder; a slice of texts.
-/
import Derived.Test.YtohpekbooapcjaaDoorRows
import Derived.WalkKit
import Derived.ProofKit
import Derived.OpenShut
import Derived.ShutString
import Derived.SizedLaws
import Derived.SliceStrings
import Derived.Carry
import Derived.Lib.LaidIn
import Derived.Lib.LaidU8
import Derived.PinnedBridge
import Derived.Deep.DeepHandedRow
import Derived.Deep.DeepWitnessRowRef
import Derived.Test.YtohpekbooapcjaaDoorDoorD
namespace Go.Proofs.YtohpekbooapcjaaDoor
open Go.Shelf
open Go.ChangeShapes Go.WideShapes Go.ChangeAt Go.RowKit
open Go.ChangeMaps (open_string shut_string)

theorem own : ownKnob Tryd.prog.godebug = none := by kernel_rfl
theorem laidOut : laidOutB Tryd.prog = true := by kernel_rfl
theorem cellsString : Tryd.prog.cellsOf 9 = 1 := by kernel_rfl
/-- What the rows list. -/
def listed : List (String × DataW Unit) := [("unicode/utf8.acceptRanges", Rows.laid_unicode_utf8_acceptRanges), ("unicode/utf8.first", Rows.laid_unicode_utf8_first)]
theorem accept_eq : (Rows.laid_unicode_utf8_acceptRanges : DataW Unit) = Lib.acceptData := by kernel_rfl
theorem first_eq : Rows.laid_unicode_utf8_first = Lib.firstData := Pinned.utf8First_eq
theorem tabs_of {W : World} (h : laidMetH Tryd.prog listed W) : Lib.Utf8Tabs 0 1 W := by
  have h3 := Lib.laidMet.reads h (n := "unicode/utf8.first") (.tail _ (.head _))
  have h4 := Lib.laidMet.reads h (n := "unicode/utf8.acceptRanges") (.head _)
  rw [first_eq] at h3
  rw [accept_eq] at h4
  exact utf8Tabs_of_reads Tryd.lays260 ⟨by kernel_rfl, by kernel_rfl, by kernel_rfl, by kernel_rfl, by kernel_rfl, by kernel_rfl, by kernel_rfl⟩ h3 h4

/-- A world for the witness: the two variables hold what their initialisers lay. -/
noncomputable def laidWorld (os : Os) : World :=
  let w0 := World.holding Tryd.prog os ⟨#[], #[], []⟩
  let put (h : Array Obj) (g : Nat) (cs : Array Value) : Array Obj := h.modify g fun
    | .cells _ t frozen => .cells cs t frozen
    | o => o
  let h1 := put w0.heap 0 (Lib.firstTab.map fun z => Value.int .u8 z).toArray
  let h2 := put h1 1 ((List.range 16).flatMap fun i => [Value.int .u8 (Lib.accLo i), Value.int .u8 (Lib.accHi i)]).toArray
  { w0 with heap := h2 }
theorem laid_met (os : Os) (args : Array Value) : laidMet Tryd.prog listed ((laidWorld os).forCall (fun _ _ => 0) ⟨#[], args, []⟩).memory := by
  unfold listed
  rw [first_eq, accept_eq]
  exact (LaidIn.of_run (l := [("unicode/utf8.acceptRanges", Lib.acceptData), ("unicode/utf8.first", Lib.firstData)]) [1, 0] 8 (by kernel_rfl) (by kernel_rfl) (by kernel_rfl) (by kernel_rfl)).met

theorem weights_strs {H : Type} (l : List ByteArray) : ∀ s ∈ l, s.size ∈ DataW.weightsAll Tryd.checked.prog 9 (strs l : List (DataW H)) := by
  induction l with
  | nil => intro s hs; simp at hs
  | cons x l ih =>
    intro s hs
    simp only [strs, List.map_cons, DataW.weightsAll, DataW.weights, List.mem_append]
    rcases List.mem_cons.1 hs with rfl | h
    · left
      rw [len_eq]
      simp
    · right
      exact ih s h

set_option maxRecDepth 100000 in
/-- A slice of texts that came in. -/
theorem open_texts {H : Type} {enc : TypeId × Value → H} {W : World} {r : Reach} {base : Nat} {v : Value} {d : DataW H} {p : List MemPlace} (hv : Value.okWide Tryd.prog W r base 22 v)
    (h : DataW.Trod enc Tryd.prog W 0 (fun _ => true) true 22 v d p) :
    ∃ l : List ByteArray, StrRow W v l ∧ ∀ s ∈ l, s.size ∈ d.weights Tryd.checked.prog 22 := by
  obtain ⟨a0, len0, cap0, rfl⟩ := okWide_slice Tryd.underlying22 hv
  obtain ⟨fuel, hf⟩ := h
  have hu : Tryd.checked.prog.underlying 22 = _ := Tryd.underlying22
  rcases open_strings Tryd.underlying22 Tryd.underlying9 cellsString hf with ⟨hcs, hx⟩ | ⟨a, len, cap, ss, hcs, _, hl, hm, hz, hx, hcell, hws⟩
  · simp only [Value.cells, Array.toList, List.cons.injEq, and_true] at hcs
    obtain ⟨rfl, rfl, rfl⟩ := Value.slice.inj hcs
    exact ⟨[], ⟨none, 0, rfl, fun h => absurd rfl h⟩, fun s hs => by simp at hs⟩
  · simp only [Value.cells, Array.toList, List.cons.injEq, and_true] at hcs
    obtain ⟨rfl, rfl, rfl⟩ := Value.slice.inj hcs
    simp only [if_true] at hz
    simp only [Prod.mk.injEq] at hx
    obtain ⟨rfl, rfl⟩ := hx
    have hlen : (ss.take len0).length = len0 := by rw [List.length_take]; omega
    refine ⟨ss.take len0, ⟨some a, cap0, by rw [hlen], fun hne => ?_⟩, fun s hs => ?_⟩
    · have hpos : 0 < len0 := by
        apply Nat.pos_of_ne_zero
        intro e
        subst e
        simp at hne
      obtain ⟨ab, ao, spot⟩ := a
      have h0 := hcell 0 (by omega)
      have hspot : spot = none := by simpa [Addr.add] using World.cell?_spot h0
      subst hspot
      refine ⟨ab, ao, rfl, ?_, fun i hi => ?_⟩
      · rw [Addr.add_lit] at h0
        simp only [World.cell?] at h0
        apply Decidable.byContradiction
        intro hge
        rw [Array.getElem?_eq_none (by omega)] at h0
        simp at h0
      · have hi2 : i < len0 := by omega
        have := hcell i (by omega)
        rw [Addr.add_lit] at this
        rw [this, List.getElem_take]
        congr 2
        rw [List.getD_eq_getElem?_getD, List.getElem?_eq_getElem (by omega), Option.getD_some]
    · simp only [DataW.weights, hu, List.mem_cons, List.mem_append]
      exact .inr (.inl (weights_strs _ s hs))
end Go.Proofs.YtohpekbooapcjaaDoor
