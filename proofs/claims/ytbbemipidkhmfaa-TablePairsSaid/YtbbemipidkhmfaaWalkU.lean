/-
  Ranges sorted; Build.
-/
import Derived.Shelf.SlSortCmp.WholeK
import Derived.Lib.OwnBridge
import Derived.Test.YtbbemipidkhmfaaShelf
import Derived.Test.YtbbemipidkhmfaaWalkT
namespace Go.Proofs.Ytbbemipidkhmfaa
open Go.RowKit Go.Maps Go.Shelf

instance : Inhabited Rng := ⟨⟨0, 0, 0⟩⟩
theorem ltCmp (x y : Rng) : ltOf (fun x y : Rng => cmpI x.lo y.lo) x y = decide (x.lo < y.lo) := by
  unfold ltOf cmpI
  by_cases h1 : x.lo < y.lo
  · simp [h1]
  · by_cases h2 : y.lo < x.lo <;> simp [h1, h2]
theorem swoCmp : Sort.SWO (ltOf fun x y : Rng => cmpI x.lo y.lo) where
  irrefl x := by rw [ltCmp]; simp
  trans x y z h1 h2 := by rw [ltCmp] at *; simp at *; omega
  ntrans x y z h1 h2 := by rw [ltCmp] at *; simp at *; omega
theorem cmpLaysR (blk off size : Nat) (w : World) : CmpLays Try.prog 40 #[] rgV 3 (fun x y => cmpI x.lo y.lo) blk off size w :=
  fun _ _ _ _ x y => (c_before x y _).mono fun _ _ ⟨he, hw⟩ => ⟨he, 0, #[.cells #[.int .i32 x.lo, .int .i32 x.hi, .int .i64 x.cl] 32] ++ #[.cells #[.int .i32 y.lo, .int .i32 y.hi, .int .i64 y.cl] 32], hw.trans (by rw [Sort.alloc_eq_grow, Sort.alloc_eq_grow, Sort.grow_grow]; rfl)⟩
theorem rgRow_of_holds {w : World} {blk off cap : Nat} {d : Array Rng} (h : Sort.HoldsK rgV 3 w blk off d) (hb : blk < w.heap.size) (hc : d.size ≤ cap) : RgRow w (.slice (some ⟨blk, off, none⟩) d.size cap) d.toList := by
  refine ⟨_, cap, by simp, by simpa using hc, fun _ => ⟨blk, off, rfl, hb, fun i hi => ?_⟩⟩
  have hi' : i < d.size := by simpa using hi
  have key : ∀ j, j < 3 → w.cell? ⟨blk, off + (i * 3 + j), none⟩ = some ((rgV d[i]!)[j]!) := fun j hj => by
    have h1 := (h (i * 3 + j) (by rw [Sort.size_flatK]; omega)).1
    rw [Sort.get_flatK rgV 3 d (i * 3 + j) (by omega), show (i * 3 + j) / 3 = i from by omega, show (i * 3 + j) % 3 = j from by omega] at h1
    exact h1
  have e : d.toList[i] = d[i]! := by simp [hi']
  rw [e]
  exact ⟨by have := key 0 (by omega); rw [Nat.add_zero] at this; exact this, by have := key 1 (by omega); rw [← Nat.add_assoc] at this; exact this, by have := key 2 (by omega); rw [← Nat.add_assoc] at this; exact this⟩
theorem holds_of_rows {w : World} {n₀ g cap : Nat} {l : List Rng} (h : w.ownsRow n₀ 32 3 (.slice (some ⟨g, 0, none⟩) l.length cap) l.length (rgCells l)) : Sort.HoldsK rgV 3 w g 0 l.toArray := by
  intro t ht
  rw [Sort.size_flatK] at ht
  have ht' : t < l.length * 3 := by simpa using ht
  rw [Sort.get_flatK rgV 3 _ t ht, Nat.zero_add]
  have hi : t / 3 < l.length := by omega
  obtain ⟨pre, suf, hpt, hpl⟩ : ∃ pre suf, l = pre ++ l[t / 3] :: suf ∧ pre.length = t / 3 := ⟨l.take (t / 3), l.drop (t / 3 + 1), by rw [← List.drop_eq_getElem_cons hi, List.take_append_drop], by rw [List.length_take]; omega⟩
  obtain ⟨a1, a2, a3⟩ := rgCells_get pre l[t / 3] suf
  rw [← hpt, hpl] at a1 a2 a3
  have e : (l.toArray)[t / 3]! = l[t / 3] := by simp [hi]
  rw [e]
  refine ⟨?_, h.frozenAt t⟩
  rw [h.cellAt t ht']
  obtain h0 | h0 | h0 : t % 3 = 0 ∨ t % 3 = 1 ∨ t % 3 = 2 := by omega
  · rw [h0]
    conv => lhs; rw [show t = t / 3 * 3 from by omega]
    exact a1
  · rw [h0]
    conv => lhs; rw [show t = t / 3 * 3 + 1 from by omega]
    exact a2
  · rw [h0]
    conv => lhs; rw [show t = t / 3 * 3 + 2 from by omega]
    exact a3
theorem below_sort {B : Nat} {w : World} {g m : Nat} {d : Array Rng} {os : Array Obj} (hB : B ≤ w.heap.size) (hg : B ≤ g) : Below B w (Go.Proofs.sortWorldK rgV 3 w g 0 m d os) := by
  have h1 : Below B w (Sort.putRowK rgV 3 (Sort.ahead w m) g 0 d) := Lib.below_putRow (Below.refl B w) hg
  unfold sortWorldK
  refine ⟨h1.os, h1.tape, h1.output, ?_, fun k hk => ?_⟩
  · have := h1.size; simp [Sort.size_grow]; omega
  · rw [Sort.heap_grow_old _ _ (by have := h1.size; omega)]
    exact h1.block k hk
theorem c_SortFunc (n₀ : Nat) (g cap : Nat) (l : List Rng) (w : World) (h : w.ownsRow n₀ 32 3 (.slice (some ⟨g, 0, none⟩) l.length cap) l.length (rgCells l)) (h0 : n₀ ≤ w.heap.size) (hl : l.length ≤ 2000000) :
    Calls Try.prog 70 #[.slice (some ⟨g, 0, none⟩) l.length cap, .func (.func 40) #[] #[]] w fun e w' => e = .returned (.tuple #[]) ∧
      ∃ l' : List Rng, l'.Perm l ∧ l'.Pairwise (fun x y => x.lo ≤ y.lo) ∧ RgRow w' (.slice (some ⟨g, 0, none⟩) l.length cap) l' ∧ Below n₀ w w' := by
  have hH := holds_of_rows h
  obtain ⟨hg, hgl⟩ := h.lt g rfl
  have hcap : l.length ≤ cap := by
    rcases h.2 with ⟨e, _⟩ | ⟨g', cap', cur, e, _, _, h1, _⟩
    · cases e
    · cases e; exact h1
  have eg : ∀ args w, (callFunc 40 args).run Try.prog w = .ok (.enter 40 args) w := enters_of Try.func40 (by kernel_rfl) rfl
  have hcon := AnyQ.slices_SortFunc Try.sortR 3 Try.isAgg32 Try.sizeOf32 rgV (fun _ => rfl) (fun x v hv => by simp [rgV] at hv; rcases hv with rfl | rfl | rfl <;> rfl) (fun x y => cmpI x.lo y.lo) swoCmp 40 #[] g 0 cap l.toArray w eg (cmpLaysR g 0 l.toArray.size w) hH hgl (by simp; omega)
  refine hcon.mono ?_
  rintro e w' ⟨rfl, d', m, os, ⟨hp1, hp2, hp3⟩, hs, rfl⟩
  refine ⟨rfl, d'.toList, ?_, ?_, ?_, below_sort h0 hg⟩
  · have : d'.size = l.toArray.size := hp1
    rw [← this, Array.extract_size] at hp3
    rw [this] at hp3
    simpa using hp3
  · rw [List.pairwise_iff_getElem]
    intro i j hi hj hij
    have := hs i j (Nat.zero_le _) hij (by rw [← hp1]; simpa using hj)
    rw [ltCmp] at this
    have ei : d'[i]! = d'.toList[i] := by simp at hi; simp [hi]
    have ej : d'[j]! = d'.toList[j] := by simp at hj; simp [hj]
    rw [ei, ej] at this
    simp only [decide_eq_false_iff_not] at this
    omega
  · have e : l.length = d'.size := by rw [hp1]; simp
    rw [e]
    have hk : Sort.HoldsK rgV 3 (Sort.putRowK rgV 3 (Sort.ahead w m) g 0 d') g 0 d' := Sort.holdsK_putRowK rgV 3 (Sort.ahead w m) g 0 l.toArray d' hH hp1
    refine rgRow_of_holds ?_ ?_ (by omega)
    · exact Sort.holds_grow id _ os g 0 _ (by simpa [Sort.putRowK] using hgl) hk
    · have := (below_sort (B := 0) (w := w) (g := g) (m := m) (d := d') (os := os) (Nat.zero_le _) (Nat.zero_le _)).size
      omega
end Go.Proofs.Ytbbemipidkhmfaa
