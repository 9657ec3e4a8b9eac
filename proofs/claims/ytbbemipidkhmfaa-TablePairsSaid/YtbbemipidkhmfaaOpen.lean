/-
  Arguments that come in: lists of ranges, of numbers, of bytes.
-/
import Derived.ProofKit
import Derived.OpenShut
import Derived.ChangeSlices
import Derived.SizedLaws
import Derived.Test.YtbbemipidkhmfaaWalkN
namespace Go.Proofs.Ytbbemipidkhmfaa
open Go.ChangeShapes Go.WideShapes Go.ChangeAt Go.RowKit

/-- Numbers in memory. -/
def IRow (k : IntKind) (w : World) (v : Value) (l : List Int) : Prop :=
  ∃ p cap, v = .slice p l.length cap ∧ l.length ≤ cap ∧ (l ≠ [] → ∃ b off, p = some ⟨b, off, none⟩ ∧ b < w.heap.size ∧ ∀ i (h : i < l.length), w.cell? ⟨b, off + i, none⟩ = some (.int k l[i]))
theorem IRow.mono {k : IntKind} {w w' : World} {v : Value} {l : List Int} (hx : Ext w w') (h : IRow k w v l) : IRow k w' v l := by
  obtain ⟨p, cap, rfl, hcap, h2⟩ := h
  refine ⟨p, cap, rfl, hcap, fun hne => ?_⟩
  obtain ⟨b, off, rfl, hb, hc⟩ := h2 hne
  exact ⟨b, off, rfl, Nat.lt_of_lt_of_le hb hx.sz, fun i hi => hx.cell (hc i hi)⟩
theorem IRow.at {k : IntKind} {w : World} {p : Option Addr} {n cap : Nat} {l : List Int} (h : IRow k w (.slice p n cap) l) (hl : l ≠ []) : ∃ b off, p = some ⟨b, off, none⟩ ∧ ∀ i (h : i < l.length), w.cell? ⟨b, off + i, none⟩ = some (.int k l[i]) := by
  obtain ⟨p', cap', e, _, h2⟩ := h
  obtain ⟨b, off, e2, _, hc⟩ := h2 hl
  cases e
  exact ⟨b, off, e2, hc⟩
/-- What fits a range's cells. -/
def W3 (x : Rng) : Prop := (-2147483648 ≤ x.lo ∧ x.lo ≤ 2147483647) ∧ (-2147483648 ≤ x.hi ∧ x.hi ≤ 2147483647) ∧ (-9223372036854775808 ≤ x.cl ∧ x.cl ≤ 9223372036854775807)
theorem cells3 : Try.prog.cellsOf 32 = 3 := by kernel_rfl
theorem cells32 : Try.prog.cellsOf 21 = 1 := by kernel_rfl
theorem cells64 : Try.prog.cellsOf 3 = 1 := by kernel_rfl
theorem cells8 : Try.prog.cellsOf 5 = 1 := by kernel_rfl

set_option maxRecDepth 100000 in
theorem open_ints' {H : Type} {enc : TypeId × Value → H} {k : IntKind} {W : World} {r : Reach} {base : Nat} {v : Value} {d : DataW H} {p : List MemPlace} {t e : TypeId} (ht : Try.prog.underlying t = some (.slice e)) (he : Try.prog.underlying e = some (.int k)) (hc : Try.prog.cellsOf e = 1)
    (hv : Value.okWide Try.prog W r base t v) (h : DataW.Trod enc Try.prog W 0 (fun _ => true) true t v d p) :
    ∃ l : List Int, IRow k W v l ∧ ∀ x ∈ l, (Lit.int k x).wf = true := by
  obtain ⟨a0, len0, cap0, rfl⟩ := okWide_slice ht hv
  obtain ⟨fuel, hf⟩ := h
  rcases open_ints ht he hc hf with ⟨hcs, hx⟩ | ⟨a, len, cap, ss, hcs, _, hl, hm, hz, hx, hcell, hws⟩
  · simp only [Value.cells, Array.toList, List.cons.injEq, and_true] at hcs
    obtain ⟨rfl, rfl, rfl⟩ := Value.slice.inj hcs
    exact ⟨[], ⟨none, 0, rfl, Nat.le_refl _, fun h => absurd rfl h⟩, fun s hs => by simp at hs⟩
  · simp only [Value.cells, Array.toList, List.cons.injEq, and_true] at hcs
    obtain ⟨rfl, rfl, rfl⟩ := Value.slice.inj hcs
    simp only [if_true] at hz
    have hlen : (ss.take len0).length = len0 := by rw [List.length_take]; omega
    refine ⟨ss.take len0, ⟨some a, cap0, by rw [hlen], by rw [hlen]; exact hl, fun hne => ?_⟩, fun s hs => hws s (List.mem_of_mem_take hs)⟩
    have hpos : 0 < len0 := by
      apply Nat.pos_of_ne_zero
      intro e
      subst e
      simp at hne
    obtain ⟨ab, ao, spot⟩ := a
    have h0 := hcell 0 (by omega)
    have hspot : spot = none := by simpa [Addr.add] using World.cell?_spot h0
    subst hspot
    refine ⟨ab, ao, rfl, ?_, fun i hi => ?_⟩
    · rw [Addr.add_lit] at h0
      exact World.block_lt_of_cell? _ _ h0
    · have hi2 : i < len0 := by omega
      have := hcell i (by omega)
      rw [Addr.add_lit] at this
      rw [this, List.getElem_take]
      congr 2
      rw [List.getD_eq_getElem?_getD, List.getElem?_eq_getElem (by omega), Option.getD_some]
theorem IRow.byte {w : World} {v : Value} {l : List Int} (h : IRow .u8 w v l) (hb : ∀ x ∈ l, 0 ≤ x ∧ x ≤ 255) : ByRow w v l := by
  obtain ⟨p, cap, rfl, hcap, h2⟩ := h
  refine ⟨p, cap, rfl, hcap, hb, fun hne => ?_⟩
  obtain ⟨b, off, rfl, _, hc⟩ := h2 hne
  exact ⟨b, off, rfl, hc⟩

set_option maxRecDepth 100000 in
/-- One range that came in. -/
theorem open_range {H : Type} {enc : TypeId × Value → H} {W : World} {base : Nat} {sp : Nat → Bool} {held : Bool} {fuel : Nat} {cs : List Value} {x : DataW H × List MemPlace}
    (h : DataW.trod enc Try.prog W base sp held fuel 32 cs = some x) : ∃ a : Rng, cs = rgV a ∧ W3 a := by
  obtain ⟨xs, n, _, rfl, hl, hlen, hf⟩ := DataW.trod_struct Try.underlying32 h
  rw [cells3] at hl
  match cs, hl, xs, hlen, hf with
  | [c0, c1, c2], _, [y0, y1, y2], _, hf =>
    have f0 := hf 0 _ rfl
    have f1 := hf 1 _ rfl
    have f2 := hf 2 _ rfl
    simp only [cells32, cells64, List.drop_zero, List.drop_succ_cons, List.take_succ_cons, List.take_zero, List.getElem?_cons_zero, List.getElem?_cons_succ] at f0 f1 f2
    obtain ⟨a0, e0, rfl, w0⟩ := DataW.trod_int Try.underlying21 f0
    obtain ⟨a1, e1, rfl, w1⟩ := DataW.trod_int Try.underlying21 f1
    obtain ⟨a2, e2, rfl, w2⟩ := DataW.trod_int Try.underlying3 f2
    have g0 : c0 = .int .i32 a0 := by simpa [cells32] using e0
    have g1 : c1 = .int .i32 a1 := by simpa [cells32] using e1
    have g2 : c2 = .int .i64 a2 := by simpa [cells64] using e2
    subst g0 g1 g2
    refine ⟨⟨a0, a1, a2⟩, rfl, ?_⟩
    simp only [Lit.wf, Bool.and_eq_true, decide_eq_true_eq] at w0 w1 w2
    exact ⟨w0, w1, w2⟩

set_option maxRecDepth 100000 in
/-- A slice of ranges that came in. -/
theorem open_ranges {H : Type} {enc : TypeId × Value → H} {W : World} {r : Reach} {base : Nat} {v : Value} {d : DataW H} {p : List MemPlace} (hv : Value.okWide Try.prog W r base 25 v)
    (h : DataW.Trod enc Try.prog W 0 (fun _ => true) true 25 v d p) :
    ∃ l : List Rng, RgRow W v l ∧ ∀ x ∈ l, W3 x := by
  obtain ⟨a0, len0, cap0, rfl⟩ := okWide_slice Try.underlying25 hv
  obtain ⟨fuel, hf⟩ := h
  rcases DataW.trod_slice Try.underlying25 hf with ⟨hcs, hx⟩ | ⟨a, len, cap, elems, rest, n, _, hcs, hx, _, hlc, _, hlen, hel, _, _⟩
  · simp only [Value.cells, Array.toList, List.cons.injEq, and_true] at hcs
    obtain ⟨rfl, rfl, rfl⟩ := Value.slice.inj hcs
    exact ⟨[], RgRow.nil W, fun s hs => by simp at hs⟩
  · simp only [Value.cells, Array.toList, List.cons.injEq, and_true] at hcs
    obtain ⟨rfl, rfl, rfl⟩ := Value.slice.inj hcs
    rw [cells3] at hel
    have hex : ∀ i, ∃ b : Rng, i < len0 → (∀ j, j < 3 → W.cell? ((a.add (i * 3)).add j) = (rgV b)[j]?) ∧ W3 b := by
      intro i
      by_cases hi : i < len0
      · have h1 := hel i hi
        rw [List.getElem?_eq_getElem (by omega), Option.bind_eq_some_iff] at h1
        obtain ⟨cs, hcs, ht⟩ := h1
        obtain ⟨b, hb, hw⟩ := open_range ht
        subst hb
        obtain ⟨_, _, hcell⟩ := World.cells?_some hcs
        exact ⟨b, fun _ => ⟨hcell, hw⟩⟩
      · exact ⟨⟨0, 0, 0⟩, fun h => absurd h hi⟩
    obtain ⟨f, hf⟩ := Classical.axiomOfChoice hex
    have hl : ((List.range len0).map f).length = len0 := by simp
    refine ⟨(List.range len0).map f, ⟨some a, cap0, by rw [hl], by rw [hl]; exact hlc, fun hne => ?_⟩, fun b hb => ?_⟩
    · have hpos : 0 < len0 := by
        apply Nat.pos_of_ne_zero
        intro e
        subst e
        simp at hne
      obtain ⟨ab, ao, spot⟩ := a
      have h0 := (hf 0 hpos).1 0 (by omega)
      have hspot : spot = none := by
        have h1 : W.cell? (((⟨ab, ao, spot⟩ : Addr).add (0 * 3)).add 0) = some (.int .i32 (f 0).lo) := h0
        have := World.cell?_spot h1
        cases spot with
        | none => rfl
        | some q => simp [Addr.add] at this
      subst hspot
      rw [Addr.add_lit, Addr.add_lit] at h0
      refine ⟨ab, ao, rfl, ?_, fun i hi => ?_⟩
      · have h2 : W.cell? ⟨ab, ao + 0 * 3 + 0, none⟩ = some (.int .i32 (f 0).lo) := h0
        exact World.block_lt_of_cell? _ _ h2
      · have hi2 : i < len0 := by omega
        have c0 := (hf i hi2).1 0 (by omega)
        have c1 := (hf i hi2).1 1 (by omega)
        have c2 := (hf i hi2).1 2 (by omega)
        rw [Addr.add_lit, Addr.add_lit] at c0 c1 c2
        rw [List.getElem_map, List.getElem_range]
        exact ⟨c0, c1, c2⟩
    · obtain ⟨i, hi, rfl⟩ := List.mem_map.1 hb
      exact (hf i (by simpa using hi)).2
end Go.Proofs.Ytbbemipidkhmfaa
