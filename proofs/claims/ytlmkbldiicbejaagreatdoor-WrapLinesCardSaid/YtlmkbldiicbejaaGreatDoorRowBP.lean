/-
  What the rows list: the tables of the library; a world that holds them. Arguments that come in: lists of boxes, of numbers; how lines are made.
-/
import Derived.Test.YtlmkbldiicbejaaGreatDoorRows
import Derived.WalkKit
import Derived.ProofKit
import Derived.OpenShut
import Derived.ShutString
import Derived.SizedLaws
import Derived.Carry
import Derived.Lib.LaidIn
import Derived.Lib.LaidU8
import Derived.Lib.LaidTab
import Derived.PinnedBridge
import Derived.Deep.DeepHandedRow
import Derived.Deep.DeepWitnessRowRef
import Derived.Lib.SmallJoins
import Derived.Shelf.Vars
import Derived.Test.YtlmkbldiicbejaaGreatDoorPrS
import Derived.Test.YtlmkbldiicbejaaGreatDoorShelf
import Derived.ChangeSlices
import Derived.Test.YtlmkbldiicbejaaGreatDoorBxM
section
namespace Go.Proofs.YtlmkbldiicbejaaGreatDoor
open Go.Shelf Go.Joins
open Go.ChangeShapes Go.WideShapes Go.ChangeAt Go.RowKit

theorem own : ownKnob Tryz.prog.godebug = none := by kernel_rfl
theorem laidOut : laidOutB Tryz.prog = true := by kernel_rfl
/-- What the rows list. -/
def listed : List (String × DataW Unit) := [("math/bits.deBruijn32tab", Rows.laid_math_bits_deBruijn32tab), ("math/bits.deBruijn64tab", Rows.laid_math_bits_deBruijn64tab), ("internal/strconv.uint64pow10", Rows.laid_internal_strconv_uint64pow10), ("unicode/utf8.acceptRanges", Rows.laid_unicode_utf8_acceptRanges), ("strconv.ErrRange", Rows.laid_strconv_ErrRange), ("strconv.ErrSyntax", Rows.laid_strconv_ErrSyntax), ("unicode/utf8.first", Rows.laid_unicode_utf8_first)]
theorem accept_eq : (Rows.laid_unicode_utf8_acceptRanges : DataW Unit) = Lib.acceptData := by kernel_rfl
theorem first_eq : Rows.laid_unicode_utf8_first = Lib.firstData := Pinned.utf8First_eq
def flatW : DataW Unit → List Value
  | .agg l => l.flatMap fun d => match d with
    | .lit (.int k n) => [.int k n]
    | .agg m => m.flatMap fun e => match e with
      | .lit (.int k n) => [.int k n]
      | _ => []
    | _ => []
  | _ => []
/-- A world for the witness: the variables hold what their initialisers lay. -/
noncomputable def laidWorld (os : Os) : World :=
  let w0 := World.holding Tryz.prog os ⟨#[], #[], []⟩
  let N := w0.heap.size
  let put (h : Array Obj) (g : Nat) (cs : Array Value) : Array Obj := h.modify g fun
    | .cells _ t frozen => .cells cs t frozen
    | o => o
  let h1 := put w0.heap 0 (Lib.firstTab.map fun z => Value.int .u8 z).toArray
  let h2 := put h1 1 (flatW Rows.laid_unicode_utf8_acceptRanges).toArray
  let h3 := put h2 6 (flatW Rows.laid_math_bits_deBruijn32tab).toArray
  let h4 := put h3 7 (flatW Rows.laid_math_bits_deBruijn64tab).toArray
  let h5 := put h4 5 (flatW Rows.laid_internal_strconv_uint64pow10).toArray
  let h7 := put h5 4 #[.iface 252 (.pointer (some ⟨N, 0, none⟩))]
  let h8 := put h7 3 #[.iface 252 (.pointer (some ⟨N + 1, 0, none⟩))]
  { w0 with heap := h8 ++ #[.cells #[.string ⟨#[118, 97, 108, 117, 101, 32, 111, 117, 116, 32, 111, 102, 32, 114, 97, 110, 103, 101]⟩] 254,
      .cells #[.string ⟨#[105, 110, 118, 97, 108, 105, 100, 32, 115, 121, 110, 116, 97, 120]⟩] 254] }
theorem laid_met (os : Os) (args : Array Value) : laidMet Tryz.prog listed ((laidWorld os).forCall (fun _ _ => 0) ⟨#[], args, []⟩).memory := by
  have e : listed = [("math/bits.deBruijn32tab", Rows.laid_math_bits_deBruijn32tab), ("math/bits.deBruijn64tab", Rows.laid_math_bits_deBruijn64tab), ("internal/strconv.uint64pow10", Rows.laid_internal_strconv_uint64pow10), ("unicode/utf8.acceptRanges", Rows.laid_unicode_utf8_acceptRanges), ("strconv.ErrRange", Rows.laid_strconv_ErrRange), ("strconv.ErrSyntax", Rows.laid_strconv_ErrSyntax), ("unicode/utf8.first", Lib.firstData)] := by
    unfold listed
    rw [first_eq]
  rw [e]
  exact (LaidIn.of_run (List.range 1000) 12 (by kernel_rfl) (by kernel_rfl) (by kernel_rfl) (by kernel_rfl)).met
theorem tabsW_of {W : World} (h : laidMetH Tryz.prog listed W) (hs : W.ShapedOpen Tryz.prog) : TabsW W := by
  have h3 := Lib.laidMet.reads h (n := "unicode/utf8.first") (d := Rows.laid_unicode_utf8_first) (by simp [listed])
  have h4 := Lib.laidMet.reads h (n := "unicode/utf8.acceptRanges") (d := Rows.laid_unicode_utf8_acceptRanges) (by simp [listed])
  rw [first_eq] at h3
  rw [accept_eq] at h4
  exact ⟨utf8Tabs_of_reads (ρ := Tryz.lays197_ren) { Tryz.lays197 with } ⟨by kernel_rfl, by kernel_rfl, by kernel_rfl, by kernel_rfl, by kernel_rfl, by kernel_rfl, by kernel_rfl⟩ h3 h4,
    cell_of_shapedOpen_int (g := 2) (t := 3) (zero := #[.int .i64 0]) hs (of_decide_eq_true (by kernel_rfl)) (by kernel_rfl) rfl (by kernel_rfl) (by kernel_rfl) Tryz.underlying3⟩
set_option maxRecDepth 100000 in
/-- How cells are counted: three numbers. -/
theorem open_cells {H : Type} {enc : TypeId × Value → H} {w : World} {base b0 : Nat} {sp : Nat → Bool} {held : Bool} {r : Reach} {v : Value} {d : DataW H} {p : List MemPlace}
    (hv : Value.okWide Tryz.prog w r b0 48 v) (h : DataW.Trod enc Tryz.prog w base sp held 48 v d p) :
    ∃ a t st : Int, v = .agg #[.int .i64 a, .int .i64 t, .int .i64 st] ∧ p = [] ∧ ∀ (w' : World) (b' : Nat) (sp' : Nat → Bool) (held' : Bool), DataW.Trod enc Tryz.prog w' b' sp' held' 48 (.agg #[.int .i64 a, .int .i64 t, .int .i64 st]) d [] := by
  obtain ⟨v0, v1, v2, y0, y1, y2, n, rfl, rfl, rfl, h0, h1, h2⟩ := open_agg3 Tryz.underlying48 (by kernel_rfl) (by kernel_rfl) hv h
  obtain ⟨a, e0, rfl, wa⟩ := DataW.trod_int Tryz.underlying3 h0
  obtain ⟨t, e1, rfl, wt⟩ := DataW.trod_int Tryz.underlying3 h1
  obtain ⟨st, e2, rfl, ws⟩ := DataW.trod_int Tryz.underlying3 h2
  simp at e0 e1 e2
  subst e0 e1 e2
  exact ⟨a, t, st, rfl, rfl, fun w' b' sp' held' => shut_agg3 (y0 := (.lit (.int .i64 a), [])) (y1 := (.lit (.int .i64 t), [])) (y2 := (.lit (.int .i64 st), [])) Tryz.underlying48 (by kernel_rfl) (by kernel_rfl) ⟨1, by simp [DataW.trod, Tryz.underlying3, wa]⟩ ⟨1, by simp [DataW.trod, Tryz.underlying3, wt]⟩ ⟨1, by simp [DataW.trod, Tryz.underlying3, ws]⟩⟩
end Go.Proofs.YtlmkbldiicbejaaGreatDoor
end

section
namespace Go.Proofs.YtlmkbldiicbejaaGreatDoor
open Go.Shelf Go.Joins
open Go.ChangeShapes Go.WideShapes Go.ChangeAt Go.RowKit

/-- What fits into an int. -/
def W64 (n : Int) : Prop := -9223372036854775808 ≤ n ∧ n ≤ 9223372036854775807
theorem w64_of {n : Int} (h : (Lit.int .i64 n).wf = true) : W64 n := by
  simp [Lit.wf, IntKind.min, IntKind.max, IntKind.bits, IntKind.signed] at h
  exact ⟨by omega, by omega⟩
def W4 (x : BxI) : Prop := W64 x.w ∧ W64 x.b ∧ W64 x.h
theorem cellsBox : Tryz.prog.cellsOf 45 = 4 := by kernel_rfl
theorem cellsI : Tryz.prog.cellsOf 3 = 1 := by kernel_rfl
theorem cellsB : Tryz.prog.cellsOf 4 = 1 := by kernel_rfl
set_option maxRecDepth 100000 in
theorem open_ints' {H : Type} {enc : TypeId × Value → H} {W : World} {r : Reach} {base : Nat} {v : Value} {d : DataW H} {p : List MemPlace}
    (hv : Value.okWide Tryz.prog W r base 33 v) (h : DataW.Trod enc Tryz.prog W 0 (fun _ => true) true 33 v d p) :
    ∃ l : List Int, IRow W v l ∧ ∀ x ∈ l, W64 x := by
  obtain ⟨a0, len0, cap0, rfl⟩ := okWide_slice Tryz.underlying33 hv
  obtain ⟨fuel, hf⟩ := h
  rcases open_ints Tryz.underlying33 Tryz.underlying3 cellsI hf with ⟨hcs, hx⟩ | ⟨a, len, cap, ss, hcs, _, hl, hm, hz, hx, hcell, hws⟩
  · simp only [Value.cells, List.cons.injEq, and_true] at hcs
    obtain ⟨rfl, rfl, rfl⟩ := Value.slice.inj hcs
    exact ⟨[], ⟨none, 0, rfl, Nat.le_refl _, fun h => absurd rfl h⟩, fun s hs => by simp at hs⟩
  · simp only [Value.cells, List.cons.injEq, and_true] at hcs
    obtain ⟨rfl, rfl, rfl⟩ := Value.slice.inj hcs
    simp only [if_true] at hz
    have hlen : (ss.take len0).length = len0 := by rw [List.length_take]; omega
    refine ⟨ss.take len0, ⟨some a, cap0, by rw [hlen], by rw [hlen]; exact hl, fun hne => ?_⟩, fun s hs => w64_of (hws s (List.mem_of_mem_take hs))⟩
    have hpos : 0 < len0 := by
      apply Nat.pos_of_ne_zero
      intro e
      subst e
      simp at hne
    obtain ⟨ab, ao, spot⟩ := a
    have h0 := hcell 0 (by omega)
    have hspot : spot = none := by simpa [Addr.add] using World.cell?_spot h0
    subst hspot
    refine ⟨ab, ao, rfl, ?_, fun i hi => ?_⟩
    · rw [Addr.add_lit] at h0
      exact World.block_lt_of_cell? _ _ h0
    · have hi2 : i < len0 := by omega
      have := hcell i (by omega)
      rw [Addr.add_lit] at this
      rw [this, List.getElem_take]
      congr 2
      rw [List.getD_eq_getElem?_getD, List.getElem?_eq_getElem (by omega), Option.getD_some]
def bxV (x : BxI) : List Value := [.int .i64 x.w, .int .i64 x.b, .int .i64 x.h, .bool x.m]
set_option maxRecDepth 100000 in
/-- One box that came in. -/
theorem open_box {H : Type} {enc : TypeId × Value → H} {W : World} {base : Nat} {sp : Nat → Bool} {held : Bool} {fuel : Nat} {cs : List Value} {x : DataW H × List MemPlace}
    (h : DataW.trod enc Tryz.prog W base sp held fuel 45 cs = some x) : ∃ a : BxI, cs = bxV a ∧ W4 a := by
  obtain ⟨xs, n, _, rfl, hl, hlen, hf⟩ := DataW.trod_struct Tryz.underlying45 h
  rw [cellsBox] at hl
  match cs, hl, xs, hlen, hf with
  | [c0, c1, c2, c3], _, [y0, y1, y2, y3], _, hf =>
    have f0 := hf 0 _ rfl
    have f1 := hf 1 _ rfl
    have f2 := hf 2 _ rfl
    have f3 := hf 3 _ rfl
    simp only [List.getElem?_cons_zero, List.getElem?_cons_succ] at f0 f1 f2 f3
    obtain ⟨a0, e0, rfl, w0⟩ := DataW.trod_int Tryz.underlying3 f0
    obtain ⟨a1, e1, rfl, w1⟩ := DataW.trod_int Tryz.underlying3 f1
    obtain ⟨a2, e2, rfl, w2⟩ := DataW.trod_int Tryz.underlying3 f2
    obtain ⟨a3, e3, rfl⟩ := DataW.trod_bool Tryz.underlying4 f3
    have g0 : c0 = .int .i64 a0 := by simpa [cellsI] using e0
    have g1 : c1 = .int .i64 a1 := by simpa [cellsI] using e1
    have g2 : c2 = .int .i64 a2 := by simpa [cellsI] using e2
    have g3 : c3 = .bool a3 := by simpa [cellsB] using e3
    subst g0 g1 g2 g3
    exact ⟨⟨a0, a1, a2, a3⟩, rfl, w64_of w0, w64_of w1, w64_of w2⟩
set_option maxRecDepth 100000 in
/-- A slice of boxes that came in. -/
theorem open_boxes {H : Type} {enc : TypeId × Value → H} {W : World} {r : Reach} {base : Nat} {v : Value} {d : DataW H} {p : List MemPlace} (hv : Value.okWide Tryz.prog W r base 22 v)
    (h : DataW.Trod enc Tryz.prog W 0 (fun _ => true) true 22 v d p) :
    ∃ l : List BxI, BxRow W v l ∧ ∀ x ∈ l, W4 x := by
  obtain ⟨a0, len0, cap0, rfl⟩ := okWide_slice Tryz.underlying22 hv
  obtain ⟨fuel, hf⟩ := h
  rcases DataW.trod_slice Tryz.underlying22 hf with ⟨hcs, hx⟩ | ⟨a, len, cap, elems, rest, n, _, hcs, hx, _, hlc, _, hlen, hel, _, _⟩
  · simp only [Value.cells, List.cons.injEq, and_true] at hcs
    obtain ⟨rfl, rfl, rfl⟩ := Value.slice.inj hcs
    exact ⟨[], ⟨none, 0, rfl, Nat.le_refl _, fun h => absurd rfl h⟩, fun s hs => by simp at hs⟩
  · simp only [Value.cells, List.cons.injEq, and_true] at hcs
    obtain ⟨rfl, rfl, rfl⟩ := Value.slice.inj hcs
    rw [cellsBox] at hel
    have hex : ∀ i, ∃ b : BxI, i < len0 → (∀ j, j < 4 → W.cell? ((a.add (i * 4)).add j) = (bxV b)[j]?) ∧ W4 b := by
      intro i
      by_cases hi : i < len0
      · have h1 := hel i hi
        rw [List.getElem?_eq_getElem (by omega), Option.bind_eq_some_iff] at h1
        obtain ⟨cs, hcs, ht⟩ := h1
        obtain ⟨b, hb, hw⟩ := open_box ht
        subst hb
        obtain ⟨_, _, hcell⟩ := World.cells?_some hcs
        exact ⟨b, fun _ => ⟨hcell, hw⟩⟩
      · exact ⟨⟨0, 0, 0, false⟩, fun h => absurd h hi⟩
    obtain ⟨f, hf⟩ := Classical.axiomOfChoice hex
    have hl : ((List.range len0).map f).length = len0 := by simp
    refine ⟨(List.range len0).map f, ⟨some a, cap0, by rw [hl], by rw [hl]; exact hlc, fun hne => ?_⟩, fun b hb => ?_⟩
    · have hpos : 0 < len0 := by
        apply Nat.pos_of_ne_zero
        intro e
        subst e
        simp at hne
      obtain ⟨ab, ao, spot⟩ := a
      have h0 := (hf 0 hpos).1 0 (by omega)
      have hspot : spot = none := by
        have h1 : W.cell? (((⟨ab, ao, spot⟩ : Addr).add (0 * 4)).add 0) = some (.int .i64 (f 0).w) := h0
        have := World.cell?_spot h1
        cases spot with
        | none => rfl
        | some q => simp [Addr.add] at this
      subst hspot
      rw [Addr.add_lit, Addr.add_lit] at h0
      refine ⟨ab, ao, rfl, ?_, fun i hi => ?_⟩
      · have h2 : W.cell? ⟨ab, ao + 0 * 4 + 0, none⟩ = some (.int .i64 (f 0).w) := h0
        exact World.block_lt_of_cell? _ _ h2
      · have hi2 : i < len0 := by omega
        have c0 := (hf i hi2).1 0 (by omega)
        have c1 := (hf i hi2).1 1 (by omega)
        have c2 := (hf i hi2).1 2 (by omega)
        have c3 := (hf i hi2).1 3 (by omega)
        rw [Addr.add_lit, Addr.add_lit] at c0 c1 c2 c3
        rw [List.getElem_map, List.getElem_range]
        exact ⟨c0, c1, c2, c3⟩
    · obtain ⟨i, hi, rfl⟩ := List.mem_map.1 hb
      exact (hf i (by simpa using hi)).2
set_option maxRecDepth 100000 in
/-- How lines are made: four numbers. -/
theorem open_wrap {H : Type} {enc : TypeId × Value → H} {w : World} {base b0 : Nat} {sp : Nat → Bool} {held : Bool} {r : Reach} {v : Value} {d : DataW H} {p : List MemPlace}
    (hv : Value.okWide Tryz.prog w r b0 24 v) (h : DataW.Trod enc Tryz.prog w base sp held 24 v d p) :
    ∃ a t st hw : Int, v = .agg #[.int .i64 a, .int .i64 t, .int .i64 st, .int .i64 hw] ∧ p = [] ∧ (W64 a ∧ W64 t ∧ W64 st ∧ W64 hw) ∧ ∀ (w' : World) (b' : Nat) (sp' : Nat → Bool) (held' : Bool), DataW.Trod enc Tryz.prog w' b' sp' held' 24 (.agg #[.int .i64 a, .int .i64 t, .int .i64 st, .int .i64 hw]) d [] := by
  obtain ⟨v0, v1, v2, v3, y0, y1, y2, y3, n, rfl, rfl, rfl, h0, h1, h2, h3⟩ := open_agg4 Tryz.underlying24 (by kernel_rfl) (by kernel_rfl) hv h
  obtain ⟨a, e0, rfl, wa⟩ := DataW.trod_int Tryz.underlying3 h0
  obtain ⟨t, e1, rfl, wt⟩ := DataW.trod_int Tryz.underlying3 h1
  obtain ⟨st, e2, rfl, ws⟩ := DataW.trod_int Tryz.underlying3 h2
  obtain ⟨hw, e3, rfl, wh⟩ := DataW.trod_int Tryz.underlying3 h3
  simp at e0 e1 e2 e3
  subst e0 e1 e2 e3
  exact ⟨a, t, st, hw, rfl, rfl, ⟨w64_of wa, w64_of wt, w64_of ws, w64_of wh⟩, fun w' b' sp' held' => shut_agg4 (y0 := (.lit (.int .i64 a), [])) (y1 := (.lit (.int .i64 t), [])) (y2 := (.lit (.int .i64 st), [])) (y3 := (.lit (.int .i64 hw), [])) Tryz.underlying24 (by kernel_rfl) (by kernel_rfl) ⟨1, by simp [DataW.trod, Tryz.underlying3, wa]⟩ ⟨1, by simp [DataW.trod, Tryz.underlying3, wt]⟩ ⟨1, by simp [DataW.trod, Tryz.underlying3, ws]⟩ ⟨1, by simp [DataW.trod, Tryz.underlying3, wh]⟩⟩
end Go.Proofs.YtlmkbldiicbejaaGreatDoor
end
