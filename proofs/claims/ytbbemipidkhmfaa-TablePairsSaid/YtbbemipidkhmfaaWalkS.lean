/-
  slices.Values, slices.AppendSeq, slices.Collect at ranges.
-/
import Derived.Test.YtbbemipidkhmfaaWalkR
namespace Go.Proofs.Ytbbemipidkhmfaa
open Go.RowKit Go.Maps Go.Shelf

attribute [local go_sem] Oper.semAt_some

set_option maxRecDepth 100000 in
set_option maxHeartbeats 2000000 in
/-- The iterator of slices.Values. -/
theorem values_stops (n : Nat) (hn : 1 ≤ n) (Bs n₀ : Nat) (sv : Value) (l : List Rng) (w0 w : World) (h : RgRow w0 sv l) (hx : Ext w0 w) (hn₀ : w0.heap.size ≤ n₀) (hn₁ : n₀ ≤ w.heap.size) (hBs : w.heap[Bs]? = some (.cells #[sv] 25)) (hl : l.length ≤ 2000000) :
    SeqStopsK Fence.wide n Try.prog 71 #[.pointer (some ⟨Bs, 0, none⟩)] (fun x : Rng => #[rgA x]) (Below n₀) (fun ys => ys = l) (fun _ => True) l.length w := by
  intro lp J Jx W hW hJ _ hY h0
  obtain ⟨p, cap, rfl⟩ : ∃ p cap, sv = .slice p l.length cap := by obtain ⟨p, cap, e, _⟩ := h; exact ⟨p, cap, e⟩
  have hall : ∀ f, Fence.wide.fn f := fun _ => trivial
  have hdd : ∀ k : Nat, (Fence.wide.depth.isSome = true → 1 ≤ k) := fun k h => by cases h
  have hcell : W.cell? ⟨Bs, 0, none⟩ = some (.slice p l.length cap) := cell_blk ((hW.block Bs (blk_lt hBs)).trans hBs) 0
  have hrow : RgRow W (.slice p l.length cap) l := h.mono (Ext.trans hx hW)
  have hn₂ : n₀ ≤ W.heap.size := by have := hW.size; omega
  have hx0 : Ext w0 W := Ext.trans hx hW
  have HY := Lib.hid hY
  have HJ := Lib.hid hJ
  have H0 := Lib.hid h0
  clear hBs hW hx hY hJ h0
  refine callsIn_of_wp Try.func71 rfl (hall _) ?_ rfl
  simp only [Try.ntmps71, List.size_toArray, List.length_cons, List.length_nil, Nat.reduceAdd, Nat.reduceSub, Array.replicate_succ, Array.replicate_zero, List.push_toArray, List.append_toArray, List.nil_append, List.cons_append]
  gi_wp2
  gi_loopw [7] (fun k wr => ∃ i : Nat, i ≤ l.length ∧ k = .int .i64 (i : Nat) ∧ Hid (J (l.take i) wr) ∧ Below n₀ W wr) (fun k _ => l.length - (intOf k).toNat)
  case atStart => exact ⟨0, Nat.zero_le _, rfl, Lib.hid (by simpa using H0.out), Below.refl _ _⟩
  case round =>
    obtain ⟨i, hi, rfl, hJs, hb⟩ := hrel
    by_cases hlt : i < l.length
    · have hrw : RgRow wr (.slice p l.length cap) l := h.mono (Below.trans hx0 (hb.mono hn₀))
      obtain ⟨b1, o1, rfl, hc1⟩ := hrw.at (by intro e; rw [e] at hlt; simp at hlt)
      obtain ⟨a1, a2, a3⟩ := hc1 i hlt
      have htk := List.take_succ_eq_append_getElem hlt
      obtain ⟨x, hxe⟩ : ∃ x, l[i] = x := ⟨_, rfl⟩
      rw [hxe] at a1 a2 a3 htk
      have HTK := Lib.hid htk
      have hd : decide (i < l.length) = true := decide_eq_true hlt
      have i1 : ((i : Nat) : Int) < (l.length : Nat) := by omega
      have hsz := hb.size
      have hJ2 : J (l.take i) (wr.alloc (.cells #[.int .i32 x.lo, .int .i32 x.hi, .int .i64 x.cl] 32)) := HJ.out _ _ _ none hJs.out (World.grownBy_alloc wr _ none) (fun r e => by cases e)
      obtain ⟨fn, tmps, assign, body, hy, hR⟩ := HY.out _ x _ hJ2 (by rw [List.length_take]; omega)
      have hb2 := hb.alloc (by omega) (.cells #[.int .i32 x.lo, .int .i32 x.hi, .int .i64 x.cl] 32)
      have hbk := World.alloc_heap_new wr (.cells #[.int .i32 x.lo, .int .i32 x.hi, .int .i64 x.cl] 32)
      have k0 := cell_blk hbk 0
      have k1 := cell_blk hbk 1
      have k2 := cell_blk hbk 2
      clear hxe hc1 htk hrw hJ2
      gi_wp2
      refine hR.mono ?_
      rintro e W3 (⟨rfl, hJ3, hk3⟩ | ⟨rfl, hJx3⟩)
      · gi_wp2
        go_roundw
        case rel => exact ⟨i + 1, by omega, by simp, Lib.hid (by rw [HTK.out]; exact hJ3), hb2.trans hk3⟩
        case measure => simp [intOf]; omega
      · gi_wp2
        refine bodyPost_ret (results_none rfl _ _ _) rfl ?_
        exact ⟨⟨_, rfl⟩, .inr ⟨_, trivial, hJx3⟩⟩
    · have hd : decide (i < l.length) = false := decide_eq_false hlt
      obtain rfl : i = l.length := by omega
      gi_wp2
      go_end0
      exact ⟨⟨_, rfl⟩, .inl ⟨_, rfl, by simpa using hJs.out⟩⟩
end Go.Proofs.Ytbbemipidkhmfaa
