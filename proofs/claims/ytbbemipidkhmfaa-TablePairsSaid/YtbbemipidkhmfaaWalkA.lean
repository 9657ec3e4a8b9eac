/-
  Ranges in memory; a block's class at one look.
-/
import Derived.Test.YtbbemipidkhmfaaPlan
import Derived.Deep.RegionWith
import Derived.Deep.RegionHeld3
import Derived.Deep.DeepCutAuto
import Derived.Deep.LoopGhost
import Derived.Lib.MinMax
import Derived.Lib.Hide
namespace Go.Proofs.Ytbbemipidkhmfaa
open Go.RowKit

/-- Ranges in memory. -/
def RgRow (w : World) (v : Value) (l : List Rng) : Prop :=
  ∃ p cap, v = .slice p l.length cap ∧ l.length ≤ cap ∧ (l ≠ [] → ∃ b off, p = some ⟨b, off, none⟩ ∧ b < w.heap.size ∧
    ∀ i (h : i < l.length), w.cell? ⟨b, off + i * 3, none⟩ = some (.int .i32 l[i].lo) ∧ w.cell? ⟨b, off + i * 3 + 1, none⟩ = some (.int .i32 l[i].hi) ∧ w.cell? ⟨b, off + i * 3 + 2, none⟩ = some (.int .i64 l[i].cl))
theorem RgRow.mono {w w' : World} {v : Value} {l : List Rng} (hx : Ext w w') (h : RgRow w v l) : RgRow w' v l := by
  obtain ⟨p, cap, rfl, hcap, h2⟩ := h
  refine ⟨p, cap, rfl, hcap, fun hne => ?_⟩
  obtain ⟨b, off, rfl, hb, hc⟩ := h2 hne
  exact ⟨b, off, rfl, Nat.lt_of_lt_of_le hb hx.sz, fun i hi => ⟨(Below.cell hx (p := ⟨b, off + i * 3, none⟩) hb).trans (hc i hi).1, (Below.cell hx (p := ⟨b, off + i * 3 + 1, none⟩) hb).trans (hc i hi).2.1, (Below.cell hx (p := ⟨b, off + i * 3 + 2, none⟩) hb).trans (hc i hi).2.2⟩⟩
theorem RgRow.nil (w : World) : RgRow w (.slice none 0 0) [] := ⟨none, 0, rfl, Nat.le_refl _, fun h => absurd rfl h⟩
/-- The first of ranges. -/
theorem RgRow.head {w : World} {v : Value} {x : Rng} {t : List Rng} (h : RgRow w v (x :: t)) : ∃ b off cap, v = .slice (some ⟨b, off, none⟩) (t.length + 1) cap ∧ t.length + 1 ≤ cap ∧ w.cell? ⟨b, off, none⟩ = some (.int .i32 x.lo) ∧ w.cell? ⟨b, off + 1, none⟩ = some (.int .i32 x.hi) ∧ w.cell? ⟨b, off + 2, none⟩ = some (.int .i64 x.cl) := by
  obtain ⟨p, cap, rfl, hcap, h2⟩ := h
  obtain ⟨b, off, rfl, hb, hc⟩ := h2 (by simp)
  have := hc 0 (by simp)
  simp only [Nat.zero_mul, Nat.add_zero, List.getElem_cons_zero] at this
  exact ⟨b, off, cap, rfl, by simpa using hcap, this⟩
/-- The others. -/
theorem RgRow.tail {w : World} {x : Rng} {t : List Rng} {b off cap : Nat} (h : RgRow w (.slice (some ⟨b, off, none⟩) (t.length + 1) cap) (x :: t)) {p : Option Addr} (hp : t ≠ [] → p = some ⟨b, off + 3, none⟩) : RgRow w (.slice p t.length (cap - 1)) t := by
  obtain ⟨p', cap', e, hcap, h2⟩ := h
  cases e
  refine ⟨p, cap - 1, rfl, by simp at hcap; omega, fun hne => ?_⟩
  obtain ⟨b', off', e, hb, hc⟩ := h2 (by simp)
  cases e
  refine ⟨b, off + 3, hp hne, hb, fun i hi => ?_⟩
  have := hc (i + 1) (by simp; omega)
  simp only [List.getElem_cons_succ] at this
  rw [show off + 3 + i * 3 = off + (i + 1) * 3 from by omega]
  exact this

set_option maxRecDepth 100000 in
set_option maxHeartbeats 2000000 in
theorem c_whole (v : Value) (l : List Rng) (rest : Int) (n : Nat) (w : World) (h : RgRow w v l) (hn : n < 8704) :
    Calls Try.prog 74 #[v, .int .i64 rest, .int .i64 (n : Nat)] w fun e w' => e = .returned (.tuple #[.int .i64 (wholeOf l rest n).1, .bool (wholeOf l rest n).2]) ∧ w' = w := by
  cases l with
  | nil =>
    obtain ⟨p, cap, rfl, _, _⟩ := h
    simp only [wholeOf, List.length_nil]
    go_enter Try.func74, Try.ntmps74
    go_wp2_with fail
    exact bodyPost_ret (by simp [results, Try.results74, go_sem]) rfl ⟨rfl, rfl⟩
  | cons x t =>
    obtain ⟨b, off, cap, rfl, hcap, c0, c1, c2⟩ := h.head
    clear h
    have g0 : ((t.length : Nat) : Int) + 1 ≠ 0 := by omega
    have g1 : (((t.length : Nat) : Int) + 1 == 0) = false := beq_false_of_ne g0
    by_cases h1 : ((128 * n + 127 : Nat) : Int) < x.lo
    · have q1 : (n : Int) * 128 + 128 - 1 < x.lo := by omega
      have hw : wholeOf (x :: t) rest n = (rest, true) := by rw [wholeOf, if_pos h1]
      rw [hw]
      clear hw h1
      go_enter Try.func74, Try.ntmps74
      go_wp2_with fail
      exact bodyPost_ret (by simp [results, Try.results74, go_sem]) rfl ⟨rfl, rfl⟩
    · have q1 : ¬ (n : Int) * 128 + 128 - 1 < x.lo := by omega
      by_cases h2 : x.lo ≤ ((128 * n : Nat) : Int)
      · by_cases h3 : ((128 * n + 127 : Nat) : Int) ≤ x.hi
        · have hw : wholeOf (x :: t) rest n = (x.cl, true) := by rw [wholeOf, if_neg h1, if_pos ⟨h2, h3⟩]
          rw [hw]
          have q2 : x.lo ≤ (n : Int) * 128 := by omega
          have q3 : (n : Int) * 128 + 128 - 1 ≤ x.hi := by omega
          clear hw h1 h2 h3
          go_enter Try.func74, Try.ntmps74
          go_wp2_with fail
          exact bodyPost_ret (by simp [results, Try.results74, go_sem]) rfl ⟨rfl, rfl⟩
        · have hw : wholeOf (x :: t) rest n = (0, false) := by rw [wholeOf, if_neg h1, if_neg (fun h => h3 h.2)]
          rw [hw]
          have q2 : x.lo ≤ (n : Int) * 128 := by omega
          have q3 : ¬ (n : Int) * 128 + 128 - 1 ≤ x.hi := by omega
          clear hw h1 h2 h3
          go_enter Try.func74, Try.ntmps74
          go_wp2_with fail
          exact bodyPost_ret (by simp [results, Try.results74, go_sem]) rfl ⟨rfl, rfl⟩
      · have hw : wholeOf (x :: t) rest n = (0, false) := by rw [wholeOf, if_neg h1, if_neg (fun h => h2 h.1)]
        rw [hw]
        have q2 : ¬ x.lo ≤ (n : Int) * 128 := by omega
        clear hw h1 h2
        go_enter Try.func74, Try.ntmps74
        go_wp2_with fail
        exact bodyPost_ret (by simp [results, Try.results74, go_sem]) rfl ⟨rfl, rfl⟩
end Go.Proofs.Ytbbemipidkhmfaa
