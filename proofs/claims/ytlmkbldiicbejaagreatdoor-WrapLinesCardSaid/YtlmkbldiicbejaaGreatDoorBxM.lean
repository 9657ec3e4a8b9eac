/-
  Boxes and numbers in memory.
-/
import Derived.Test.YtlmkbldiicbejaaGreatDoorGaA
import Derived.Test.YtlmkbldiicbejaaGreatDoorWpA
namespace Go.Proofs.YtlmkbldiicbejaaGreatDoor
open Go.RowKit Go.Rp Go.Maps Go.Cl Go.Shelf Go.Gr

/-- A box as it comes in. -/
structure BxI where
  w : Int
  b : Int
  h : Int
  m : Bool
def bxI (x : Wp.Bx) : BxI := ⟨x.w, x.b, x.h, x.m⟩
def bxW (l : List BxI) : List Value := l.flatMap fun x => [.int .i64 x.w, .int .i64 x.b, .int .i64 x.h, .bool x.m]
theorem bxW_app (x y : List BxI) : bxW (x ++ y) = bxW x ++ bxW y := by simp [bxW]
/-- A row of boxes, cell by cell. -/
def BxRow (w : World) (v : Value) (l : List BxI) : Prop :=
  ∃ p cap, v = .slice p l.length cap ∧ l.length ≤ cap ∧ (l ≠ [] → ∃ g o, p = some ⟨g, o, none⟩ ∧ g < w.heap.size ∧ ∀ i (h : i < l.length), w.cell? ⟨g, o + i * 4, none⟩ = some (.int .i64 l[i].w) ∧ w.cell? ⟨g, o + i * 4 + 1, none⟩ = some (.int .i64 l[i].b) ∧ w.cell? ⟨g, o + i * 4 + 2, none⟩ = some (.int .i64 l[i].h) ∧ w.cell? ⟨g, o + i * 4 + 3, none⟩ = some (.bool l[i].m))
theorem BxRow.ext {w w' : World} {v : Value} {l : List BxI} (h : BxRow w v l) (hx : Ext w w') : BxRow w' v l := by
  obtain ⟨p, cap, rfl, hc, h2⟩ := h
  refine ⟨p, cap, rfl, hc, fun hne => ?_⟩
  obtain ⟨g, o, rfl, hg, h3⟩ := h2 hne
  exact ⟨g, o, rfl, Nat.lt_of_lt_of_le hg hx.sz, fun i hi => ⟨hx.cell (h3 i hi).1, hx.cell (h3 i hi).2.1, hx.cell (h3 i hi).2.2.1, hx.cell (h3 i hi).2.2.2⟩⟩
theorem bxW_get : ∀ (l : List BxI) (i : Nat) (h : i < l.length), (bxW l)[i * 4]? = some (.int .i64 l[i].w) ∧ (bxW l)[i * 4 + 1]? = some (.int .i64 l[i].b) ∧ (bxW l)[i * 4 + 2]? = some (.int .i64 l[i].h) ∧ (bxW l)[i * 4 + 3]? = some (.bool l[i].m)
  | [], i, h => by simp at h
  | x :: l, 0, _ => by simp [bxW]
  | x :: l, i + 1, h => by
    obtain ⟨h1, h2, h3, h4⟩ := bxW_get l i (by simpa using h)
    have e : bxW (x :: l) = [.int .i64 x.w, .int .i64 x.b, .int .i64 x.h, .bool x.m] ++ bxW l := by simp [bxW]
    rw [e]
    refine ⟨?_, ?_, ?_, ?_⟩
    · rw [show (i + 1) * 4 = i * 4 + 4 by omega, List.getElem?_append_right (by simp)]; simpa using h1
    · rw [show (i + 1) * 4 + 1 = i * 4 + 1 + 4 by omega, List.getElem?_append_right (by simp)]; simpa using h2
    · rw [show (i + 1) * 4 + 2 = i * 4 + 2 + 4 by omega, List.getElem?_append_right (by simp)]; simpa using h3
    · rw [show (i + 1) * 4 + 3 = i * 4 + 3 + 4 by omega, List.getElem?_append_right (by simp)]; simpa using h4
theorem bxW_len (l : List BxI) : (bxW l).length = l.length * 4 := by
  induction l with
  | nil => rfl
  | cons x l ih =>
    have e : bxW (x :: l) = [.int .i64 x.w, .int .i64 x.b, .int .i64 x.h, .bool x.m] ++ bxW l := by simp [bxW]
    rw [e, List.length_append, ih]
    simp
    omega
theorem BxRow.of_own {w : World} {B : Nat} {v : Value} {l : List BxI} (h : w.ownsRow B 45 4 v l.length (bxW l)) : BxRow w v l := by
  obtain ⟨p, cap, rfl⟩ := own_slice h
  refine ⟨p, cap, rfl, own_cap h, fun hne => ?_⟩
  obtain ⟨g, rfl, _, hg, hc⟩ := own_at h (List.length_pos_iff.2 hne)
  refine ⟨g, 0, rfl, hg, fun i hi => ?_⟩
  obtain ⟨h1, h2, h3, h4⟩ := bxW_get l i hi
  rw [Nat.zero_add]
  exact ⟨(hc _ (by omega)).trans h1, (hc _ (by omega)).trans h2, (hc _ (by omega)).trans h3, (hc _ (by omega)).trans h4⟩
/-- A part of a row. -/
theorem BxRow.sub {w : World} {g o n cap : Nat} {l : List BxI} (h : BxRow w (.slice (some ⟨g, o, none⟩) n cap) l) {i j c : Nat} (hij : i ≤ j) (hj : j ≤ l.length) (hc : j - i ≤ c) : BxRow w (.slice (some ⟨g, o + i * 4, none⟩) (j - i) c) ((l.take j).drop i) := by
  obtain ⟨p', cap', e, _, h2⟩ := h
  obtain ⟨rfl, -, rfl⟩ := Value.slice.inj e
  have hl : ((l.take j).drop i).length = j - i := by rw [List.length_drop, List.length_take]; omega
  refine ⟨_, c, by rw [hl], by omega, fun hne => ?_⟩
  obtain ⟨g', o', e2, hg, h3⟩ := h2 (fun e => hne (by rw [e]; simp))
  obtain ⟨rfl, rfl, -⟩ := Addr.mk.inj (Option.some.inj e2)
  refine ⟨g, o + i * 4, rfl, hg, fun k hk => ?_⟩
  rw [hl] at hk
  have := h3 (i + k) (by omega)
  rw [Nat.add_mul, ← Nat.add_assoc] at this
  have e3 : ((l.take j).drop i)[k]'(by rw [hl]; exact hk) = l[i + k]'(by omega) := by simp
  rw [e3]
  exact this
/-- Numbers in memory. -/
def IRow (w : World) (v : Value) (l : List Int) : Prop :=
  ∃ p cap, v = .slice p l.length cap ∧ l.length ≤ cap ∧ (l ≠ [] → ∃ b off, p = some ⟨b, off, none⟩ ∧ b < w.heap.size ∧ ∀ i (h : i < l.length), w.cell? ⟨b, off + i, none⟩ = some (.int .i64 l[i]))
theorem IRow.ext {w w' : World} {v : Value} {l : List Int} (h : IRow w v l) (hx : Ext w w') : IRow w' v l := by
  obtain ⟨p, cap, rfl, hcap, h2⟩ := h
  refine ⟨p, cap, rfl, hcap, fun hne => ?_⟩
  obtain ⟨b, off, rfl, hb, hc⟩ := h2 hne
  exact ⟨b, off, rfl, Nat.lt_of_lt_of_le hb hx.sz, fun i hi => hx.cell (hc i hi)⟩
def iW (l : List Int) : List Value := l.map fun n => Value.int .i64 n
theorem IRow.of_own {w : World} {B : Nat} {v : Value} {l : List Int} (h : w.ownsRow B 3 1 v l.length (iW l)) : IRow w v l := by
  obtain ⟨p, cap, rfl⟩ := own_slice h
  refine ⟨p, cap, rfl, own_cap h, fun hne => ?_⟩
  obtain ⟨g, rfl, _, hg, hc⟩ := own_at h (List.length_pos_iff.2 hne)
  refine ⟨g, 0, rfl, hg, fun i hi => ?_⟩
  rw [Nat.zero_add]
  exact (hc i (by omega)).trans (by simp [iW, hi])
theorem IRow.tail {w : World} {g o n cap : Nat} {x : Int} {l : List Int} (h : IRow w (.slice (some ⟨g, o, none⟩) n cap) (x :: l)) : IRow w (.slice (some ⟨g, o + 1, none⟩) l.length (cap - 1)) l := by
  obtain ⟨p', cap', e, hc, h2⟩ := h
  obtain ⟨rfl, -, rfl⟩ := Value.slice.inj e
  obtain ⟨g', o', e2, hg, h3⟩ := h2 (by simp)
  obtain ⟨rfl, rfl, -⟩ := Addr.mk.inj (Option.some.inj e2)
  simp only [List.length_cons] at hc
  refine ⟨_, _, rfl, by omega, fun _ => ⟨g, o + 1, rfl, hg, fun i hi => ?_⟩⟩
  have := h3 (i + 1) (by simpa using hi)
  rw [show o + 1 + i = o + (i + 1) by omega]
  simpa using this
end Go.Proofs.YtlmkbldiicbejaaGreatDoor
