/-
  The runs of a function on numbers: one list, and how it grows.
-/
import Derived.Test.YtbbemipidkhmfaaMath
namespace Go.Proofs.Ytbbemipidkhmfaa

/-- The runs from s to e. -/
def RunsFrom (f : Int → Int) : Int → Int → List Rng → Prop
  | s, e, [] => s = e
  | s, e, x :: t => x.lo = s ∧ x.lo ≤ x.hi ∧ (∀ r, x.lo ≤ r → r ≤ x.hi → f r = x.cl) ∧ (∀ y ∈ t.head?, y.cl ≠ x.cl) ∧ RunsFrom f (x.hi + 1) e t
theorem RunsFrom.le {f : Int → Int} : ∀ {l : List Rng} {s e : Int}, RunsFrom f s e l → s + l.length ≤ e
  | [], s, e, h => by rw [RunsFrom] at h; simp; omega
  | x :: t, s, e, h => by
    obtain ⟨h1, h2, _, _, h5⟩ := h
    have := RunsFrom.le h5
    simp only [List.length_cons]
    omega
theorem RunsFrom.unique {f : Int → Int} : ∀ {l l' : List Rng} {s e : Int}, RunsFrom f s e l → RunsFrom f s e l' → l = l'
  | [], [], _, _, _, _ => rfl
  | [], y :: t, s, e, h, h' => by
    obtain ⟨a1, a2, _, _, a5⟩ := h'
    have := a5.le
    rw [RunsFrom] at h
    omega
  | x :: t, [], s, e, h, h' => by
    obtain ⟨a1, a2, _, _, a5⟩ := h
    have := a5.le
    rw [RunsFrom] at h'
    omega
  | x :: t, y :: t', s, e, h, h' => by
    obtain ⟨a1, a2, a3, a4, a5⟩ := h
    obtain ⟨b1, b2, b3, b4, b5⟩ := h'
    have hc : x.cl = y.cl := by rw [← a3 s (by omega) (by omega), ← b3 s (by omega) (by omega)]
    have key : ∀ (x y : Rng) (t : List Rng), x.lo = s → x.lo ≤ x.hi → y.lo = s → x.cl = y.cl → (∀ z ∈ t.head?, z.cl ≠ x.cl) → RunsFrom f (x.hi + 1) e t → (∀ r, y.lo ≤ r → r ≤ y.hi → f r = y.cl) → y.hi + 1 ≤ e → ¬ x.hi < y.hi := by
      intro x y t h1 h2 h3 h4 h5 h6 h7 h8 hlt
      cases t with
      | nil => rw [RunsFrom] at h6; omega
      | cons z t2 =>
        obtain ⟨c1, c2, c3, _, _⟩ := h6
        have e1 := c3 (x.hi + 1) (by omega) (by omega)
        have e2 := h7 (x.hi + 1) (by omega) (by omega)
        exact h5 z rfl (by rw [← e1, e2, h4])
    have hle1 := a5.le
    have hle2 := b5.le
    have n1 := key x y t a1 a2 b1 hc a4 a5 b3 (by omega)
    have n2 := key y x t' b1 b2 a1 hc.symm b4 b5 a3 (by omega)
    have hh : x.hi = y.hi := by omega
    have hx : x = y := by
      cases x; cases y
      simp only at hc hh a1 b1
      subst hc hh
      congr 1
      omega
    subst hx
    rw [RunsFrom.unique a5 b5]
/-- One piece more. -/
def addR : List Rng → Int → Int → Int → List Rng
  | [], lo, hi, c => [⟨lo, hi, c⟩]
  | [x], lo, hi, c => if x.cl = c then [⟨x.lo, hi, c⟩] else [x, ⟨lo, hi, c⟩]
  | x :: y :: t, lo, hi, c => x :: addR (y :: t) lo hi c
theorem addR_snoc (x : Rng) (lo hi c : Int) : ∀ pre : List Rng, addR (pre ++ [x]) lo hi c = if x.cl = c then pre ++ [⟨x.lo, hi, c⟩] else pre ++ [x, ⟨lo, hi, c⟩]
  | [] => by simp only [List.nil_append, addR]
  | [a] => by
    simp only [List.cons_append, List.nil_append, addR]
    split <;> rfl
  | a :: b :: t => by
    have := addR_snoc x lo hi c (b :: t)
    simp only [List.cons_append, addR] at this ⊢
    rw [this]
    split <;> rfl
theorem addR_head (x : Rng) (t : List Rng) (lo hi c : Int) : ∃ y, (addR (x :: t) lo hi c).head? = some y ∧ y.cl = x.cl := by
  cases t with
  | nil =>
    unfold addR
    split
    · rename_i h; exact ⟨_, rfl, h.symm⟩
    · exact ⟨_, rfl, rfl⟩
  | cons y t => exact ⟨x, rfl, rfl⟩
theorem RunsFrom.add {f : Int → Int} {q c : Int} : ∀ {l : List Rng} {s p : Int}, RunsFrom f s p l → p ≤ q → (∀ r, p ≤ r → r ≤ q → f r = c) → RunsFrom f s (q + 1) (addR l p q c)
  | [], s, p, h, hpq, hc => by
    rw [RunsFrom] at h
    subst h
    exact ⟨rfl, hpq, hc, by simp, rfl⟩
  | [x], s, p, h, hpq, hc => by
    obtain ⟨a1, a2, a3, a4, a5⟩ := h
    rw [RunsFrom] at a5
    unfold addR
    split
    · rename_i e
      refine ⟨a1, by show x.lo ≤ q; omega, fun r h1 h2 => ?_, by simp, rfl⟩
      by_cases hr : r ≤ x.hi
      · rw [a3 r h1 hr, e]
      · exact hc r (by omega) h2
    · rename_i e
      refine ⟨a1, a2, a3, ?_, a5.symm, hpq, hc, by simp, rfl⟩
      intro y hy
      simp at hy
      rw [← hy]
      exact fun h => e h.symm
  | x :: y :: t, s, p, h, hpq, hc => by
    obtain ⟨a1, a2, a3, a4, a5⟩ := h
    refine ⟨a1, a2, a3, ?_, RunsFrom.add a5 hpq hc⟩
    obtain ⟨z, hz, hzc⟩ := addR_head y t p q c
    rw [hz]
    intro w hw
    obtain rfl : z = w := by simpa using hw
    rw [hzc]
    exact a4 y rfl
theorem addR_length (l : List Rng) (lo hi c : Int) : (addR l lo hi c).length ≤ l.length + 1 := by
  rcases List.eq_nil_or_concat l with rfl | ⟨pre, x, rfl⟩
  · simp [addR]
  · rw [List.concat_eq_append, addR_snoc]
    split <;> simp
/-- Ranges as cells. -/
def rgV (x : Rng) : List Value := [.int .i32 x.lo, .int .i32 x.hi, .int .i64 x.cl]
def rgCells (l : List Rng) : List Value := l.flatMap rgV
theorem rgCells_append (a b : List Rng) : rgCells (a ++ b) = rgCells a ++ rgCells b := by simp [rgCells]
theorem rgCells_length (l : List Rng) : (rgCells l).length = l.length * 3 := by
  induction l with
  | nil => rfl
  | cons x t ih =>
    have e : rgCells (x :: t) = rgV x ++ rgCells t := rfl
    rw [e, List.length_append, ih]
    simp [rgV]
    omega
theorem rgCells_get (pre : List Rng) (x : Rng) (t : List Rng) : (rgCells (pre ++ x :: t))[pre.length * 3]? = some (.int .i32 x.lo) ∧ (rgCells (pre ++ x :: t))[pre.length * 3 + 1]? = some (.int .i32 x.hi) ∧ (rgCells (pre ++ x :: t))[pre.length * 3 + 2]? = some (.int .i64 x.cl) := by
  have e : rgCells (pre ++ x :: t) = rgCells pre ++ (rgV x ++ rgCells t) := by rw [rgCells_append]; rfl
  have hl := rgCells_length pre
  rw [e]
  refine ⟨?_, ?_, ?_⟩ <;> (rw [List.getElem?_append_right (by omega), hl]; simp [rgV])
theorem rgCells_setHi (pre : List Rng) (x : Rng) (hi : Int) : (rgCells (pre ++ [x])).set (pre.length * 3 + 1) (.int .i32 hi) = rgCells (pre ++ [⟨x.lo, hi, x.cl⟩]) := by
  rw [rgCells_append, rgCells_append, List.set_append_right _ _ (by rw [rgCells_length]; omega), rgCells_length]
  congr 1
  rw [show pre.length * 3 + 1 - pre.length * 3 = 1 from by omega]
  rfl
end Go.Proofs.Ytbbemipidkhmfaa
