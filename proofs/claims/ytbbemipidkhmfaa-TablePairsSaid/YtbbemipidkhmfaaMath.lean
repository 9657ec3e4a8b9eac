/-
  Tables by their ranges: the class of each number, the blocks of numbers, lists of runs.
-/
import Derived.Test.YtbbemipidkhmfaaProg
namespace Go.Proofs.Ytbbemipidkhmfaa

/-- A range of numbers and its class. -/
structure Rng where
  lo : Int
  hi : Int
  cl : Int
def Ok1 (x : Rng) : Prop := 0 ≤ x.lo ∧ x.lo ≤ x.hi ∧ x.hi ≤ 1114111 ∧ 0 ≤ x.cl ∧ x.cl ≤ 255
/-- Ranges that rise and are apart. -/
def Rise : List Rng → Prop
  | [] => True
  | x :: t => Ok1 x ∧ (∀ y ∈ t, x.hi < y.lo) ∧ Rise t
/-- The class of a number. -/
def clsOf : List Rng → Int → Int → Int
  | [], rest, _ => rest
  | x :: t, rest, r => if x.lo ≤ r ∧ r ≤ x.hi then x.cl else clsOf t rest r

theorem Rise.ok {l : List Rng} (h : Rise l) : ∀ x ∈ l, Ok1 x := by
  induction l with
  | nil => intro x hx; cases hx
  | cons y t ih =>
    intro x hx
    rcases List.mem_cons.1 hx with rfl | hx
    · exact h.1
    · exact ih h.2.2 x hx
theorem Rise.tail {x : Rng} {t : List Rng} (h : Rise (x :: t)) : Rise t := h.2.2
theorem Rise.drop {l : List Rng} (h : Rise l) : ∀ j, Rise (l.drop j) := by
  intro j
  induction j generalizing l with
  | zero => exact h
  | succ j ih =>
    cases l with
    | nil => exact h
    | cons x t => exact ih h.2.2
theorem Rise.apart {pre suf : List Rng} (h : Rise (pre ++ suf)) : ∀ x ∈ pre, ∀ y ∈ suf, x.hi < y.lo := by
  induction pre with
  | nil => intro x hx; cases hx
  | cons z t ih =>
    intro x hx y hy
    rcases List.mem_cons.1 hx with rfl | hx
    · exact h.2.1 y (by simp [hy])
    · exact ih h.2.2 x hx y hy
theorem clsOf_none {l : List Rng} {rest r : Int} (h : ∀ x ∈ l, ¬ (x.lo ≤ r ∧ r ≤ x.hi)) : clsOf l rest r = rest := by
  induction l with
  | nil => rfl
  | cons x t ih =>
    rw [clsOf, if_neg (h x (by simp))]
    exact ih fun y hy => h y (by simp [hy])
theorem clsOf_app (pre suf : List Rng) (rest r : Int) : clsOf (pre ++ suf) rest r = clsOf pre (clsOf suf rest r) r := by
  induction pre with
  | nil => rfl
  | cons x t ih => simp only [List.cons_append, clsOf, ih]
theorem clsOf_app_none {pre suf : List Rng} {rest r : Int} (h : ∀ x ∈ suf, ¬ (x.lo ≤ r ∧ r ≤ x.hi)) : clsOf (pre ++ suf) rest r = clsOf pre rest r := by
  rw [clsOf_app, clsOf_none h]
theorem clsOf_none_app {pre suf : List Rng} {rest r : Int} (h : ∀ x ∈ pre, ¬ (x.lo ≤ r ∧ r ≤ x.hi)) : clsOf (pre ++ suf) rest r = clsOf suf rest r := by
  rw [clsOf_app, clsOf_none h]
/-- One range more. -/
theorem clsOf_snoc {pre : List Rng} {x : Rng} {rest r : Int} (h : ∀ y ∈ pre, y.hi < x.lo) : clsOf (pre ++ [x]) rest r = if x.lo ≤ r ∧ r ≤ x.hi then x.cl else clsOf pre rest r := by
  by_cases hr : x.lo ≤ r ∧ r ≤ x.hi
  · rw [if_pos hr, clsOf_none_app (fun y hy hh => by have := h y hy; omega), clsOf, if_pos hr]
  · rw [if_neg hr, clsOf_app_none]
    intro y hy
    obtain rfl : y = x := by simpa using hy
    exact hr
theorem clsOf_range {l : List Rng} {rest r : Int} (h : ∀ x ∈ l, Ok1 x) (h0 : 0 ≤ rest) (h1 : rest ≤ 255) : 0 ≤ clsOf l rest r ∧ clsOf l rest r ≤ 255 := by
  induction l with
  | nil => exact ⟨h0, h1⟩
  | cons x t ih =>
    rw [clsOf]
    split
    · obtain ⟨_, _, _, ha, hb⟩ := h x (by simp)
      exact ⟨ha, hb⟩
    · exact ih fun y hy => h y (by simp [hy])

/-- The classes of a block's numbers. -/
def blkOf (f : Int → Int) (n : Nat) : List Int := (List.range 128).map fun i => f ((128 * n + i : Nat) : Int)
theorem blkOf_length (f : Int → Int) (n : Nat) : (blkOf f n).length = 128 := by simp [blkOf]
theorem blkOf_get (f : Int → Int) (n i : Nat) (hi : i < (blkOf f n).length) : (blkOf f n)[i] = f ((128 * n + i : Nat) : Int) := by simp [blkOf]
theorem blk_ext {b : List Int} {f : Int → Int} {n : Nat} (hl : b.length = 128) (h : ∀ i (hi : i < b.length), b[i] = f ((128 * n + i : Nat) : Int)) : b = blkOf f n := by
  apply List.ext_getElem
  · rw [hl, blkOf_length]
  · intro i h1 h2
    rw [h i h1, blkOf_get]
theorem blkOf_congr {f g : Int → Int} {n : Nat} (h : ∀ i, i < 128 → f ((128 * n + i : Nat) : Int) = g ((128 * n + i : Nat) : Int)) : blkOf f n = blkOf g n := by
  refine blk_ext (blkOf_length f n) fun i hi => ?_
  rw [blkOf_get]
  exact h i (by rw [blkOf_length] at hi; exact hi)
/-- A block of one class. -/
theorem blkOf_const {f : Int → Int} {n : Nat} {c : Int} (h : ∀ i, i < 128 → f ((128 * n + i : Nat) : Int) = c) : blkOf f n = List.replicate 128 c := by
  apply List.ext_getElem
  · simp [blkOf_length]
  · intro i h1 h2
    rw [blkOf_get, List.getElem_replicate]
    exact h i (by rw [blkOf_length] at h1; exact h1)

/-- What is said of one block's class, without a look at its numbers. -/
def wholeOf (l : List Rng) (rest : Int) (n : Nat) : Int × Bool := match l with
  | [] => (rest, true)
  | x :: _ => if ((128 * n + 127 : Nat) : Int) < x.lo then (rest, true) else if x.lo ≤ ((128 * n : Nat) : Int) ∧ ((128 * n + 127 : Nat) : Int) ≤ x.hi then (x.cl, true) else (0, false)
theorem wholeOf_true {l : List Rng} (h : Rise l) {rest : Int} {n : Nat} {c : Int} (hw : wholeOf l rest n = (c, true)) : ∀ i, i < 128 → clsOf l rest ((128 * n + i : Nat) : Int) = c := by
  intro i hi
  cases l with
  | nil => simp [wholeOf] at hw; rw [clsOf, hw]
  | cons x t =>
    rw [wholeOf] at hw
    split at hw
    · rename_i h1
      simp only [Prod.mk.injEq, and_true] at hw
      rw [← hw]
      refine clsOf_none fun y hy hh => ?_
      rcases List.mem_cons.1 hy with rfl | hy
      · omega
      · have := h.2.1 y hy
        have := h.1.2.1
        omega
    · split at hw
      · rename_i h1
        simp only [Prod.mk.injEq, and_true] at hw
        rw [clsOf, if_pos (by omega), hw]
      · simp at hw
end Go.Proofs.Ytbbemipidkhmfaa
