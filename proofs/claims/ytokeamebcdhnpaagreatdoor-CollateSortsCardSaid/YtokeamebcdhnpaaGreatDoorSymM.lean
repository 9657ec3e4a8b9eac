/-
 A stable sort in plain words: sorted, and what has one order stays as it stood.
-/
import Derived.Test.YtokeamebcdhnpaaGreatDoorPlainM
namespace Go.Nm

/-- The same of each order, in the same row. -/
def Same (A B : List El) : Prop := ∀ v : Int, A.filter (fun x => decide (x.ord = v)) = B.filter (fun x => decide (x.ord = v))
def Up (A : List El) : Prop := A.Pairwise fun x y => x.ord ≤ y.ord
theorem Same.refl (A : List El) : Same A A := fun _ => rfl
theorem Same.symm {A B : List El} (h : Same A B) : Same B A := fun v => (h v).symm
theorem Same.trans {A B C : List El} (h : Same A B) (h' : Same B C) : Same A C := fun v => (h v).trans (h' v)
theorem Same.append {A B C D : List El} (h : Same A B) (h' : Same C D) : Same (A ++ C) (B ++ D) := fun v => by rw [List.filter_append, List.filter_append, h v, h' v]
theorem Same.mem {A B : List El} (h : Same A B) {x : El} : x ∈ A ↔ x ∈ B := by
 have e : ∀ C : List El, x ∈ C ↔ x ∈ C.filter (fun y => decide (y.ord = x.ord)) := fun C => by simp
 rw [e A, e B, h]
theorem Same.swap {X Y : List El} (h : ∀ x ∈ X, ∀ y ∈ Y, x.ord ≠ y.ord) : Same (X ++ Y) (Y ++ X) := fun v => by
 rw [List.filter_append, List.filter_append]
 by_cases hx : X.filter (fun x => decide (x.ord = v)) = []
 ·rw [hx, List.nil_append, List.append_nil]
 ·have hy : Y.filter (fun x => decide (x.ord = v)) = [] := by
   obtain ⟨x, hx⟩ := List.exists_mem_of_ne_nil _ hx
   rw [List.filter_eq_nil_iff]
   intro y hy e
   simp only [List.mem_filter, decide_eq_true_eq] at hx e
   exact h x hx.1 y hy (hx.2.trans e.symm)
  rw [hy, List.nil_append, List.append_nil]
theorem Up.uniq : ∀ {A B : List El}, Up A → Up B → Same A B → A = B := by
 intro A
 induction A with
 | nil =>
  intro B _ _ h
  cases B with
  | nil => rfl
  | cons y t => have := h.mem.2 (List.mem_cons_self (a := y) (l := t)); cases this
 | cons x A ih =>
  intro B hA hB h
  cases B with
  | nil => have := h.mem.1 (List.mem_cons_self (a := x) (l := A)); cases this
  | cons y B =>
   have h1 : x.ord ≤ y.ord := by
    rcases List.mem_cons.1 (h.mem.2 (List.mem_cons_self (a := y) (l := B))) with rfl | hm
    ·exact Int.le_refl _
    ·exact (List.pairwise_cons.1 hA).1 _ hm
   have h2 : y.ord ≤ x.ord := by
    rcases List.mem_cons.1 (h.mem.1 (List.mem_cons_self (a := x) (l := A))) with rfl | hm
    ·exact Int.le_refl _
    ·exact (List.pairwise_cons.1 hB).1 _ hm
   have he : x.ord = y.ord := by omega
   have hv := h x.ord
   rw [List.filter_cons, List.filter_cons, if_pos (by simp), if_pos (by simp [he])] at hv
   have hxy : x = y := (List.cons.inj hv).1
   subst hxy
   rw [ih (List.pairwise_cons.1 hA).2 (List.pairwise_cons.1 hB).2 (fun v => by
    have := h v
    rw [List.filter_cons, List.filter_cons] at this
    split at this
    ·exact (List.cons.inj this).2
    ·exact this)]
theorem insL_same {x : El} : ∀ {L : List El}, (∀ y ∈ L, 0 < y.ord) → 0 < x.ord → Same (x :: L) (insL x L)
 | [], _, _ => Same.refl _
 | y :: t, h, hx => by
  by_cases hc : 0 < y.ord ∧ y.ord < x.ord
  ·rw [insL_pass hc]
   have h1 : Same ([x] ++ [y]) ([y] ++ [x]) := Same.swap (by simp; omega)
   have h2 := (Same.append h1 (Same.refl t))
   exact h2.trans (Same.append (Same.refl [y]) (insL_same (fun z hz => h z (List.mem_cons_of_mem _ hz)) hx))
  ·rw [insL_stop hc]
   exact Same.refl _
theorem sortL_same : ∀ {L : List El}, (∀ y ∈ L, 0 < y.ord) → Same L (sortL L)
 | [], _ => Same.refl _
 | x :: t, h => by
  have h1 := Same.append (Same.refl [x]) (sortL_same fun z hz => h z (List.mem_cons_of_mem _ hz))
  exact h1.trans (insL_same (fun y hy => h y (List.mem_cons_of_mem _ (sortL_mem.1 hy))) (h x (by simp)))
theorem insL_up {x : El} (hx : 0 < x.ord) : ∀ {L : List El}, (∀ y ∈ L, 0 < y.ord) → Up L → Up (insL x L)
 | [], _, _ => by simp [insL, Up]
 | y :: t, h, hu => by
  have hu' := List.pairwise_cons.1 hu
  by_cases hc : 0 < y.ord ∧ y.ord < x.ord
  ·rw [insL_pass hc]
   refine List.pairwise_cons.2 ⟨fun z hz => ?_, insL_up hx (fun z hz => h z (List.mem_cons_of_mem _ hz)) hu'.2⟩
   rcases insL_mem.1 hz with rfl | hz
   ·omega
   ·exact hu'.1 z hz
  ·rw [insL_stop hc]
   have hy := h y (by simp)
   refine List.pairwise_cons.2 ⟨fun z hz => ?_, hu⟩
   rcases List.mem_cons.1 hz with rfl | hz
   ·omega
   ·have := hu'.1 z hz
    omega
theorem sortL_up : ∀ {L : List El}, (∀ y ∈ L, 0 < y.ord) → Up (sortL L)
 | [], _ => List.Pairwise.nil
 | x :: t, h => insL_up (h x (by simp)) (fun y hy => h y (List.mem_cons_of_mem _ (sortL_mem.1 hy))) (sortL_up fun z hz => h z (List.mem_cons_of_mem _ hz))
/-- What is sorted and the same is the sort. -/
theorem sortL_of {L M : List El} (h : ∀ y ∈ L, 0 < y.ord) (hu : Up M) (hs : Same L M) : M = sortL L := Up.uniq hu (sortL_up h) (hs.symm.trans (sortL_same h))
/-- One more has found its place. -/
theorem ins_end {N P1 P2 : List El} {x : El} (hN : ∀ y ∈ N, 0 < y.ord) (hx : 0 < x.ord) (hP : P1 ++ P2 = sortL N) (h2 : ∀ y ∈ P2, x.ord < y.ord) (h1 : P1 = [] ∨ ∃ P y, P1 = P ++ [y] ∧ y.ord ≤ x.ord) : P1 ++ x :: P2 = sortL (N ++ [x]) := by
 have hu := sortL_up hN
 have hs := sortL_same hN
 rw [← hP] at hu hs
 have hu' := List.pairwise_append.1 hu
 have hle : ∀ y ∈ P1, y.ord ≤ x.ord := by
  rcases h1 with rfl | ⟨P, y, rfl, hy⟩
  ·intro y hy; cases hy
  ·intro z hz
   rcases List.mem_append.1 hz with hz | hz
   ·have := (List.pairwise_append.1 hu'.1).2.2 z hz y (by simp)
    omega
   ·simp at hz; subst hz; exact hy
 refine sortL_of ?_ ?_ ?_
 ·intro y hy
  rcases List.mem_append.1 hy with hy | hy
  ·exact hN y hy
  ·simp at hy; subst hy; exact hx
 ·refine List.pairwise_append.2 ⟨hu'.1, List.pairwise_cons.2 ⟨fun z hz => by have := h2 z hz; omega, hu'.2.1⟩, fun y hy z hz => ?_⟩
  rcases List.mem_cons.1 hz with rfl | hz
  ·exact hle y hy
  ·exact hu'.2.2 y hy z hz
 ·have e1 : Same (N ++ [x]) ((P1 ++ P2) ++ [x]) := Same.append hs (Same.refl _)
  have e2 : Same (P2 ++ [x]) ([x] ++ P2) := Same.swap (fun y hy z hz => by have := h2 y hy; simp at hz; subst hz; omega)
  have e3 := Same.append (Same.refl P1) e2
  rw [← List.append_assoc] at e3
  exact e1.trans e3
theorem Up.last {A : List El} (h : Up A) {u : List El} {z : El} (e : A = u ++ [z]) : ∀ y ∈ A, y.ord ≤ z.ord := by
 subst e
 intro y hy
 rcases List.mem_append.1 hy with hy | hy
 ·exact (List.pairwise_append.1 h).2.2 y hy z (by simp)
 ·simp at hy; subst hy; exact Int.le_refl _
theorem Up.first {A : List El} (h : Up A) {t : List El} {z : El} (e : A = z :: t) : ∀ y ∈ A, z.ord ≤ y.ord := by
 subst e
 intro y hy
 rcases List.mem_cons.1 hy with rfl | hy
 ·exact Int.le_refl _
 ·exact (List.pairwise_cons.1 h).1 y hy
/-- Two sorted rows, parted so that the front parts hold what comes first. -/
theorem merge_split {X1 X2 Y1 Y2 : List El} (hp : ∀ z ∈ (X1 ++ X2) ++ (Y1 ++ Y2), 0 < z.ord) (hX : Up (X1 ++ X2)) (hY : Up (Y1 ++ Y2)) (h1 : ∀ x ∈ X2, ∀ y ∈ Y1, y.ord < x.ord) (h2 : ∀ x ∈ X1, ∀ y ∈ Y2, x.ord ≤ y.ord) :
  sortL (X1 ++ Y1) ++ sortL (X2 ++ Y2) = sortL ((X1 ++ X2) ++ (Y1 ++ Y2)) := by
 have hp1 : ∀ z ∈ X1 ++ Y1, 0 < z.ord := fun z hz => hp z (by simp at hz ⊢; rcases hz with h | h <;> simp [h])
 have hp2 : ∀ z ∈ X2 ++ Y2, 0 < z.ord := fun z hz => hp z (by simp at hz ⊢; rcases hz with h | h <;> simp [h])
 have hX' := List.pairwise_append.1 hX
 have hY' := List.pairwise_append.1 hY
 refine sortL_of hp (List.pairwise_append.2 ⟨sortL_up hp1, sortL_up hp2, fun a ha b hb => ?_⟩) ?_
 ·rcases List.mem_append.1 (sortL_mem.1 ha) with ha | ha <;> rcases List.mem_append.1 (sortL_mem.1 hb) with hb | hb
  ·exact hX'.2.2 a ha b hb
  ·exact h2 a ha b hb
  ·have := h1 b hb a ha; omega
  ·exact hY'.2.2 a ha b hb
 ·have e1 : Same (X2 ++ Y1) (Y1 ++ X2) := Same.swap (fun x hx y hy e => by have := h1 x hx y hy; omega)
  have e2 : Same ((X1 ++ X2) ++ (Y1 ++ Y2)) ((X1 ++ Y1) ++ (X2 ++ Y2)) := by
   have := Same.append (Same.refl X1) (Same.append e1 (Same.refl Y2))
   simpa using this
  exact e2.trans (Same.append (sortL_same hp1) (sortL_same hp2))
/-- The same, by the elements at the seams. -/
theorem sym_split {X1 X2 Y1 Y2 : List El} (hp : ∀ z ∈ (X1 ++ X2) ++ (Y1 ++ Y2), 0 < z.ord) (hX : Up (X1 ++ X2)) (hY : Up (Y1 ++ Y2))
  (h1 : ∀ x t u y, X2 = x :: t → Y1 = u ++ [y] → y.ord < x.ord) (h2 : ∀ u x y t, X1 = u ++ [x] → Y2 = y :: t → x.ord ≤ y.ord) :
  sortL (X1 ++ Y1) ++ sortL (X2 ++ Y2) = sortL ((X1 ++ X2) ++ (Y1 ++ Y2)) ∧ ∀ x ∈ X2, ∀ y ∈ Y1, y.ord < x.ord := by
 have hX' := List.pairwise_append.1 hX
 have hY' := List.pairwise_append.1 hY
 have f1 : ∀ x ∈ X2, ∀ y ∈ Y1, y.ord < x.ord := by
  intro x hx y hy
  cases X2 with
  | nil => cases hx
  | cons x0 t =>
   rcases List.eq_nil_or_concat Y1 with rfl | ⟨u, y0, rfl⟩
   ·cases hy
   ·have a1 := Up.first hX'.2.1 rfl x hx
    have a2 := Up.last hY'.1 List.concat_eq_append y hy
    have := h1 x0 t u y0 rfl List.concat_eq_append
    omega
 refine ⟨merge_split hp hX hY f1 ?_, f1⟩
 intro x hx y hy
 cases Y2 with
 | nil => cases hy
 | cons y0 t =>
  rcases List.eq_nil_or_concat X1 with rfl | ⟨u, x0, rfl⟩
  ·cases hx
  ·have a1 := Up.first hY'.2.1 rfl y hy
   have a2 := Up.last hX'.1 List.concat_eq_append x hx
   have := h2 u x0 y0 t List.concat_eq_append rfl
   omega
/-- One element ahead of a sorted row. -/
theorem merge_left {x : El} {Y1 Y2 : List El} (hp : ∀ z ∈ x :: (Y1 ++ Y2), 0 < z.ord) (hY : Up (Y1 ++ Y2)) (h1 : ∀ u y, Y1 = u ++ [y] → y.ord < x.ord) (h2 : ∀ y t, Y2 = y :: t → x.ord ≤ y.ord) : Y1 ++ x :: Y2 = sortL (x :: (Y1 ++ Y2)) := by
 have hY' := List.pairwise_append.1 hY
 have f1 : ∀ y ∈ Y1, y.ord < x.ord := by
  intro y hy
  rcases List.eq_nil_or_concat Y1 with rfl | ⟨u, y0, rfl⟩
  ·cases hy
  ·have a2 := Up.last hY'.1 List.concat_eq_append y hy
   have := h1 u y0 List.concat_eq_append
   omega
 have f2 : ∀ y ∈ Y2, x.ord ≤ y.ord := by
  intro y hy
  cases Y2 with
  | nil => cases hy
  | cons y0 t =>
   have a1 := Up.first hY'.2.1 rfl y hy
   have := h2 y0 t rfl
   omega
 refine sortL_of hp (List.pairwise_append.2 ⟨hY'.1, List.pairwise_cons.2 ⟨f2, hY'.2.1⟩, fun a ha b hb => ?_⟩) ?_
 ·rcases List.mem_cons.1 hb with rfl | hb
  ·have := f1 a ha; omega
  ·exact hY'.2.2 a ha b hb
 ·have e1 : Same ([x] ++ Y1) (Y1 ++ [x]) := Same.swap (fun z hz y hy e => by simp at hz; subst hz; have := f1 y hy; omega)
  have := Same.append e1 (Same.refl Y2)
  simpa using this
/-- One element behind a sorted row. -/
theorem merge_right {y : El} {X1 X2 : List El} (hp : ∀ z ∈ (X1 ++ X2) ++ [y], 0 < z.ord) (hX : Up (X1 ++ X2)) (h1 : ∀ u x, X1 = u ++ [x] → x.ord ≤ y.ord) (h2 : ∀ x t, X2 = x :: t → y.ord < x.ord) : X1 ++ y :: X2 = sortL ((X1 ++ X2) ++ [y]) := by
 have hX' := List.pairwise_append.1 hX
 have f1 : ∀ x ∈ X1, x.ord ≤ y.ord := by
  intro x hx
  rcases List.eq_nil_or_concat X1 with rfl | ⟨u, x0, rfl⟩
  ·cases hx
  ·have a2 := Up.last hX'.1 List.concat_eq_append x hx
   have := h1 u x0 List.concat_eq_append
   omega
 have f2 : ∀ x ∈ X2, y.ord < x.ord := by
  intro x hx
  cases X2 with
  | nil => cases hx
  | cons x0 t =>
   have a1 := Up.first hX'.2.1 rfl x hx
   have := h2 x0 t rfl
   omega
 refine sortL_of hp (List.pairwise_append.2 ⟨hX'.1, List.pairwise_cons.2 ⟨fun z hz => by have := f2 z hz; omega, hX'.2.1⟩, fun a ha b hb => ?_⟩) ?_
 ·rcases List.mem_cons.1 hb with rfl | hb
  ·exact f1 a ha
  ·exact hX'.2.2 a ha b hb
 ·have e1 : Same (X2 ++ [y]) ([y] ++ X2) := Same.swap (fun z hz x hx e => by simp at hx; subst hx; have := f2 z hz; omega)
  have := Same.append (Same.refl X1) e1
  simpa using this
end Go.Nm
