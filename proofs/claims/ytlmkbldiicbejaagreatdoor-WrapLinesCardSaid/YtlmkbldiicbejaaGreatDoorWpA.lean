/-
  Boxes in lines, in plain Lean: the greedy way, the even way, what lines cost. Boxes in lines, in plain Lean: the even way costs least; all breakings tried. Boxes in lines, in plain Lean: paragraph by paragraph. Boxes in lines, in plain Lean: what the laws ask. Where lines may end, in plain Lean: of the classes of a text's runes.
-/
section
namespace Go.Wp

/-- A box: its width, the blank behind it, its hyphen, must a line end behind it? -/
structure Bx where
  w : Nat
  b : Nat
  h : Nat
  m : Bool
/-- How lines are made: the width, what the first line and the others are shorter by. -/
structure Wr where
  w : Int
  f : Int
  r : Int
def gB (l : List Bx) (i : Nat) : Bx := l.getD i ⟨0, 0, 0, false⟩
def lstGo (l : List Bx) : Nat → Nat → Nat
  | 0, i => i
  | f + 1, i => if i + 1 < l.length ∧ (gB l i).m = false then lstGo l f (i + 1) else i
/-- The last box of the paragraph of a box. -/
def lst (l : List Bx) (i : Nat) : Nat := lstGo l l.length i
theorem lstGo_le (l : List Bx) : ∀ f i, i ≤ lstGo l f i
  | 0, _ => Nat.le_refl _
  | f + 1, i => by
    rw [lstGo]
    split
    · exact Nat.le_trans (Nat.le_succ i) (lstGo_le l f (i + 1))
    · exact Nat.le_refl _
theorem lstGo_end (l : List Bx) : ∀ f i, l.length ≤ f + i + 1 → ¬ (lstGo l f i + 1 < l.length ∧ (gB l (lstGo l f i)).m = false)
  | 0, i, h => by rw [lstGo]; omega
  | f + 1, i, h => by
    rw [lstGo]
    split
    · exact lstGo_end l f (i + 1) (by omega)
    · assumption
theorem lstGo_mid (l : List Bx) : ∀ f i j, i ≤ j → j < lstGo l f i → j + 1 < l.length ∧ (gB l j).m = false
  | 0, i, j, h1, h2 => by rw [lstGo] at h2; omega
  | f + 1, i, j, h1, h2 => by
    rw [lstGo] at h2
    split at h2
    · rename_i h
      by_cases e : i = j
      · subst e; exact h
      · exact lstGo_mid l f (i + 1) j (by omega) h2
    · omega
theorem lst_ge (l : List Bx) (i : Nat) : i ≤ lst l i := lstGo_le l _ i
theorem lst_end (l : List Bx) (i : Nat) : ¬ (lst l i + 1 < l.length ∧ (gB l (lst l i)).m = false) := lstGo_end l _ i (by omega)
theorem lst_mid (l : List Bx) {i j : Nat} (h1 : i ≤ j) (h2 : j < lst l i) : j + 1 < l.length ∧ (gB l j).m = false := lstGo_mid l _ i j h1 h2
theorem lst_lt (l : List Bx) {i : Nat} (h : i < l.length) : lst l i < l.length := by
  by_cases e : lst l i = i
  · omega
  · have := lst_ge l i
    have := (lst_mid l (i := i) (j := lst l i - 1) (by omega) (by omega)).1
    omega
/-- It is the only number with these three properties. -/
theorem lst_uniq (l : List Bx) {i k : Nat} (h1 : i ≤ k) (h2 : ¬ (k + 1 < l.length ∧ (gB l k).m = false)) (h3 : ∀ j, i ≤ j → j < k → j + 1 < l.length ∧ (gB l j).m = false) : lst l i = k := by
  rcases Nat.lt_trichotomy (lst l i) k with h | h | h
  · exact absurd (h3 _ (lst_ge l i) h) (lst_end l i)
  · exact h
  · exact absurd (lst_mid l h1 h) h2
theorem lst_same (l : List Bx) {i j : Nat} (h1 : i ≤ j) (h2 : j ≤ lst l i) : lst l j = lst l i :=
  lst_uniq l h2 (lst_end l i) (fun k hk hk2 => lst_mid l (by omega) hk2)
theorem lst_last (l : List Bx) (i : Nat) : lst l (lst l i) = lst l i := lst_same l (lst_ge l i) (Nat.le_refl _)
/-- Does a paragraph begin here? -/
def start (l : List Bx) (i : Nat) : Bool := i == 0 || (gB l (i - 1)).m
theorem start_mid (l : List Bx) {i j : Nat} (h1 : i < j) (h2 : j ≤ lst l i) : start l j = false := by
  have := (lst_mid l (i := i) (j := j - 1) (by omega) (by omega)).2
  have h0 : (j == 0) = false := by simp; omega
  unfold start
  rw [this, h0]
  rfl
theorem start_next (l : List Bx) {i : Nat} (h : lst l i + 1 < l.length) : start l (lst l i + 1) = true := by
  have h1 := lst_end l i
  unfold start
  simp only [Nat.add_sub_cancel]
  cases hm : (gB l (lst l i)).m
  · exact absurd ⟨h, hm⟩ h1
  · simp
/-- The cells of the boxes from one to another, with the blanks behind them. -/
def ahd (l : List Bx) (i j : Nat) : Nat := (((l.take j).drop i).map fun x => x.w + x.b).sum
theorem ahd_self (l : List Bx) (i : Nat) : ahd l i i = 0 := by
  unfold ahd
  rw [List.drop_eq_nil_of_le (by rw [List.length_take]; omega)]
  rfl
theorem ahd_succ (l : List Bx) {i j : Nat} (h : i ≤ j) (hj : j < l.length) : ahd l i (j + 1) = ahd l i j + ((gB l j).w + (gB l j).b) := by
  unfold ahd gB
  rw [List.take_succ_eq_append_getElem hj, List.drop_append_of_le_length (by rw [List.length_take]; omega), List.map_append, List.sum_append]
  simp [List.getD_eq_getElem?_getD, hj]
theorem ahd_mono (l : List Bx) {i i' j : Nat} (h : i ≤ i') : ahd l i' j ≤ ahd l i j := by
  unfold ahd
  obtain ⟨k, rfl⟩ : ∃ k, i' = i + k := ⟨i' - i, by omega⟩
  rw [← List.drop_drop]
  generalize (l.take j).drop i = X
  conv => rhs; rw [← List.take_append_drop k X]
  rw [List.map_append, List.sum_append]
  omega
def sz (l : List Bx) (i j : Nat) : Nat := ahd l i j + (gB l j).w + (if j = lst l j then 0 else (gB l j).h)
theorem sz_mono (l : List Bx) {i i' : Nat} (j : Nat) (h : i ≤ i') : sz l i' j ≤ sz l i j := by
  have := ahd_mono l (j := j) h
  unfold sz
  omega
def room (r : Wr) (l : List Bx) (i : Nat) : Int := if start l i then r.w - r.f else r.w - r.r
def fit (r : Wr) (l : List Bx) (i j : Nat) : Bool := i == j || decide ((sz l i j : Int) ≤ room r l i)
theorem fit_self (r : Wr) (l : List Bx) (i : Nat) : fit r l i i = true := by simp [fit]
/-- The last of some boxes to which a line may go. -/
def lastFit (r : Wr) (l : List Bx) (i : Nat) : List Nat → Nat → Nat
  | [], b => b
  | j :: js, b => lastFit r l i js (if fit r l i j then j else b)
def bestG (r : Wr) (l : List Bx) (i : Nat) : Nat := lastFit r l i (List.range' i (lst l i + 1 - i)) i
theorem lastFit_spec (r : Wr) (l : List Bx) (i : Nat) : ∀ (n k b : Nat), fit r l i b = true → i ≤ b → b ≤ k →
    let x := lastFit r l i (List.range' k n) b
    fit r l i x = true ∧ i ≤ x ∧ b ≤ x ∧ (x = b ∨ x < k + n) ∧ ∀ j, x < j → k ≤ j → j < k + n → fit r l i j = false
  | 0, k, b, h, h1, h2 => ⟨h, h1, Nat.le_refl _, .inl rfl, fun j h3 h4 h5 => by omega⟩
  | n + 1, k, b, h, h1, h2 => by
    rw [List.range'_succ, lastFit]
    cases hf : fit r l i k
    · obtain ⟨a1, a2, a3, a4, a5⟩ := lastFit_spec r l i n (k + 1) b h h1 (by omega)
      simp only [Bool.false_eq_true, if_false]
      refine ⟨a1, a2, a3, by rcases a4 with a4 | a4; exact .inl a4; exact .inr (by omega), fun j h3 h4 h5 => ?_⟩
      by_cases e : j = k
      · subst e; exact hf
      · exact a5 j h3 (by omega) (by omega)
    · obtain ⟨a1, a2, a3, a4, a5⟩ := lastFit_spec r l i n (k + 1) k hf (by omega) (by omega)
      simp only [if_true]
      refine ⟨a1, a2, by omega, .inr (by rcases a4 with a4 | a4 <;> omega), fun j h3 h4 h5 => ?_⟩
      exact a5 j h3 (by omega) (by omega)
theorem bestG_spec (r : Wr) (l : List Bx) (i : Nat) : fit r l i (bestG r l i) = true ∧ i ≤ bestG r l i ∧ bestG r l i ≤ lst l i ∧ ∀ j, bestG r l i < j → j ≤ lst l i → fit r l i j = false := by
  have hl := lst_ge l i
  obtain ⟨a1, a2, a3, a4, a5⟩ := lastFit_spec r l i (lst l i + 1 - i) i i (fit_self r l i) (Nat.le_refl _) (Nat.le_refl _)
  refine ⟨a1, a2, ?_, fun j h1 h2 => a5 j h1 ?_ (by omega)⟩
  · show bestG r l i ≤ _
    rcases a4 with a4 | a4
    · have : bestG r l i = i := a4
      omega
    · have : bestG r l i < i + (lst l i + 1 - i) := a4
      omega
  · have : i ≤ bestG r l i := a2
    omega
theorem bestG_ge (r : Wr) (l : List Bx) {i j : Nat} (h1 : j ≤ lst l i) (h : fit r l i j = true) : j ≤ bestG r l i := by
  apply Decidable.byContradiction
  intro hn
  rw [(bestG_spec r l i).2.2.2 j (by omega) h1] at h
  cases h
/-- The last boxes of the greedy lines. -/
def greedy (r : Wr) (l : List Bx) : Nat → Nat → List Nat
  | 0, _ => []
  | f + 1, i => if i < l.length then bestG r l i :: greedy r l f (bestG r l i + 1) else []
theorem greedy_fuel (r : Wr) (l : List Bx) : ∀ f g i, l.length ≤ f + i → l.length ≤ g + i → greedy r l f i = greedy r l g i
  | 0, 0, _, _, _ => rfl
  | 0, g + 1, i, h, _ => by rw [greedy, greedy, if_neg (by omega)]
  | f + 1, 0, i, _, h => by rw [greedy, greedy, if_neg (by omega)]
  | f + 1, g + 1, i, h1, h2 => by
    rw [greedy, greedy]
    have := (bestG_spec r l i).2.1
    rw [greedy_fuel r l f g (bestG r l i + 1) (by omega) (by omega)]
def cost (r : Wr) (l : List Bx) (i j : Nat) : Int :=
  let d := room r l i - sz l i j
  if d < 0 then 10 * d * d else if j = lst l j then 0 else d * d
theorem cost_nn (r : Wr) (l : List Bx) (i j : Nat) : 0 ≤ cost r l i j := by
  unfold cost
  simp only
  have h : ∀ d : Int, 0 ≤ d * d := fun d => by
    rcases Int.le_total 0 d with h | h
    · exact Int.mul_nonneg h h
    · have := Int.mul_nonneg (Int.neg_nonneg_of_nonpos h) (Int.neg_nonneg_of_nonpos h)
      rwa [Int.neg_mul_neg] at this
  have h1 := h (room r l i - sz l i j)
  split
  · rw [Int.mul_assoc]; omega
  · split <;> omega
/-- What lines cost; none: these are no lines that fit. -/
def costF (r : Wr) (l : List Bx) : Nat → List Int → Option Int
  | i, [] => if i = l.length then some 0 else none
  | i, e :: es => if e < i ∨ (l.length : Int) ≤ e ∨ (lst l i : Int) < e ∨ fit r l i e.toNat = false then none else (costF r l (e.toNat + 1) es).map fun c => cost r l i e.toNat + c
theorem costF_cons {r : Wr} {l : List Bx} {i : Nat} {e : Int} {es : List Int} {c : Int} (h : costF r l i (e :: es) = some c) : ∃ (k : Nat) (d : Int), e = (k : Int) ∧ i ≤ k ∧ k < l.length ∧ k ≤ lst l i ∧ fit r l i k = true ∧ costF r l (k + 1) es = some d ∧ c = cost r l i k + d := by
  rw [costF] at h
  split at h
  · cases h
  · rename_i hn
    have h1 : ¬ e < i := fun h => hn (.inl h)
    have h2 : ¬ (l.length : Int) ≤ e := fun h => hn (.inr (.inl h))
    have h3 : ¬ (lst l i : Int) < e := fun h => hn (.inr (.inr (.inl h)))
    have h4 : fit r l i e.toNat = true := by
      cases hf : fit r l i e.toNat
      · exact absurd (.inr (.inr (.inr hf))) hn
      · rfl
    cases hd : costF r l (e.toNat + 1) es with
    | none => rw [hd] at h; cases h
    | some d =>
      rw [hd] at h
      exact ⟨e.toNat, d, by omega, by omega, by omega, by omega, h4, hd, (Option.some.inj h).symm⟩
theorem costF_mk {r : Wr} {l : List Bx} {i k : Nat} {es : List Int} {d : Int} (h1 : i ≤ k) (h2 : k < l.length) (h3 : k ≤ lst l i) (h4 : fit r l i k = true) (h5 : costF r l (k + 1) es = some d) : costF r l i ((k : Int) :: es) = some (cost r l i k + d) := by
  rw [costF, if_neg, Int.toNat_natCast, h5]
  · rfl
  · rw [Int.toNat_natCast, h4]
    simp
    omega
theorem costF_nn {r : Wr} {l : List Bx} : ∀ {es : List Int} {i : Nat} {c : Int}, costF r l i es = some c → 0 ≤ c
  | [], i, c, h => by
    rw [costF] at h
    split at h
    · have := Option.some.inj h; omega
    · cases h
  | e :: es, i, c, h => by
    obtain ⟨k, d, _, _, _, _, _, h6, rfl⟩ := costF_cons h
    have := costF_nn h6
    have := cost_nn r l i k
    omega
/-- The greedy lines fit. -/
theorem greedy_fits (r : Wr) (l : List Bx) : ∀ f i, l.length ≤ f + i → i ≤ l.length → ∃ c, costF r l i ((greedy r l f i).map Int.ofNat) = some c
  | 0, i, h, h1 => ⟨0, by rw [greedy]; simp [costF]; omega⟩
  | f + 1, i, h, h1 => by
    rw [greedy]
    by_cases hi : i < l.length
    · rw [if_pos hi]
      obtain ⟨a1, a2, a3, _⟩ := bestG_spec r l i
      have hl := lst_lt l hi
      obtain ⟨c, hc⟩ := greedy_fits r l f (bestG r l i + 1) (by omega) (by omega)
      exact ⟨_, costF_mk a2 (by omega) a3 a1 hc⟩
    · rw [if_neg hi]
      exact ⟨0, by simp [costF]; omega⟩
/-- How far two breakings stand apart: the first is never behind. -/
def Ahd (l : List Bx) (i' i : Nat) : Prop := i' = i ∨ (i' < i ∧ i ≤ lst l i' + 1 ∧ (start l i' = false ∨ i = lst l i' + 1))
theorem room_less {q r : Wr} (hq : q.w - q.f ≤ r.w - r.f) (hr : q.w - q.r ≤ r.w - r.r) (l : List Bx) (i : Nat) : room q l i ≤ room r l i := by
  unfold room
  split <;> assumption
/-- No breaking has fewer lines than the greedy one (with no less room). -/
theorem greedy_fewest {q r : Wr} (hq : q.w - q.f ≤ r.w - r.f) (hr : q.w - q.r ≤ r.w - r.r) (l : List Bx) : ∀ (es : List Int) (i' i f : Nat) (c : Int), costF q l i' es = some c → i' ≤ l.length → i ≤ l.length → Ahd l i' i → l.length ≤ f + i → (greedy r l f i).length ≤ es.length
  | [], i', i, f, c, h, hi', hi, ha, hf => by
    rw [costF] at h
    split at h
    · rename_i e
      have : i = l.length := by
        rcases ha with rfl | ha
        · exact e
        · omega
      cases f with
      | zero => simp [greedy]
      | succ f => rw [greedy, if_neg (by omega)]; simp
    · cases h
  | e :: es, i', i, f, c, h, hi', hi, ha, hf => by
    obtain ⟨k, d, rfl, h1, h2, h3, h4, h5, -⟩ := costF_cons h
    have hk1 : lst l k = lst l i' := lst_same l h1 h3
    by_cases hw : k < i
    · -- the first waits
      have hA : Ahd l (k + 1) i := by
        by_cases e1 : k + 1 = i
        · exact .inl e1
        · refine .inr ⟨by omega, ?_⟩
          rcases ha with rfl | ⟨_, a2, a3⟩
          · omega
          · have hk2 : k + 1 ≤ lst l i' := by omega
            have := lst_same l (i := i') (j := k + 1) (by omega) hk2
            rw [this]
            exact ⟨a2, .inl (start_mid l (by omega) hk2)⟩
      have := greedy_fewest hq hr l es (k + 1) i f d h5 (by omega) hi hA hf
      simp only [List.length_cons]
      omega
    · cases f with
      | zero => simp [greedy]
      | succ f =>
        rw [greedy]
        by_cases hil : i < l.length
        · rw [if_pos hil]
          obtain ⟨g1, g2, g3, _⟩ := bestG_spec r l i
          have hin : i ≤ lst l i' := by omega
          have hii : i' ≤ i := by
            rcases ha with rfl | ha
            · exact Nat.le_refl _
            · omega
          have hsame : lst l i = lst l i' := lst_same l hii hin
          have hfit : fit r l i k = true := by
            by_cases e1 : i = k
            · subst e1; exact fit_self r l i
            · have h4' := h4
              unfold fit at h4'
              have hne : (i' == k) = false := by simp; omega
              rw [hne, Bool.false_or, decide_eq_true_eq] at h4'
              have hs := sz_mono l k hii
              have hrm : room q l i' ≤ room r l i := by
                rcases ha with rfl | ⟨a1, a2, a3⟩
                · exact room_less hq hr l _
                · have hs0 : start l i' = false := by
                    rcases a3 with a3 | a3
                    · exact a3
                    · omega
                  have hs1 : start l i = false := start_mid l a1 hin
                  unfold room
                  rw [hs0, hs1]
                  exact hr
              unfold fit
              rw [Bool.or_eq_true, decide_eq_true_eq]
              right
              omega
          have hge := bestG_ge r l (i := i) (j := k) (by omega) hfit
          have hl := lst_lt l hil
          have hA : Ahd l (k + 1) (bestG r l i + 1) := by
            by_cases e1 : k = bestG r l i
            · exact .inl (by omega)
            · have hk2 : k + 1 ≤ lst l i' := by omega
              have := lst_same l (i := i') (j := k + 1) (by omega) hk2
              refine .inr ⟨by omega, by rw [this]; omega, .inl (start_mid l (by omega) hk2)⟩
          have := greedy_fewest hq hr l es (k + 1) (bestG r l i + 1) f d h5 (by omega) (by omega) hA (by omega)
          simp only [List.length_cons]
          omega
        · rw [if_neg hil]
          simp
end Go.Wp
end

section
namespace Go.Wp

/-- How the boxes from one on are broken: the cost, the lines, the last box of the first line. -/
structure Way where
  c : Int
  k : Nat
  e : Nat
def wayX (r : Wr) (l : List Bx) (i : Nat) (rest : Nat → Way) (j : Nat) : Way := ⟨cost r l i j + (rest (j + 1)).c, (rest (j + 1)).k + 1, j⟩
def wayLe (x b : Way) : Prop := x.c < b.c ∨ (x.c = b.c ∧ x.k ≤ b.k)
instance (x b : Way) : Decidable (wayLe x b) := by unfold wayLe; infer_instance
theorem wayLe_refl (x : Way) : wayLe x x := .inr ⟨rfl, Nat.le_refl _⟩
theorem wayLe_trans {x y z : Way} (h : wayLe x y) (k : wayLe y z) : wayLe x z := by
  unfold wayLe at *
  omega
theorem wayLe_not {x y : Way} (h : ¬ wayLe x y) : wayLe y x := by
  unfold wayLe at *
  omega
/-- One more line: is it better? -/
def stepE (x : Way) : Option Way → Option Way
  | none => some x
  | some b => if wayLe x b then some x else some b
/-- The best of some lines. -/
def pickE (r : Wr) (l : List Bx) (i : Nat) (rest : Nat → Way) : List Nat → Option Way → Option Way
  | [], a => a
  | j :: js, a => pickE r l i rest js (if fit r l i j = true then stepE (wayX r l i rest j) a else a)
theorem pickE_cons (r : Wr) (l : List Bx) (i : Nat) (rest : Nat → Way) (j : Nat) (js : List Nat) (a : Option Way) : pickE r l i rest (j :: js) a = pickE r l i rest js (if fit r l i j = true then stepE (wayX r l i rest j) a else a) := rfl
theorem pickE_congr (r : Wr) (l : List Bx) (i : Nat) (f g : Nat → Way) : ∀ (js : List Nat) (a : Option Way), (∀ j ∈ js, f (j + 1) = g (j + 1)) → pickE r l i f js a = pickE r l i g js a
  | [], _, _ => rfl
  | j :: js, a, h => by
    have h1 : wayX r l i f j = wayX r l i g j := by unfold wayX; rw [h j (by simp)]
    rw [pickE_cons, pickE_cons, h1, pickE_congr r l i f g js _ (fun k hk => h k (by simp [hk]))]
def bestW (r : Wr) (l : List Bx) : Nat → Nat → Way
  | 0, _ => ⟨0, 0, 0⟩
  | f + 1, i => if i < l.length then (pickE r l i (bestW r l f) (List.range' i (lst l i + 1 - i)) none).getD ⟨0, 0, 0⟩ else ⟨0, 0, 0⟩
theorem bestW_fuel (r : Wr) (l : List Bx) : ∀ f g i, l.length ≤ f + i → l.length ≤ g + i → bestW r l f i = bestW r l g i
  | 0, 0, _, _, _ => rfl
  | 0, g + 1, i, h, _ => by rw [bestW, bestW, if_neg (by omega)]
  | f + 1, 0, i, _, h => by rw [bestW, bestW, if_neg (by omega)]
  | f + 1, g + 1, i, h1, h2 => by
    rw [bestW, bestW, pickE_congr r l i (bestW r l f) (bestW r l g) _ none (fun j hj => by
      have := List.mem_range'_1.1 hj
      exact bestW_fuel r l f g (j + 1) (by omega) (by omega))]
/-- What is picked is one of them, and no other is better. -/
theorem pickE_some (r : Wr) (l : List Bx) (i : Nat) (rest : Nat → Way) : ∀ (js : List Nat) (b : Way), ∃ x, pickE r l i rest js (some b) = some x ∧ wayLe x b ∧ (x = b ∨ ∃ j ∈ js, fit r l i j = true ∧ x = wayX r l i rest j) ∧ ∀ j ∈ js, fit r l i j = true → wayLe x (wayX r l i rest j)
  | [], b => ⟨b, rfl, wayLe_refl b, .inl rfl, fun j hj => by cases hj⟩
  | j :: js, b => by
    rw [pickE_cons]
    cases hf : fit r l i j
    · obtain ⟨x, h1, h2, h3, h4⟩ := pickE_some r l i rest js b
      simp only [Bool.false_eq_true, if_false]
      refine ⟨x, h1, h2, ?_, fun k hk hk2 => ?_⟩
      · rcases h3 with h3 | ⟨k, hk, h3⟩
        · exact .inl h3
        · exact .inr ⟨k, by simp [hk], h3⟩
      · rcases List.mem_cons.1 hk with rfl | hk
        · rw [hf] at hk2; cases hk2
        · exact h4 k hk hk2
    · simp only [if_true, stepE]
      by_cases hl : wayLe (wayX r l i rest j) b
      · rw [if_pos hl]
        obtain ⟨x, h1, h2, h3, h4⟩ := pickE_some r l i rest js (wayX r l i rest j)
        refine ⟨x, h1, wayLe_trans h2 hl, ?_, fun k hk hk2 => ?_⟩
        · rcases h3 with h3 | ⟨k, hk, h3⟩
          · exact .inr ⟨j, by simp, hf, h3⟩
          · exact .inr ⟨k, by simp [hk], h3⟩
        · rcases List.mem_cons.1 hk with rfl | hk
          · exact h2
          · exact h4 k hk hk2
      · rw [if_neg hl]
        obtain ⟨x, h1, h2, h3, h4⟩ := pickE_some r l i rest js b
        refine ⟨x, h1, h2, ?_, fun k hk hk2 => ?_⟩
        · rcases h3 with h3 | ⟨k, hk, h3⟩
          · exact .inl h3
          · exact .inr ⟨k, by simp [hk], h3⟩
        · rcases List.mem_cons.1 hk with rfl | hk
          · exact wayLe_trans h2 (wayLe_not hl)
          · exact h4 k hk hk2
theorem pickE_first (r : Wr) (l : List Bx) (i : Nat) (rest : Nat → Way) (n : Nat) : ∃ x, pickE r l i rest (List.range' i (n + 1)) none = some x ∧ (∃ j, i ≤ j ∧ j ≤ i + n ∧ fit r l i j = true ∧ x = wayX r l i rest j) ∧ ∀ j, i ≤ j → j ≤ i + n → fit r l i j = true → wayLe x (wayX r l i rest j) := by
  rw [List.range'_succ, pickE_cons, if_pos (fit_self r l i)]
  obtain ⟨x, h1, h2, h3, h4⟩ := pickE_some r l i rest (List.range' (i + 1) n) (wayX r l i rest i)
  refine ⟨x, h1, ?_, fun j ha hb hf => ?_⟩
  · rcases h3 with h3 | ⟨j, hj, hf, h3⟩
    · exact ⟨i, by omega, by omega, fit_self r l i, h3⟩
    · have := List.mem_range'_1.1 hj
      exact ⟨j, by omega, by omega, hf, h3⟩
  · by_cases e : j = i
    · subst e; exact h2
    · exact h4 j (List.mem_range'_1.2 ⟨by omega, by omega⟩) hf
theorem bestW_spec (r : Wr) (l : List Bx) (f i : Nat) (_ : l.length ≤ f + 1 + i) (hi : i < l.length) : let x := bestW r l (f + 1) i
    i ≤ x.e ∧ x.e ≤ lst l i ∧ fit r l i x.e = true ∧ x = wayX r l i (bestW r l f) x.e ∧ ∀ j, i ≤ j → j ≤ lst l i → fit r l i j = true → wayLe x (wayX r l i (bestW r l f) j) := by
  have hl := lst_ge l i
  have e : bestW r l (f + 1) i = (pickE r l i (bestW r l f) (List.range' i (lst l i - i + 1)) none).getD ⟨0, 0, 0⟩ := by
    rw [bestW, if_pos hi, show lst l i + 1 - i = lst l i - i + 1 by omega]
  obtain ⟨x, h1, ⟨j, ha, hb, hc, hd⟩, h3⟩ := pickE_first r l i (bestW r l f) (lst l i - i)
  rw [h1] at e
  simp only [Option.getD_some] at e
  rw [e]
  have hj : x.e = j := by rw [hd]; rfl
  exact ⟨by omega, by omega, by rw [hj]; exact hc, by rw [hj]; exact hd, fun k h4 h5 h6 => h3 k h4 (by omega) h6⟩
/-- No breaking costs less than the best way; none that costs as much has fewer lines. -/
theorem bestW_least (r : Wr) (l : List Bx) : ∀ (es : List Int) (i f : Nat) (c : Int), costF r l i es = some c → l.length ≤ f + i → wayLe (bestW r l f i) ⟨c, es.length, 0⟩
  | [], i, f, c, h, hf => by
    rw [costF] at h
    split at h
    · rename_i e
      have hc := Option.some.inj h
      have : bestW r l f i = ⟨0, 0, 0⟩ := by
        cases f with
        | zero => rfl
        | succ f => rw [bestW, if_neg (by omega)]
      rw [this, ← hc]
      exact wayLe_refl _
    · cases h
  | e :: es, i, f, c, h, hf => by
    obtain ⟨k, d, rfl, h1, h2, h3, h4, h5, rfl⟩ := costF_cons h
    obtain ⟨g, rfl⟩ : ∃ g, f = g + 1 := ⟨f - 1, by omega⟩
    have hs := (bestW_spec r l g i hf (by omega)).2.2.2.2 k h1 h3 h4
    have hi := bestW_least r l es (k + 1) g d h5 (by omega)
    refine wayLe_trans hs ?_
    unfold wayLe wayX at *
    simp only [List.length_cons] at *
    omega
/-- The last boxes of the even lines. -/
def even (r : Wr) (l : List Bx) : Nat → Nat → List Nat
  | 0, _ => []
  | f + 1, i => if i < l.length then (bestW r l l.length i).e :: even r l f ((bestW r l l.length i).e + 1) else []
theorem even_best (r : Wr) (l : List Bx) : ∀ f i, l.length ≤ f + i → i ≤ l.length → costF r l i ((even r l f i).map Int.ofNat) = some (bestW r l f i).c ∧ (even r l f i).length = (bestW r l f i).k
  | 0, i, h, h1 => by
    rw [even, bestW]
    simp [costF]
    omega
  | f + 1, i, h, h1 => by
    rw [even]
    by_cases hi : i < l.length
    · rw [if_pos hi, bestW_fuel r l l.length (f + 1) i (by omega) h]
      obtain ⟨a1, a2, a3, a4, _⟩ := bestW_spec r l f i h hi
      have hl := lst_lt l hi
      obtain ⟨h2, h3⟩ := even_best r l f ((bestW r l (f + 1) i).e + 1) (by omega) (by omega)
      have h5 := costF_mk a1 (by omega) a2 a3 h2
      refine ⟨h5.trans ?_, ?_⟩
      · conv => rhs; rw [a4]
        rfl
      · rw [List.length_cons, h3]
        conv => rhs; rw [a4]
        rfl
    · rw [if_neg hi, bestW, if_neg hi]
      simp [costF]
      omega
/-- The best way from a box on goes through the end of its paragraph. -/
theorem bestW_through (r : Wr) (l : List Bx) : ∀ (f i : Nat), l.length ≤ f + i → i < l.length → (bestW r l l.length (lst l i + 1)).c ≤ (bestW r l f i).c ∧ (bestW r l l.length (lst l i + 1)).k + 1 ≤ (bestW r l f i).k
  | 0, i, h, h1 => by omega
  | f + 1, i, h, h1 => by
    obtain ⟨a1, a2, a3, a4, _⟩ := bestW_spec r l f i h h1
    have hl := lst_lt l h1
    have hn := cost_nn r l i (bestW r l (f + 1) i).e
    have hc : (bestW r l (f + 1) i).c = cost r l i (bestW r l (f + 1) i).e + (bestW r l f ((bestW r l (f + 1) i).e + 1)).c := by
      conv => lhs; rw [a4]
      rfl
    have hk : (bestW r l (f + 1) i).k = (bestW r l f ((bestW r l (f + 1) i).e + 1)).k + 1 := by
      conv => lhs; rw [a4]
      rfl
    by_cases e : (bestW r l (f + 1) i).e = lst l i
    · rw [e, bestW_fuel r l f l.length (lst l i + 1) (by omega) (by omega)] at hc hk
      rw [e] at hn
      omega
    · have hs := lst_same l (i := i) (j := (bestW r l (f + 1) i).e + 1) (by omega) (by omega)
      obtain ⟨h5, h6⟩ := bestW_through r l f ((bestW r l (f + 1) i).e + 1) (by omega) (by omega)
      rw [hs] at h5 h6
      omega
theorem pickE_append (r : Wr) (l : List Bx) (i : Nat) (rest : Nat → Way) : ∀ (xs ys : List Nat) (a : Option Way), pickE r l i rest (xs ++ ys) a = pickE r l i rest ys (pickE r l i rest xs a)
  | [], _, _ => rfl
  | x :: xs, ys, a => by rw [List.cons_append, pickE_cons, pickE_cons, pickE_append r l i rest xs ys]
/-- Where a paragraph goes into one line that costs nothing the even way has that line. -/
theorem bestW_whole (r : Wr) (l : List Bx) (i : Nat) (hi : i < l.length) (hf : fit r l i (lst l i) = true) (hc : cost r l i (lst l i) = 0) : (bestW r l l.length i).e = lst l i := by
  obtain ⟨f, hfu⟩ : ∃ f, l.length = f + 1 := ⟨l.length - 1, by omega⟩
  have hl := lst_lt l hi
  have hge := lst_ge l i
  rw [bestW_fuel r l l.length (f + 1) i (by omega) (by omega)]
  have e : bestW r l (f + 1) i = (pickE r l i (bestW r l f) (List.range' i (lst l i - i + 1)) none).getD ⟨0, 0, 0⟩ := by
    rw [bestW, if_pos hi, show lst l i + 1 - i = lst l i - i + 1 by omega]
  have hX : wayX r l i (bestW r l f) (lst l i) = ⟨(bestW r l l.length (lst l i + 1)).c, (bestW r l l.length (lst l i + 1)).k + 1, lst l i⟩ := by
    unfold wayX
    rw [hc, Int.zero_add, bestW_fuel r l f l.length (lst l i + 1) (by omega) (by omega)]
  by_cases h0 : lst l i = i
  · rw [h0] at hX e
    rw [e, show i - i + 1 = 0 + 1 by omega, List.range'_succ, pickE_cons, if_pos (fit_self r l i), h0]
    rfl
  · obtain ⟨n, hn⟩ : ∃ n, lst l i - i = n + 1 := ⟨lst l i - i - 1, by omega⟩
    rw [e, hn, List.range'_concat, pickE_append]
    obtain ⟨x, h1, ⟨j, ha, hb, _, hd⟩, _⟩ := pickE_first r l i (bestW r l f) n
    have hlast : i + 1 * (n + 1) = lst l i := by omega
    rw [h1, hlast, pickE_cons, if_pos hf, stepE]
    have hs := lst_same l (i := i) (j := j + 1) (by omega) (by omega)
    obtain ⟨h5, h6⟩ := bestW_through r l f (j + 1) (by omega) (by omega)
    rw [hs] at h5 h6
    have hn2 := cost_nn r l i j
    have hle : wayLe (wayX r l i (bestW r l f) (lst l i)) x := by
      rw [hX, hd]
      unfold wayLe wayX
      simp only
      omega
    rw [if_pos hle, hX]
    rfl
/-- The same, a paragraph by itself: behind its end there is nothing. -/
def bestL (r : Wr) (l : List Bx) (t : Nat) : Nat → Nat → Way
  | 0, _ => ⟨0, 0, 0⟩
  | f + 1, i => if i < t then (pickE r l i (bestL r l t f) (List.range' i (t - i)) none).getD ⟨0, 0, 0⟩ else ⟨0, 0, 0⟩
theorem bestL_fuel (r : Wr) (l : List Bx) (t : Nat) : ∀ f g i, t ≤ f + i → t ≤ g + i → bestL r l t f i = bestL r l t g i
  | 0, 0, _, _, _ => rfl
  | 0, g + 1, i, h, _ => by rw [bestL, bestL, if_neg (by omega)]
  | f + 1, 0, i, _, h => by rw [bestL, bestL, if_neg (by omega)]
  | f + 1, g + 1, i, h1, h2 => by
    rw [bestL, bestL, pickE_congr r l i (bestL r l t f) (bestL r l t g) _ none (fun j hj => by
      have := List.mem_range'_1.1 hj
      exact bestL_fuel r l t f g (j + 1) (by omega) (by omega))]
def shiftW (c : Int) (k : Nat) (x : Way) : Way := ⟨x.c + c, x.k + k, x.e⟩
theorem pickE_shift (r : Wr) (l : List Bx) (i : Nat) (f g : Nat → Way) (c : Int) (k : Nat) : ∀ (js : List Nat) (a : Option Way), (∀ j ∈ js, (g (j + 1)).c = (f (j + 1)).c + c ∧ (g (j + 1)).k = (f (j + 1)).k + k) → pickE r l i g js (a.map (shiftW c k)) = (pickE r l i f js a).map (shiftW c k)
  | [], _, _ => rfl
  | j :: js, a, h => by
    obtain ⟨h1, h2⟩ := h j (by simp)
    have hx : wayX r l i g j = shiftW c k (wayX r l i f j) := by
      unfold wayX shiftW
      rw [h1, h2]
      simp only [Way.mk.injEq, and_true]
      omega
    rw [pickE_cons, pickE_cons, ← pickE_shift r l i f g c k js _ (fun q hq => h q (by simp [hq])), hx]
    congr 1
    cases hf : fit r l i j
    · rfl
    · simp only [if_true]
      cases a with
      | none => rfl
      | some b =>
        simp only [Option.map_some, stepE]
        have : wayLe (shiftW c k (wayX r l i f j)) (shiftW c k b) ↔ wayLe (wayX r l i f j) b := by
          unfold wayLe shiftW
          simp only
          omega
        by_cases hl : wayLe (wayX r l i f j) b
        · rw [if_pos hl, if_pos (this.2 hl)]; rfl
        · rw [if_neg hl, if_neg (fun q => hl (this.1 q))]; rfl
/-- A paragraph by itself is broken as it is among the others. -/
theorem bestL_eq (r : Wr) (l : List Bx) (p : Nat) (hp : p < l.length) : ∀ (f i : Nat), lst l p + 1 ≤ f + i → p ≤ i → i ≤ lst l p + 1 →
    (bestW r l l.length i).c = (bestL r l (lst l p + 1) f i).c + (bestW r l l.length (lst l p + 1)).c ∧ (bestW r l l.length i).k = (bestL r l (lst l p + 1) f i).k + (bestW r l l.length (lst l p + 1)).k ∧ (i ≤ lst l p → (bestW r l l.length i).e = (bestL r l (lst l p + 1) f i).e)
  | 0, i, h, h1, h2 => by
    obtain rfl : i = lst l p + 1 := by omega
    rw [bestL]
    simp
    omega
  | f + 1, i, h, h1, h2 => by
    by_cases e : i = lst l p + 1
    · subst e
      rw [bestL, if_neg (by omega)]
      simp
      omega
    · have hs := lst_same l (i := p) (j := i) h1 (by omega)
      have hl := lst_lt l hp
      obtain ⟨g, hg⟩ : ∃ g, l.length = g + 1 := ⟨l.length - 1, by omega⟩
      have hge := lst_ge l p
      have e1 : bestW r l l.length i = (pickE r l i (bestW r l l.length) (List.range' i (lst l p + 1 - i)) none).getD ⟨0, 0, 0⟩ := by
        rw [bestW_fuel r l l.length (l.length + 1) i (by omega) (by omega), bestW, if_pos (by omega), hs]
      have e2 : bestL r l (lst l p + 1) (f + 1) i = (pickE r l i (bestL r l (lst l p + 1) f) (List.range' i (lst l p + 1 - i)) none).getD ⟨0, 0, 0⟩ := by
        rw [bestL, if_pos (by omega)]
      have hsh := pickE_shift r l i (bestL r l (lst l p + 1) f) (bestW r l l.length) (bestW r l l.length (lst l p + 1)).c (bestW r l l.length (lst l p + 1)).k (List.range' i (lst l p + 1 - i)) none (fun j hj => by
        have := List.mem_range'_1.1 hj
        obtain ⟨q1, q2, _⟩ := bestL_eq r l p hp f (j + 1) (by omega) (by omega) (by omega)
        exact ⟨q1, q2⟩)
      rw [Option.map_none] at hsh
      obtain ⟨x, hx, _⟩ := pickE_first r l i (bestL r l (lst l p + 1) f) (lst l p - i)
      rw [show lst l p - i + 1 = lst l p + 1 - i by omega] at hx
      rw [e1, e2, hsh, hx]
      simp only [Option.map_some, Option.getD_some, shiftW]
      exact ⟨trivial, trivial, fun _ => trivial⟩
/-- All breakings tried, one by one. -/
def allM (r : Wr) (l : List Bx) : Nat → List Int → Nat → Int → Int
  | 0, _, _, b => b
  | f + 1, es, i, b => if i = l.length then (match costF r l 0 es with
      | some c => if b < 0 ∨ c < b then c else b
      | none => b) else (List.range' i (lst l i + 1 - i)).foldl (fun b (j : Nat) => allM r l f (es ++ [(j : Int)]) (j + 1) b) b
/-- Where some lines lead. -/
def lead (es : List Int) : Nat := match es.getLast? with
  | some e => e.toNat + 1
  | none => 0
theorem lead_snoc (es : List Int) (j : Nat) : lead (es ++ [(j : Int)]) = j + 1 := by
  unfold lead
  rw [List.getLast?_append]
  simp
theorem costF_app {r : Wr} {l : List Bx} : ∀ {xs ys : List Int} {i : Nat} {c : Int}, costF r l i (xs ++ ys) = some c → (xs = [] ∧ costF r l i ys = some c) ∨ ∃ d, costF r l (lead xs) ys = some d
  | [], ys, i, c, h => .inl ⟨rfl, h⟩
  | x :: xs, ys, i, c, h => by
    right
    obtain ⟨k, d, rfl, _, _, _, _, h5, _⟩ := costF_cons (es := xs ++ ys) h
    rcases costF_app h5 with ⟨rfl, h6⟩ | ⟨d', h6⟩
    · exact ⟨d, by unfold lead; simpa using h6⟩
    · cases xs with
      | nil => exact ⟨d, by unfold lead; simpa using h5⟩
      | cons y ys' =>
        refine ⟨d', ?_⟩
        have : lead ((k : Int) :: y :: ys') = lead (y :: ys') := by unfold lead; rw [List.getLast?_cons_cons]
        rw [this]
        exact h6
theorem allM_from (r : Wr) (l : List Bx) : ∀ (f : Nat) (es : List Int) (i : Nat) (b : Int), allM r l f es i b = b ∨ ∃ t, costF r l 0 t = some (allM r l f es i b)
  | 0, _, _, _ => .inl rfl
  | f + 1, es, i, b => by
    rw [allM]
    split
    · cases hc : costF r l 0 es with
      | none => exact .inl rfl
      | some c =>
        simp only
        split
        · exact .inr ⟨es, hc⟩
        · exact .inl rfl
    · have key : ∀ (js : List Nat) (b : Int), js.foldl (fun b (j : Nat) => allM r l f (es ++ [(j : Int)]) (j + 1) b) b = b ∨ ∃ t, costF r l 0 t = some (js.foldl (fun b (j : Nat) => allM r l f (es ++ [(j : Int)]) (j + 1) b) b) := by
        intro js
        induction js with
        | nil => intro b; exact .inl rfl
        | cons j js ih =>
          intro b
          rw [List.foldl_cons]
          rcases ih (allM r l f (es ++ [(j : Int)]) (j + 1) b) with h | h
          · rw [h]
            exact allM_from r l f _ _ b
          · exact .inr h
      exact key _ b
theorem allM_le (r : Wr) (l : List Bx) : ∀ (f : Nat) (es : List Int) (i : Nat) (b : Int), 0 ≤ b → 0 ≤ allM r l f es i b ∧ allM r l f es i b ≤ b
  | 0, _, _, b, h => ⟨h, Int.le_refl _⟩
  | f + 1, es, i, b, h => by
    rw [allM]
    split
    · cases hc : costF r l 0 es with
      | none => exact ⟨h, Int.le_refl _⟩
      | some c =>
        have := costF_nn hc
        simp only
        split <;> omega
    · have key : ∀ (js : List Nat) (b : Int), 0 ≤ b → 0 ≤ js.foldl (fun b (j : Nat) => allM r l f (es ++ [(j : Int)]) (j + 1) b) b ∧ js.foldl (fun b (j : Nat) => allM r l f (es ++ [(j : Int)]) (j + 1) b) b ≤ b := by
        intro js
        induction js with
        | nil => intro b h; exact ⟨h, Int.le_refl _⟩
        | cons j js ih =>
          intro b h
          rw [List.foldl_cons]
          obtain ⟨h1, h2⟩ := allM_le r l f (es ++ [(j : Int)]) (j + 1) b h
          obtain ⟨h3, h4⟩ := ih _ h1
          omega
      exact key _ b h
theorem allM_tried (r : Wr) (l : List Bx) : ∀ (f : Nat) (es t : List Int) (i : Nat) (b c : Int), l.length < f + i → lead es = i → costF r l 0 (es ++ t) = some c → 0 ≤ allM r l f es i b ∧ allM r l f es i b ≤ c
  | 0, es, t, i, b, c, hf, hi, h => by
    exfalso
    rcases costF_app h with ⟨rfl, h2⟩ | ⟨d, h2⟩
    · have : lead [] = 0 := rfl
      omega
    · rw [hi] at h2
      cases t with
      | nil =>
        rw [costF] at h2
        split at h2
        · omega
        · cases h2
      | cons e t =>
        obtain ⟨k, d', rfl, a1, a2, _⟩ := costF_cons h2
        omega
  | f + 1, es, t, i, b, c, hf, hi, h => by
    have h0 : ∃ d, costF r l i t = some d := by
      rcases costF_app h with ⟨rfl, h2⟩ | h2
      · have : i = 0 := hi.symm
        rw [this]
        exact ⟨_, h2⟩
      · rw [hi] at h2
        exact h2
    obtain ⟨d, h2⟩ := h0
    rw [allM]
    cases t with
    | nil =>
      rw [costF] at h2
      split at h2
      · rename_i e
        rw [List.append_nil] at h
        rw [if_pos e, h]
        have := costF_nn h
        simp only
        split <;> omega
      · cases h2
    | cons e t =>
      obtain ⟨k, d', rfl, a1, a2, a3, _⟩ := costF_cons h2
      rw [if_neg (by omega)]
      have hsplit : List.range' i (lst l i + 1 - i) = List.range' i (k - i) ++ k :: List.range' (k + 1) (lst l i - k) := by
        have e1 : List.range' i (lst l i + 1 - i) = List.range' i (k - i) ++ List.range' (i + (k - i)) (lst l i + 1 - k) := by
          rw [List.range'_append_1]
          congr 1
          omega
        rw [e1, show i + (k - i) = k by omega, show lst l i + 1 - k = lst l i - k + 1 by omega, List.range'_succ]
      rw [hsplit, List.foldl_append, List.foldl_cons]
      have hk := allM_tried r l f (es ++ [(k : Int)]) t (k + 1) ((List.range' i (k - i)).foldl (fun b (j : Nat) => allM r l f (es ++ [(j : Int)]) (j + 1) b) b) c (by omega) (lead_snoc es k) (by rw [List.append_assoc]; exact h)
      generalize allM r l f (es ++ [(k : Int)]) (k + 1) ((List.range' i (k - i)).foldl (fun b (j : Nat) => allM r l f (es ++ [(j : Int)]) (j + 1) b) b) = b1 at hk ⊢
      have key : ∀ (js : List Nat) (b : Int), 0 ≤ b → 0 ≤ js.foldl (fun b (j : Nat) => allM r l f (es ++ [(j : Int)]) (j + 1) b) b ∧ js.foldl (fun b (j : Nat) => allM r l f (es ++ [(j : Int)]) (j + 1) b) b ≤ b := by
        intro js
        induction js with
        | nil => intro b h; exact ⟨h, Int.le_refl _⟩
        | cons j js ih =>
          intro b h
          rw [List.foldl_cons]
          obtain ⟨h1, h2⟩ := allM_le r l f (es ++ [(j : Int)]) (j + 1) b h
          obtain ⟨h3, h4⟩ := ih _ h1
          omega
      obtain ⟨k1, k2⟩ := key (List.range' (k + 1) (lst l i - k)) b1 hk.1
      omega
/-- The least cost of all breakings is that of the even way. -/
theorem allM_best (r : Wr) (l : List Bx) : allM r l (l.length + 1) [] 0 (-1) = (bestW r l l.length 0).c := by
  obtain ⟨h1, _⟩ := even_best r l l.length 0 (by omega) (by omega)
  have h2 := allM_tried r l (l.length + 1) [] _ 0 (-1) _ (by omega) rfl h1
  rcases allM_from r l (l.length + 1) [] 0 (-1) with h3 | ⟨t, h3⟩
  · omega
  · have := bestW_least r l t 0 l.length _ h3 (by omega)
    unfold wayLe at this
    simp only at this
    omega
end Go.Wp
end

section
namespace Go.Wp

/-- The boxes of a paragraph. -/
def subB (l : List Bx) (p t : Nat) : List Bx := (l.take t).drop p
/-- A paragraph of some boxes: from, to. -/
structure Par (l : List Bx) (p t : Nat) : Prop where
  lt : p < l.length
  st : start l p = true
  e : t = lst l p + 1
theorem Par.le {l : List Bx} {p t : Nat} (h : Par l p t) : p < t ∧ t ≤ l.length := by
  have h1 := lst_ge l p
  have h2 := lst_lt l h.lt
  have h3 := h.e
  omega
theorem Par.len {l : List Bx} {p t : Nat} (h : Par l p t) : (subB l p t).length = t - p := by
  have := h.le
  unfold subB
  rw [List.length_drop, List.length_take]
  omega
theorem subB_get {l : List Bx} {p t i : Nat} (_ : t ≤ l.length) (hi : p + i < t) : gB (subB l p t) i = gB l (p + i) := by
  unfold gB subB
  rw [List.getD_eq_getElem?_getD, List.getD_eq_getElem?_getD, List.getElem?_drop, List.getElem?_take_of_lt hi]
theorem Par.lst {l : List Bx} {p t i : Nat} (h : Par l p t) (hi : p + i < t) : p + Wp.lst (subB l p t) i = t - 1 := by
  have hl := h.le
  have hn := h.len
  have he := h.e
  have : Wp.lst (subB l p t) i = t - p - 1 := lst_uniq _ (by omega) (fun hh => by omega) (fun j h1 h2 => by
    refine ⟨by omega, ?_⟩
    rw [subB_get hl.2 (by omega)]
    exact (lst_mid l (i := p) (j := p + j) (by omega) (by omega)).2)
  omega
theorem Par.lst' {l : List Bx} {p t i : Nat} (h : Par l p t) (hi : p + i < t) : Wp.lst l (p + i) = p + Wp.lst (subB l p t) i := by
  rw [h.lst hi, lst_same l (i := p) (j := p + i) (by omega) (by have := h.e; omega)]
  have := h.e
  omega
theorem Par.start {l : List Bx} {p t i : Nat} (h : Par l p t) (hi : p + i < t) : Wp.start l (p + i) = Wp.start (subB l p t) i := by
  have hl := h.le
  cases i with
  | zero =>
    have h1 := h.st
    rw [Nat.add_zero, h1]
    rfl
  | succ i =>
    unfold Wp.start
    have e1 : (p + (i + 1) == 0) = false := by simp
    have e2 : (i + 1 == 0) = false := by simp
    rw [e1, e2, show p + (i + 1) - 1 = p + i by omega, Nat.add_sub_cancel, subB_get hl.2 (by omega)]
theorem Par.ahd {l : List Bx} {p t : Nat} (h : Par l p t) (i j : Nat) (hj : p + j ≤ t) : Wp.ahd l (p + i) (p + j) = Wp.ahd (subB l p t) i j := by
  have hl := h.le
  unfold Wp.ahd subB
  have e : ((l.take t).drop p).take j = (l.take (p + j)).drop p := by
    rw [List.drop_take, List.drop_take, List.take_take]
    congr 1
    omega
  rw [e, List.drop_drop]
theorem Par.sz {l : List Bx} {p t : Nat} (h : Par l p t) (i j : Nat) (hj : p + j < t) : Wp.sz l (p + i) (p + j) = Wp.sz (subB l p t) i j := by
  have hl := h.le
  unfold Wp.sz
  rw [h.ahd i j (by omega), subB_get hl.2 hj, h.lst' hj]
  have : (p + j = p + Wp.lst (subB l p t) j) ↔ j = Wp.lst (subB l p t) j := by omega
  simp only [this]
theorem Par.room {l : List Bx} {p t : Nat} (h : Par l p t) (r : Wr) (i : Nat) (hi : p + i < t) : Wp.room r l (p + i) = Wp.room r (subB l p t) i := by
  unfold Wp.room
  rw [h.start hi]
theorem Par.fit {l : List Bx} {p t : Nat} (h : Par l p t) (r : Wr) (i j : Nat) (hi : p + i < t) (hj : p + j < t) : Wp.fit r l (p + i) (p + j) = Wp.fit r (subB l p t) i j := by
  unfold Wp.fit
  rw [h.sz i j hj, h.room r i hi]
  have : (p + i == p + j) = (i == j) := by rw [Bool.eq_iff_iff]; simp
  rw [this]
theorem Par.cost {l : List Bx} {p t : Nat} (h : Par l p t) (r : Wr) (i j : Nat) (hi : p + i < t) (hj : p + j < t) : Wp.cost r l (p + i) (p + j) = Wp.cost r (subB l p t) i j := by
  unfold Wp.cost
  rw [h.sz i j hj, h.room r i hi, h.lst' hj]
  have : (p + j = p + Wp.lst (subB l p t) j) ↔ j = Wp.lst (subB l p t) j := by omega
  simp only [this]
theorem lastFit_sub {l : List Bx} {p t : Nat} (h : Par l p t) (r : Wr) (i : Nat) (hi : p + i < t) : ∀ (n k b : Nat), p + k + n ≤ t → lastFit r l (p + i) (List.range' (p + k) n) (p + b) = p + lastFit r (subB l p t) i (List.range' k n) b
  | 0, _, _, _ => rfl
  | n + 1, k, b, hn => by
    rw [List.range'_succ, List.range'_succ, lastFit, lastFit, h.fit r i k hi (by omega)]
    have := lastFit_sub h r i hi n (k + 1)
    cases hf : Wp.fit r (subB l p t) i k
    · exact this b (by omega)
    · exact this k (by omega)
theorem Par.bestG {l : List Bx} {p t : Nat} (h : Par l p t) (r : Wr) (i : Nat) (hi : p + i < t) : Wp.bestG r l (p + i) = p + Wp.bestG r (subB l p t) i := by
  have h1 := h.lst hi
  have h2 := lst_ge (subB l p t) i
  unfold Wp.bestG
  rw [h.lst' hi, show p + Wp.lst (subB l p t) i + 1 - (p + i) = Wp.lst (subB l p t) i + 1 - i by omega]
  exact lastFit_sub h r i hi _ i i (by omega)
/-- The greedy lines of a paragraph, and those of what stands behind it. -/
theorem Par.greedy {l : List Bx} {p t : Nat} (h : Par l p t) (r : Wr) : ∀ (f i F : Nat), t ≤ f + (p + i) → p + i ≤ t → l.length ≤ F + (p + i) → Wp.greedy r l F (p + i) = (Wp.greedy r (subB l p t) f i).map (p + ·) ++ Wp.greedy r l F t
  | 0, i, F, h1, h2, h3 => by
    have : p + i = t := by omega
    rw [this]
    rfl
  | f + 1, i, F, h1, h2, h3 => by
    have hl := h.le
    by_cases hi : p + i < t
    · have hb := h.bestG r i hi
      have hs := bestG_spec r (subB l p t) i
      have h4 := h.lst hi
      obtain ⟨G, rfl⟩ : ∃ G, F = G + 1 := ⟨F - 1, by omega⟩
      have hih := h.greedy r f (Wp.bestG r (subB l p t) i + 1) G (by omega) (by omega) (by omega)
      rw [← Nat.add_assoc] at hih
      rw [Wp.greedy, if_pos (by omega), Wp.greedy, if_pos (by rw [h.len]; omega), hb, hih, greedy_fuel r l (G + 1) G t (by omega) (by omega)]
      rfl
    · have : p + i = t := by omega
      rw [this, Wp.greedy, if_neg (by rw [h.len]; omega)]
      rfl
def shB (p : Nat) (c : Int) (k : Nat) (x : Way) : Way := ⟨x.c + c, x.k + k, p + x.e⟩
theorem pickE_sub {l : List Bx} {p t : Nat} (h : Par l p t) (r : Wr) (i : Nat) (hi : p + i < t) (f g : Nat → Way) (c : Int) (k : Nat) : ∀ (n m : Nat) (a : Option Way), p + m + n ≤ t → (∀ j, m ≤ j → j < m + n → (g (p + j + 1)).c = (f (j + 1)).c + c ∧ (g (p + j + 1)).k = (f (j + 1)).k + k) →
    pickE r l (p + i) g (List.range' (p + m) n) (a.map (shB p c k)) = (pickE r (subB l p t) i f (List.range' m n) a).map (shB p c k)
  | 0, _, _, _, _ => rfl
  | n + 1, m, a, hn, hh => by
    obtain ⟨h1, h2⟩ := hh m (Nat.le_refl _) (by omega)
    have hx : wayX r l (p + i) g (p + m) = shB p c k (wayX r (subB l p t) i f m) := by
      unfold wayX shB
      rw [h1, h2, h.cost r i m hi (by omega)]
      simp only [Way.mk.injEq, and_true]
      omega
    have ih := pickE_sub h r i hi f g c k n (m + 1)
    rw [List.range'_succ, List.range'_succ, pickE_cons, pickE_cons, ← ih _ (by omega) (fun j a1 a2 => hh j (by omega) (by omega)), hx, h.fit r i m hi (by omega)]
    congr 1
    cases hf : Wp.fit r (subB l p t) i m
    · rfl
    · simp only [if_true]
      cases a with
      | none => rfl
      | some b =>
        simp only [Option.map_some, stepE]
        have : wayLe (shB p c k (wayX r (subB l p t) i f m)) (shB p c k b) ↔ wayLe (wayX r (subB l p t) i f m) b := by
          unfold wayLe shB
          simp only
          omega
        by_cases hl : wayLe (wayX r (subB l p t) i f m) b
        · rw [if_pos hl, if_pos (this.2 hl)]; rfl
        · rw [if_neg hl, if_neg (fun q => hl (this.1 q))]; rfl
/-- A paragraph by itself is broken as it is among the others. -/
theorem Par.best {l : List Bx} {p t : Nat} (h : Par l p t) (r : Wr) : ∀ (f i : Nat), t ≤ f + (p + i) → p + i ≤ t →
    (bestW r l l.length (p + i)).c = (bestW r (subB l p t) f i).c + (bestW r l l.length t).c ∧ (bestW r l l.length (p + i)).k = (bestW r (subB l p t) f i).k + (bestW r l l.length t).k ∧ (p + i < t → (bestW r l l.length (p + i)).e = p + (bestW r (subB l p t) f i).e)
  | 0, i, h1, h2 => by
    have : p + i = t := by omega
    rw [this, bestW]
    simp
  | f + 1, i, h1, h2 => by
    have hl := h.le
    by_cases hi : p + i < t
    · have h3 := h.lst hi
      have h5 := lst_ge (subB l p t) i
      have e1 : bestW r l l.length (p + i) = (pickE r l (p + i) (bestW r l l.length) (List.range' (p + i) (Wp.lst (subB l p t) i + 1 - i)) none).getD ⟨0, 0, 0⟩ := by
        rw [bestW_fuel r l l.length (l.length + 1) (p + i) (by omega) (by omega), bestW, if_pos (by omega), h.lst' hi, show p + Wp.lst (subB l p t) i + 1 - (p + i) = Wp.lst (subB l p t) i + 1 - i by omega]
      have e2 : bestW r (subB l p t) (f + 1) i = (pickE r (subB l p t) i (bestW r (subB l p t) f) (List.range' i (Wp.lst (subB l p t) i + 1 - i)) none).getD ⟨0, 0, 0⟩ := by
        rw [bestW, if_pos (by rw [h.len]; omega)]
      have hsh := pickE_sub h r i hi (bestW r (subB l p t) f) (bestW r l l.length) (bestW r l l.length t).c (bestW r l l.length t).k (Wp.lst (subB l p t) i + 1 - i) i none (by omega) (fun j a1 a2 => by
        obtain ⟨q1, q2, _⟩ := h.best r f (j + 1) (by omega) (by omega)
        rw [← Nat.add_assoc] at q1 q2
        exact ⟨q1, q2⟩)
      rw [Option.map_none] at hsh
      obtain ⟨x, hx, _⟩ := pickE_first r (subB l p t) i (bestW r (subB l p t) f) (Wp.lst (subB l p t) i - i)
      rw [show Wp.lst (subB l p t) i - i + 1 = Wp.lst (subB l p t) i + 1 - i by omega] at hx
      rw [e1, e2, hsh, hx]
      simp only [Option.map_some, Option.getD_some, shB]
      exact ⟨trivial, trivial, fun _ => trivial⟩
    · have : p + i = t := by omega
      rw [this, bestW, if_neg (by rw [h.len]; omega)]
      simp
theorem even_fuel (r : Wr) (l : List Bx) : ∀ f g i, l.length ≤ f + i → l.length ≤ g + i → even r l f i = even r l g i
  | 0, 0, _, _, _ => rfl
  | 0, g + 1, i, h, _ => by rw [even, even, if_neg (by omega)]
  | f + 1, 0, i, _, h => by rw [even, even, if_neg (by omega)]
  | f + 1, g + 1, i, h1, h2 => by
    rw [even, even]
    by_cases hi : i < l.length
    · obtain ⟨n, hn⟩ : ∃ n, l.length = n + 1 := ⟨l.length - 1, by omega⟩
      have := (bestW_spec r l n i (by omega) hi).1
      rw [← hn] at this
      rw [if_pos hi, if_pos hi, even_fuel r l f g _ (by omega) (by omega)]
    · rw [if_neg hi, if_neg hi]
/-- The even lines of a paragraph, and those of what stands behind it. -/
theorem Par.even {l : List Bx} {p t : Nat} (h : Par l p t) (r : Wr) : ∀ (f i F : Nat), t ≤ f + (p + i) → p + i ≤ t → l.length ≤ F + (p + i) → Wp.even r l F (p + i) = (Wp.even r (subB l p t) f i).map (p + ·) ++ Wp.even r l F t
  | 0, i, F, h1, h2, h3 => by
    have : p + i = t := by omega
    rw [this]
    rfl
  | f + 1, i, F, h1, h2, h3 => by
    have hl := h.le
    by_cases hi : p + i < t
    · have hb := (h.best r (t - p) i (by omega) (by omega)).2.2 hi
      rw [← h.len] at hb
      obtain ⟨n, hn⟩ : ∃ n, (subB l p t).length = n + 1 := ⟨(subB l p t).length - 1, by rw [h.len]; omega⟩
      have hs := bestW_spec r (subB l p t) n i (by omega) (by rw [h.len]; omega)
      rw [← hn] at hs
      have h4 := h.lst hi
      obtain ⟨G, rfl⟩ : ∃ G, F = G + 1 := ⟨F - 1, by omega⟩
      have hs1 := hs.1
      have hs2 := hs.2.1
      have hih := h.even r f ((bestW r (subB l p t) (subB l p t).length i).e + 1) G (by omega) (by omega) (by omega)
      rw [← Nat.add_assoc] at hih
      rw [Wp.even, if_pos (by omega), Wp.even, if_pos (by rw [h.len]; omega), hb, hih, even_fuel r l (G + 1) G t (by omega) (by omega)]
      rfl
    · have : p + i = t := by omega
      rw [this, Wp.even, if_neg (by rw [h.len]; omega)]
      rfl
/-- What the lines of a paragraph cost, and the lines that are left. -/
def costP (r : Wr) (L : List Bx) : Nat → List Int → Nat → Option (Int × List Int)
  | _, es, 0 => some (0, es)
  | i, es, f + 1 => if i < L.length then match es with
      | [] => none
      | e :: es => if e < i ∨ (L.length : Int) ≤ e ∨ fit r L i e.toNat = false then none else (costP r L (e.toNat + 1) es f).map fun x => (cost r L i e.toNat + x.1, x.2)
    else some (0, es)
theorem Par.costP {l : List Bx} {p t : Nat} (h : Par l p t) (r : Wr) : ∀ (f i : Nat) (es : List Int), t ≤ f + (p + i) → p + i ≤ t →
    costF r l (p + i) es = match Wp.costP r (subB l p t) i (es.map (· - (p : Int))) f with
      | none => none
      | some (c, rest) => (costF r l t (rest.map (· + (p : Int)))).map (c + ·)
  | 0, i, es, h1, h2 => by
    have e : p + i = t := by omega
    have e2 : (es.map (· - (p : Int))).map (· + (p : Int)) = es := by
      rw [List.map_map]
      conv => rhs; rw [← List.map_id es]
      refine List.map_congr_left (fun x _ => ?_)
      show x - p + p = x
      omega
    rw [e]
    cases es with
    | nil =>
      simp only [List.map_nil, Wp.costP]
      cases costF r l t [] <;> simp
    | cons a as =>
      simp only [List.map_cons, Wp.costP] at e2 ⊢
      rw [e2]
      cases costF r l t (a :: as) <;> simp
  | f + 1, i, es, h1, h2 => by
    have hl := h.le
    have hlen := h.len
    by_cases hi : p + i < t
    · cases es with
      | nil =>
        rw [costF, if_neg (by omega)]
        simp only [List.map_nil, Wp.costP]
        rw [if_pos (by omega)]
      | cons e es =>
        have h3 := h.lst hi
        have h4 := h.lst' hi
        rw [costF, List.map_cons, Wp.costP, if_pos (show i < (subB l p t).length by omega)]
        by_cases hb : e < ((p + i : Nat) : Int) ∨ (t : Int) ≤ e
        · rw [if_pos (by omega), if_pos (by omega)]
        · obtain ⟨k, rfl⟩ : ∃ k : Nat, e = ((p + k : Nat) : Int) := ⟨e.toNat - p, by omega⟩
          have hk : p + k < t := by omega
          have e5 : (((p + k : Nat) : Int) - (p : Int)).toNat = k := by omega
          have e6 : ((p + k : Nat) : Int).toNat = p + k := by omega
          rw [e5, e6, h.fit r i k hi hk]
          by_cases hf : Wp.fit r (subB l p t) i k = false
          · rw [if_pos (by simp [hf]), if_pos (by simp [hf])]
          · rw [if_neg (by rintro (q | q | q | q) <;> first | omega | exact hf q), if_neg (by rintro (q | q | q) <;> first | omega | exact hf q), h.cost r i k hi hk]
            have ih := h.costP r f (k + 1) es (by omega) (by omega)
            rw [← Nat.add_assoc] at ih
            rw [ih]
            cases Wp.costP r (subB l p t) (k + 1) (es.map (· - (p : Int))) f with
            | none => rfl
            | some x =>
              obtain ⟨c, rest⟩ := x
              simp only [Option.map_some]
              cases costF r l t (rest.map (· + (p : Int))) with
              | none => rfl
              | some d => simp only [Option.map_some, Option.some.injEq]; omega
    · have e : p + i = t := by omega
      have e2 : (es.map (· - (p : Int))).map (· + (p : Int)) = es := by
        rw [List.map_map]
        conv => rhs; rw [← List.map_id es]
        refine List.map_congr_left (fun x _ => ?_)
        show x - p + p = x
        omega
      rw [e]
      have e7 : Wp.costP r (subB l p t) i (es.map (· - (p : Int))) (f + 1) = some (0, es.map (· - (p : Int))) := by
        cases hes : es.map (· - (p : Int)) <;> (rw [Wp.costP, if_neg (by omega)])
      rw [e7]
      simp only
      rw [e2]
      cases costF r l t es <;> simp
/-- The paragraphs of some boxes, from a box on. -/
def parsL (l : List Bx) : Nat → Nat → List (Nat × Nat)
  | 0, _ => []
  | f + 1, i => if i < l.length then (i, lst l i + 1) :: parsL l f (lst l i + 1) else []
theorem parsL_fuel (l : List Bx) : ∀ f g i, l.length ≤ f + i → l.length ≤ g + i → parsL l f i = parsL l g i
  | 0, 0, _, _, _ => rfl
  | 0, g + 1, i, h, _ => by rw [parsL, parsL, if_neg (by omega)]
  | f + 1, 0, i, _, h => by rw [parsL, parsL, if_neg (by omega)]
  | f + 1, g + 1, i, h1, h2 => by
    have := lst_ge l i
    rw [parsL, parsL, parsL_fuel l f g (lst l i + 1) (by omega) (by omega)]
theorem parsL_par (l : List Bx) : ∀ f i, (i < l.length → start l i = true) → ∀ x ∈ parsL l f i, Par l x.1 x.2
  | 0, _, _, x, hx => by simp [parsL] at hx
  | f + 1, i, hs, x, hx => by
    rw [parsL] at hx
    split at hx
    · rename_i hi
      rcases List.mem_cons.1 hx with rfl | hx
      · exact ⟨hi, hs hi, rfl⟩
      · exact parsL_par l f (lst l i + 1) (fun h => start_next l h) x hx
    · simp at hx
theorem parsL_greedy (r : Wr) (l : List Bx) : ∀ f i, l.length ≤ f + i → (i < l.length → start l i = true) → greedy r l l.length i = (parsL l f i).flatMap fun x => (greedy r (subB l x.1 x.2) (subB l x.1 x.2).length 0).map (x.1 + ·)
  | 0, i, h, _ => by
    rw [greedy_fuel r l l.length 0 i (by omega) (by omega)]
    rfl
  | f + 1, i, h, hs => by
    rw [parsL]
    by_cases hi : i < l.length
    · have hP : Par l i (lst l i + 1) := ⟨hi, hs hi, rfl⟩
      have hl := hP.le
      have h1 := hP.greedy r (subB l i (lst l i + 1)).length 0 l.length (by rw [hP.len]; omega) (by omega) (by omega)
      rw [Nat.add_zero] at h1
      rw [if_pos hi, List.flatMap_cons, h1, parsL_greedy r l f (lst l i + 1) (by omega) (fun h => start_next l h)]
    · rw [if_neg hi, greedy_fuel r l l.length 0 i (by omega) (by omega)]
      rfl
theorem parsL_even (r : Wr) (l : List Bx) : ∀ f i, l.length ≤ f + i → (i < l.length → start l i = true) → even r l l.length i = (parsL l f i).flatMap fun x => (even r (subB l x.1 x.2) (subB l x.1 x.2).length 0).map (x.1 + ·)
  | 0, i, h, _ => by
    rw [even_fuel r l l.length 0 i (by omega) (by omega)]
    rfl
  | f + 1, i, h, hs => by
    rw [parsL]
    by_cases hi : i < l.length
    · have hP : Par l i (lst l i + 1) := ⟨hi, hs hi, rfl⟩
      have hl := hP.le
      have h1 := hP.even r (subB l i (lst l i + 1)).length 0 l.length (by rw [hP.len]; omega) (by omega) (by omega)
      rw [Nat.add_zero] at h1
      rw [if_pos hi, List.flatMap_cons, h1, parsL_even r l f (lst l i + 1) (by omega) (fun h => start_next l h)]
    · rw [if_neg hi, even_fuel r l l.length 0 i (by omega) (by omega)]
      rfl
/-- How many lines there are at least. -/
theorem greedy_pars (r : Wr) (l : List Bx) : ∀ f i, l.length ≤ f + i → (parsL l f i).length ≤ (greedy r l l.length i).length ∧
    ((greedy r l l.length i).length = (parsL l f i).length → greedy r l l.length i = (parsL l f i).map fun x => x.2 - 1)
  | 0, i, h => by
    rw [greedy_fuel r l l.length 0 i (by omega) (by omega)]
    exact ⟨Nat.le_refl _, fun _ => rfl⟩
  | f + 1, i, h => by
    rw [parsL]
    by_cases hi : i < l.length
    · rw [if_pos hi]
      -- the lines of one paragraph: at least one, which then ends with it
      have key : ∀ (n j : Nat), lst l i + 1 ≤ n + j → i ≤ j → j ≤ lst l i → (greedy r l l.length (lst l i + 1)).length + 1 ≤ (greedy r l l.length j).length ∧
          ((greedy r l l.length j).length = (greedy r l l.length (lst l i + 1)).length + 1 → greedy r l l.length j = lst l i :: greedy r l l.length (lst l i + 1)) := by
        intro n
        induction n with
        | zero => intro j h1 h2 h3; omega
        | succ n ih =>
          intro j h1 h2 h3
          have hs := lst_same l h2 h3
          have hl := lst_lt l hi
          obtain ⟨_, g2, g3, _⟩ := bestG_spec r l j
          have e : greedy r l l.length j = bestG r l j :: greedy r l l.length (bestG r l j + 1) := by
            rw [greedy_fuel r l l.length (l.length + 1) j (by omega) (by omega), greedy, if_pos (by omega)]
          rw [e]
          by_cases hb : bestG r l j = lst l i
          · rw [hb]
            exact ⟨by simp, fun _ => rfl⟩
          · obtain ⟨k1, k2⟩ := ih (bestG r l j + 1) (by omega) (by omega) (by omega)
            refine ⟨by simp only [List.length_cons]; omega, fun hh => ?_⟩
            simp only [List.length_cons] at hh
            omega
      have hge := lst_ge l i
      obtain ⟨k1, k2⟩ := key (lst l i + 1) i (by omega) (Nat.le_refl _) hge
      obtain ⟨m1, m2⟩ := greedy_pars r l f (lst l i + 1) (by omega)
      refine ⟨by simp only [List.length_cons]; omega, fun hh => ?_⟩
      simp only [List.length_cons] at hh
      rw [k2 (by omega), m2 (by omega)]
      rfl
    · rw [if_neg hi, greedy_fuel r l l.length 0 i (by omega) (by omega)]
      exact ⟨Nat.le_refl _, fun _ => rfl⟩
end Go.Wp
end

section
namespace Go.Wp

/-- How many paragraphs there are, from a box on. -/
def cntP (l : List Bx) : Nat → Nat → Nat
  | 0, _ => 0
  | f + 1, i => if i < l.length then (if (gB l i).m = true ∨ i + 1 = l.length then 1 else 0) + cntP l f (i + 1) else 0
theorem cntP_pars (l : List Bx) : ∀ f i, l.length ≤ f + i → (parsL l l.length i).length = cntP l f i
  | 0, i, h => by
    rw [parsL_fuel l l.length 0 i (by omega) (by omega)]
    rfl
  | f + 1, i, h => by
    by_cases hi : i < l.length
    · rw [cntP, if_pos hi, ← cntP_pars l f (i + 1) (by omega)]
      have e : parsL l l.length i = (i, lst l i + 1) :: parsL l l.length (lst l i + 1) := by
        have := lst_ge l i
        rw [parsL_fuel l l.length (l.length + 1) i (by omega) (by omega), parsL, if_pos hi]
      rw [e]
      by_cases hm : (gB l i).m = true ∨ i + 1 = l.length
      · rw [if_pos hm]
        have hl : lst l i = i := lst_uniq l (Nat.le_refl _) (by
          rintro ⟨h1, h2⟩
          rcases hm with hm | hm
          · rw [h2] at hm; cases hm
          · omega) (fun j h1 h2 => by omega)
        rw [hl, List.length_cons]
        omega
      · rw [if_neg hm]
        have hm1 : (gB l i).m = false := by
          cases h : (gB l i).m
          · rfl
          · exact absurd (.inl h) hm
        have hm2 : ¬ i + 1 = l.length := fun h => hm (.inr h)
        have hne : lst l i ≠ i := fun e1 => by
          have := lst_end l i
          rw [e1] at this
          exact this ⟨by omega, hm1⟩
        have hge := lst_ge l i
        have hs : lst l (i + 1) = lst l i := lst_same l (by omega) (by omega)
        have e2 : parsL l l.length (i + 1) = (i + 1, lst l i + 1) :: parsL l l.length (lst l i + 1) := by
          rw [parsL_fuel l l.length (l.length + 1) (i + 1) (by omega) (by omega), parsL, if_pos (by omega), hs]
        rw [e2]
        simp
    · rw [cntP, if_neg hi, parsL_fuel l l.length 0 i (by omega) (by omega)]
      rfl
/-- Where each paragraph goes into one line that costs nothing both ways are the same. -/
theorem even_whole (r : Wr) (l : List Bx) : ∀ f i, l.length ≤ f + i → i ≤ l.length → (greedy r l l.length i).length = (parsL l l.length i).length → costF r l i ((greedy r l l.length i).map Int.ofNat) = some 0 → even r l l.length i = greedy r l l.length i
  | 0, i, h, _, _, _ => by
    rw [even_fuel r l l.length 0 i (by omega) (by omega), greedy_fuel r l l.length 0 i (by omega) (by omega)]
    rfl
  | f + 1, i, h, h1, h2, h3 => by
    by_cases hi : i < l.length
    · have e : parsL l l.length i = (i, lst l i + 1) :: parsL l l.length (lst l i + 1) := by
        have := lst_ge l i
        rw [parsL_fuel l l.length (l.length + 1) i (by omega) (by omega), parsL, if_pos hi]
      have hgp := (greedy_pars r l l.length i (by omega)).2 h2
      rw [e, List.map_cons] at hgp
      have e1 : greedy r l l.length i = bestG r l i :: greedy r l l.length (bestG r l i + 1) := by
        have := (bestG_spec r l i).2.1
        rw [greedy_fuel r l l.length (l.length + 1) i (by omega) (by omega), greedy, if_pos hi]
      have hb : bestG r l i = lst l i := by
        rw [e1] at hgp
        have := (List.cons.inj hgp).1
        omega
      rw [hb] at e1
      rw [e1, List.map_cons] at h3
      obtain ⟨k, d, ek, _, _, _, _, h6, h7⟩ := costF_cons h3
      obtain rfl : k = lst l i := by
        have : (Int.ofNat (lst l i)) = (k : Int) := ek
        have h8 : ((lst l i : Nat) : Int) = (k : Int) := this
        omega
      have hc := cost_nn r l i (lst l i)
      have hd := costF_nn h6
      have hd0 : d = 0 := by omega
      have hc0 : cost r l i (lst l i) = 0 := by omega
      rw [hd0] at h6
      have hl := lst_lt l hi
      have hge := lst_ge l i
      have hlen : (greedy r l l.length (lst l i + 1)).length = (parsL l l.length (lst l i + 1)).length := by
        rw [e, e1] at h2
        simpa using h2
      have ih := even_whole r l f (lst l i + 1) (by omega) (by omega) hlen h6
      have hw := bestW_whole r l i hi (by rw [← hb]; exact (bestG_spec r l i).1) hc0
      rw [e1, ← ih, even_fuel r l l.length (l.length + 1) i (by omega) (by omega), even, if_pos hi, hw]
    · rw [even_fuel r l l.length 0 i (by omega) (by omega), greedy_fuel r l l.length 0 i (by omega) (by omega)]
      rfl
/-- The last boxes of the lines: greedy, or even. -/
def linesK (r : Wr) (ev : Bool) (l : List Bx) : List Nat := if ev then even r l l.length 0 else greedy r l l.length 0
theorem lines_ok (r : Wr) (ev : Bool) (l : List Bx) : ∃ c, costF r l 0 ((linesK r ev l).map Int.ofNat) = some c := by
  cases ev
  · exact greedy_fits r l l.length 0 (by omega) (by omega)
  · exact ⟨_, (even_best r l l.length 0 (by omega) (by omega)).1⟩
theorem fewest (r : Wr) (l : List Bx) (es : List Int) (c : Int) (h : costF r l 0 es = some c) : (linesK r false l).length ≤ es.length :=
  greedy_fewest (Int.le_refl _) (Int.le_refl _) l es 0 0 l.length c h (by omega) (by omega) (.inl rfl) (by omega)
theorem wider (r : Wr) (m : Int) (hm : 0 ≤ m) (l : List Bx) : (linesK ⟨r.w + m, r.f, r.r⟩ false l).length ≤ (linesK r false l).length := by
  obtain ⟨c, hc⟩ := lines_ok r false l
  have := greedy_fewest (q := r) (r := ⟨r.w + m, r.f, r.r⟩) (by simp only; omega) (by simp only; omega) l _ 0 0 l.length c hc (by omega) (by omega) (.inl rfl) (by omega)
  rw [List.length_map] at this
  exact this
theorem least (r : Wr) (l : List Bx) : ∃ best, costF r l 0 ((linesK r true l).map Int.ofNat) = some best ∧ (∀ es c, costF r l 0 es = some c → best < c ∨ (best = c ∧ (linesK r true l).length ≤ es.length)) := by
  obtain ⟨h1, h2⟩ := even_best r l l.length 0 (by omega) (by omega)
  refine ⟨_, h1, fun es c h => ?_⟩
  have h3 := bestW_least r l es 0 l.length c h (by omega)
  have h4 : (linesK r true l).length = (bestW r l l.length 0).k := h2
  unfold wayLe at h3
  simp only at h3
  omega
theorem all_least (r : Wr) (l : List Bx) : costF r l 0 ((linesK r true l).map Int.ofNat) = some (allM r l (l.length + 1) [] 0 (-1)) := by
  rw [allM_best]
  exact (even_best r l l.length 0 (by omega) (by omega)).1
theorem one_each (r : Wr) (l : List Bx) : cntP l l.length 0 ≤ (linesK r false l).length ∧ ((linesK r false l).length = cntP l l.length 0 → costF r l 0 ((linesK r false l).map Int.ofNat) = some 0 → linesK r true l = linesK r false l) := by
  rw [← cntP_pars l l.length 0 (by omega)]
  exact ⟨(greedy_pars r l l.length 0 (by omega)).1, fun h1 h2 => even_whole r l l.length 0 (by omega) (by omega) h1 h2⟩
end Go.Wp
end

section
namespace Go.Ln

/-- The class of the last of so many runes; -1: there is none. -/
def lastL (c : List Nat) (n : Nat) : Int := if n = 0 then -1 else (c.getD (n - 1) 0 : Nat)
/-- How many runes stand ahead when those of a class at the end are passed over. -/
def pastL (c : List Nat) (k : Nat) : Nat → Nat
  | 0 => 0
  | n + 1 => if c.getD n 0 = k then pastL c k n else n + 1
theorem pastL_le (c : List Nat) (k : Nat) : ∀ n, pastL c k n ≤ n
  | 0 => Nat.le_refl _
  | n + 1 => by
    rw [pastL]
    split
    · exact Nat.le_trans (pastL_le c k n) (Nat.le_succ n)
    · exact Nat.le_refl _
def regGo (c : List Nat) : Nat → Nat → Nat
  | 0, _ => 0
  | f + 1, n => if lastL c n = 25 then regGo c f (pastL c 8 (n - 1)) + 1 else 0
/-- How many regions stand right ahead. -/
def regL (c : List Nat) (n : Nat) : Nat := regGo c n (pastL c 8 n)
def numA (c : List Nat) (n : Nat) : Nat := if lastL c n = 11 ∨ lastL c n = 10 then pastL c 8 (n - 1) else n
def numB (c : List Nat) (n : Nat) : Nat := if lastL c n = 14 ∨ lastL c n = 15 then pastL c 8 (n - 1) else n
/-- Does a number end there? -/
def NumL (c : List Nat) (n : Nat) : Prop := lastL c (numB c (numA c (pastL c 8 n))) = 20
instance (c : List Nat) (n : Nat) : Decidable (NumL c n) := by unfold NumL; infer_instance
def PairsL (b q : Int) : Prop :=
  (b = 0 ∧ (q = 20 ∨ q = 22 ∨ q = 21 ∨ q = 0 ∨ q = 9)) ∨ (b = 20 ∧ (q = 0 ∨ q = 9 ∨ q = 20)) ∨ (b = 22 ∧ (q = 23 ∨ q = 0)) ∨
  (b = 23 ∧ q = 21) ∨ (b = 21 ∧ q = 0) ∨ ((b = 16 ∨ b = 14 ∨ b = 15) ∧ q = 20) ∨ (b = 14 ∧ q = 0) ∨ (b = 10 ∧ (q = 0 ∨ q = 20))
instance (b q : Int) : Decidable (PairsL b q) := by unfold PairsL; infer_instance
def LettersL (c : List Nat) (i : Nat) (b q : Int) : Prop :=
  (q = 12 ∨ q = 17 ∨ q = 16 ∨ q = 24 ∨ q = 19) ∨ b = 12 ∨ PairsL b q ∨ ((q = 21 ∨ q = 22) ∧ NumL c i) ∨
  ((b = 21 ∨ b = 22) ∧ (q = 20 ∨ ((q = 9 ∨ q = 16) ∧ i + 1 < c.length ∧ c.getD (i + 1) 0 = 20))) ∨ (q = 25 ∧ regL c i % 2 = 1)
instance (c : List Nat) (i : Nat) (b q : Int) : Decidable (LettersL c i b q) := by unfold LettersL; infer_instance
def GluedL (p b q : Int) : Prop :=
  (q = 8 ∧ ¬ (p = 1 ∨ p = 2 ∨ p = 3 ∨ p = 4 ∨ p = 5)) ∨ q = 6 ∨ b = 6 ∨ b = 7 ∨ (q = 7 ∧ ¬ (b = 4 ∨ b = 17 ∨ b = 16)) ∨ (q = 11 ∨ q = 10 ∨ q = 13 ∨ q = 14 ∨ q = 15)
instance (p b q : Int) : Decidable (GluedL p b q) := by unfold GluedL; infer_instance
def OverL (a q : Int) : Prop := a = 9 ∨ (a = 12 ∧ q = 9) ∨ ((a = 11 ∨ a = 10) ∧ q = 24) ∨ (a = 18 ∧ q = 18)
instance (a q : Int) : Decidable (OverL a q) := by unfold OverL; infer_instance
/-- May a line end ahead of a rune that is not the first? -/
def cutL (c : List Nat) (i : Nat) : Bool :=
  let p := lastL c i
  let q : Int := (c.getD i 0 : Nat)
  let b := lastL c (pastL c 8 i)
  if p = 2 ∧ q = 3 then false
  else if p = 1 ∨ p = 2 ∨ p = 3 then true
  else if q = 1 ∨ q = 2 ∨ q = 3 ∨ q = 4 ∨ q = 5 then false
  else if lastL c (pastL c 4 i) = 5 then true
  else if GluedL p b q then false
  else if OverL (lastL c (pastL c 8 (pastL c 4 i))) q then false
  else if p = 4 then true
  else !decide (LettersL c i b q)
def MustL (c : Int) : Prop := c = 1 ∨ c = 2 ∨ c = 3
instance (c : Int) : Decidable (MustL c) := by unfold MustL; infer_instance
/-- Where lines may end, and where they must, from a rune on. -/
def chGo (at_ : List Nat) (c : List Nat) : Nat → Nat → List (Nat × Bool)
  | 0, _ => []
  | n + 1, i => (if cutL c i then [(at_.getD i 0, decide (MustL (lastL c i)))] else []) ++ chGo at_ c n (i + 1)
def chances (at_ : List Nat) (c : List Nat) (len : Nat) : List (Nat × Bool) :=
  chGo at_ c (at_.length - 1) 1 ++ (if 0 < len then [(len, true)] else [])
end Go.Ln
end
