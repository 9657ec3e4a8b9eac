/-
  Plain facts on the places of runes: where they begin, how many stand ahead of a place.
-/
import Derived.Test.YteokfknkcbmigaaDoorBytes
namespace Go.Rp

theorem edge_zero (l : List UInt8) : edge l 0 := fun j hj => by omega
theorem edge_end (l : List UInt8) : edge l l.length := fun j hj => by
  have := wid_le (l.drop j) (by intro e; have := congrArg List.length e; simp at this; omega)
  simp at this
  omega
theorem dec_takes (l : List UInt8) (m : Nat) (h : 4 ≤ m ∨ l.length ≤ m) : dec (l.take m) = dec l := by
  by_cases hl : l.length ≤ m
  · rw [List.take_of_length_le hl]
  · have hm : 4 ≤ m := by omega
    match l, hl with
    | [], hl => simp at hl
    | c :: r, hl =>
      obtain ⟨k, rfl⟩ : ∃ k, m = k + 1 := ⟨m - 1, by omega⟩
      rw [List.take_succ_cons]
      have := dec_take [c] (r.take k) r (by simp) (by rw [List.take_take, Nat.min_eq_left (by omega)])
      simpa using this
theorem wid_takes (l : List UInt8) (m : Nat) (h : 4 ≤ m ∨ l.length ≤ m) : wid (l.take m) = wid l := by unfold wid; rw [dec_takes l m h]

open Classical in
/-- The greatest edge up to a place. -/
noncomputable def eb (l : List UInt8) : Nat → Nat
  | 0 => 0
  | k + 1 => if edge l (k + 1) then k + 1 else eb l k
theorem eb_le (l : List UInt8) : ∀ k, eb l k ≤ k
  | 0 => Nat.le_refl _
  | k + 1 => by
    unfold eb
    split
    · omega
    · have := eb_le l k; omega
theorem eb_edge (l : List UInt8) : ∀ k, edge l (eb l k)
  | 0 => edge_zero l
  | k + 1 => by
    unfold eb
    split
    · assumption
    · exact eb_edge l k
theorem eb_of (l : List UInt8) (k : Nat) (h : edge l k) : eb l k = k := by
  cases k with
  | zero => rfl
  | succ k => unfold eb; rw [if_pos h]
theorem eb_not (l : List UInt8) (k : Nat) (h : ¬ edge l (k + 1)) : eb l (k + 1) = eb l k := by
  conv => lhs; unfold eb
  rw [if_neg h]
theorem eb_mono (l : List UInt8) (a b : Nat) (h : a ≤ b) : eb l a ≤ eb l b := by
  induction b with
  | zero => obtain rfl : a = 0 := by omega
            exact Nat.le_refl _
  | succ b ih =>
    by_cases ha : a = b + 1
    · subst ha; exact Nat.le_refl _
    · have := ih (by omega)
      by_cases he : edge l (b + 1)
      · rw [eb_of l _ he]
        have := eb_le l a
        omega
      · rw [eb_not l b he]; exact this

theorem take_ne (l : List UInt8) (e : Nat) (he : 0 < e) (h : l ≠ []) : l.take e ≠ [] := by
  obtain ⟨c, r, rfl⟩ := List.exists_cons_of_ne_nil h
  obtain ⟨k, rfl⟩ : ∃ k, e = k + 1 := ⟨e - 1, by omega⟩
  simp
theorem wid_head (l : List UInt8) (e : Nat) (h : l ≠ []) (hw : wid l ≤ e) : dec (l.take e) = dec l := by
  by_cases hl : l.length ≤ e
  · rw [List.take_of_length_le hl]
  · have h0 := wid_pos l
    have := dec_cut (l.take e) (l.drop e) (take_ne l e (by omega) h) (by rw [List.take_append_drop, List.length_take]; omega)
    rw [List.take_append_drop] at this
    exact this
theorem marks_fuel (n : Nat) : ∀ (m : Nat) (l : List UInt8) (p : Nat), l.length ≤ n → l.length ≤ m → marks n l p = marks m l p := by
  induction n with
  | zero =>
    intro m l p hn _
    obtain rfl : l = [] := List.length_eq_zero_iff.1 (by omega)
    cases m <;> simp [marks]
  | succ n ih =>
    intro m l p hn hm
    by_cases h : l = []
    · subst h; cases m <;> simp [marks]
    · have hp := wid_pos l
      have hl := List.length_pos_iff.2 h
      obtain ⟨m', rfl⟩ : ∃ m', m = m' + 1 := ⟨m - 1, by omega⟩
      simp only [marks, h, if_false]
      rw [ih m' _ _ (by simp; omega) (by simp; omega)]
/-- At an edge the list of the runes falls apart. -/
theorem marks_split (n : Nat) : ∀ (l : List UInt8) (p e : Nat), l.length ≤ n → e ≤ l.length → edge l e → marks n l p = marks n (l.take e) p ++ marks n (l.drop e) (p + e) := by
  induction n with
  | zero => intro l p e hn he _; simp [marks]
  | succ n ih =>
    intro l p e hn he hedge
    by_cases h : l = []
    · subst h; simp [marks]
    · by_cases h0 : e = 0
      · subst h0; simp [marks]
      · have hp := wid_pos l
        have hw : wid l ≤ e := by have := hedge 0 (by omega); simpa using this
        have hd := wid_head l e h hw
        have hwd : wid (l.take e) = wid l := by unfold wid; rw [hd]
        have hrd : run (l.take e) = run l := by unfold run; rw [hd]
        have hi := ih (l.drop (wid l)) (p + wid l) (e - wid l) (by simp; omega) (by simp; omega) (fun j hj => by
          have := hedge (wid l + j) (by omega)
          rw [List.drop_drop]
          omega)
        have e1 : marks (n + 1) l p = (run l, p, p + wid l) :: marks n (l.drop (wid l)) (p + wid l) := by simp [marks, h]
        have e2 : marks (n + 1) (l.take e) p = (run l, p, p + wid l) :: marks n ((l.take e).drop (wid l)) (p + wid l) := by
          simp only [marks, take_ne l e (by omega) h, if_false, hwd, hrd]
        rw [e1, e2, hi, List.cons_append, List.drop_take, List.drop_drop, show wid l + (e - wid l) = e from by omega, show p + wid l + (e - wid l) = p + e from by omega]
        congr 2
        exact marks_fuel n (n + 1) _ _ (by simp; omega) (by simp; omega)
theorem runes_skip (l : List UInt8) (h : l ≠ []) : runes l = runes (l.drop (wid l)) + 1 := by
  have h1 := S_skip ex rfl l h
  have h2 := S_ex (l.drop (wid l))
  have h3 := wid_le l h
  have h4 := wid_pos l
  unfold runes
  simp only [List.length_drop, ex] at *
  omega
theorem units_skip (l : List UInt8) (h : l ≠ []) : units l = units (l.drop (wid l)) + (if 65535 < run l then 2 else 1) := by
  have h1 := S_skip four rfl l h
  have h2 := runes_skip l h
  have h3 := run_four l
  unfold units
  rw [h1, h2]
  unfold four
  by_cases h4 : wid l = 4
  · rw [if_pos h4, if_pos (h3.2 h4)]; omega
  · rw [if_neg h4, if_neg (fun h5 => h4 (h3.1 h5))]; omega
/-- How many units a list of runes has. -/
def unitsOf (M : List (Nat × Nat × Nat)) : Nat := (M.map (fun m => if 65535 < m.1 then 2 else 1)).sum
theorem unitsOf_append (a b : List (Nat × Nat × Nat)) : unitsOf (a ++ b) = unitsOf a + unitsOf b := by simp [unitsOf]
theorem unitsOf_ge (a : List (Nat × Nat × Nat)) : a.length ≤ unitsOf a ∧ unitsOf a ≤ 2 * a.length := by
  induction a with
  | nil => simp [unitsOf]
  | cons x r ih =>
    have : unitsOf (x :: r) = (if 65535 < x.1 then 2 else 1) + unitsOf r := by simp [unitsOf]
    rw [this, List.length_cons]
    split <;> omega
theorem marks_runes (n : Nat) : ∀ (l : List UInt8) (p : Nat), l.length ≤ n → (marks n l p).length = runes l ∧ unitsOf (marks n l p) = units l := by
  induction n with
  | zero =>
    intro l p hn
    obtain rfl : l = [] := List.length_eq_zero_iff.1 (by omega)
    exact ⟨rfl, rfl⟩
  | succ n ih =>
    intro l p hn
    by_cases h : l = []
    · subst h; exact ⟨rfl, rfl⟩
    · have hp := wid_pos l
      have hl := List.length_pos_iff.2 h
      obtain ⟨i1, i2⟩ := ih (l.drop (wid l)) (p + wid l) (by simp; omega)
      have e1 : marks (n + 1) l p = (run l, p, p + wid l) :: marks n (l.drop (wid l)) (p + wid l) := by simp [marks, h]
      rw [e1, runes_skip l h, units_skip l h]
      refine ⟨by simp [i1], ?_⟩
      have : unitsOf ((run l, p, p + wid l) :: marks n (l.drop (wid l)) (p + wid l)) = (if 65535 < run l then 2 else 1) + unitsOf (marks n (l.drop (wid l)) (p + wid l)) := by simp [unitsOf]
      rw [this, i2]
      omega
/-- Each rune of the list: what it is, where it ends; what stands ahead of it. -/
theorem marks_get (n : Nat) : ∀ (l : List UInt8) (p i : Nat), l.length ≤ n → ∀ h : i < (marks n l p).length,
    ∃ q, (marks n l p)[i] = (run (l.drop q), p + q, p + q + wid (l.drop q)) ∧ q < l.length ∧ edge l q ∧ (marks n l p).take i = marks n (l.take q) p := by
  induction n with
  | zero => intro l p i hn h; simp [marks] at h
  | succ n ih =>
    intro l p i hn h
    by_cases h0 : l = []
    · subst h0; simp [marks] at h
    · have hp := wid_pos l
      have hw := wid_le l h0
      have hl := List.length_pos_iff.2 h0
      have e1 : marks (n + 1) l p = (run l, p, p + wid l) :: marks n (l.drop (wid l)) (p + wid l) := by simp [marks, h0]
      cases i with
      | zero => exact ⟨0, by simp [e1], hl, edge_zero l, by simp [marks]⟩
      | succ i =>
        simp only [e1, List.length_cons] at h
        obtain ⟨q, g1, g2, g3, g4⟩ := ih (l.drop (wid l)) (p + wid l) i (by simp; omega) (by omega)
        have hedge : edge l (wid l + q) := by
          intro j hj
          by_cases hj2 : wid l ≤ j
          · have := g3 (j - wid l) (by omega)
            rw [List.drop_drop, show wid l + (j - wid l) = j from by omega] at this
            omega
          · by_cases hj0 : j = 0
            · subst hj0; simp
            · rw [wid_drop l j (by omega) (by omega)]; omega
        simp only [List.length_drop] at g2
        refine ⟨wid l + q, ?_, by omega, hedge, ?_⟩
        · simp only [e1, List.getElem_cons_succ]
          rw [g1, List.drop_drop]
          simp only [Nat.add_assoc]
        · rw [e1, List.take_succ_cons, g4]
          have hd := wid_head l (wid l + q) h0 (by omega)
          have hwd : wid (l.take (wid l + q)) = wid l := congrArg Prod.snd hd
          have hrd : run (l.take (wid l + q)) = run l := congrArg Prod.fst hd
          simp only [marks, take_ne l (wid l + q) (by omega) h0, if_false, hwd, hrd]
          rw [List.drop_take, show wid l + q - wid l = q from by omega]

/-- How many runes stand ahead of a place, or of the rune in which it is. -/
noncomputable def gR (l : List UInt8) (k : Nat) : Nat := runes (l.take (eb l k))
noncomputable def gU (l : List UInt8) (k : Nat) : Nat := units (l.take (eb l k))
/-- Where a rune begins; behind the last: the end. -/
def pl (l : List UInt8) (i : Nat) : Nat := match (marks l.length l 0)[i]? with
  | some m => m.2.1
  | none => l.length
theorem edges_le (l : List UInt8) (a b : Nat) (ha : edge l a) (hb : edge l b) (h : a ≤ b) (hl : b ≤ l.length) :
    runes (l.take a) + (b - a) ≥ runes (l.take b) ∧ runes (l.take a) ≤ runes (l.take b) ∧ units (l.take a) ≤ units (l.take b) ∧ (a < b → runes (l.take a) < runes (l.take b) ∧ units (l.take a) < units (l.take b)) := by
  have hab : edge (l.take b) a := by
    intro j hj
    have h1 := ha j hj
    have h2 := wid_head (l.drop j) (b - j) (by intro e; have := congrArg List.length e; simp at this; omega) (by omega)
    rw [List.drop_take]
    unfold wid at *
    rw [h2]
    exact h1
  have hs := marks_split (l.take b).length (l.take b) 0 a (Nat.le_refl _) (by simp; omega) hab
  rw [List.take_take, Nat.min_eq_left h] at hs
  have m1 := marks_runes (l.take b).length (l.take b) 0 (Nat.le_refl _)
  have m2 := marks_runes (l.take b).length (l.take a) 0 (by simp; omega)
  have m3 := marks_runes (l.take b).length ((l.take b).drop a) (0 + a) (by simp)
  rw [hs, List.length_append, unitsOf_append, m2.1, m2.2, m3.1, m3.2] at m1
  have hr : runes ((l.take b).drop a) ≤ b - a := by
    unfold runes
    simp
    omega
  have hr2 : a < b → 0 < runes ((l.take b).drop a) ∧ 0 < units ((l.take b).drop a) := by
    intro hlt
    have hne : (l.take b).drop a ≠ [] := by
      intro e
      have := congrArg List.length e
      simp at this
      omega
    have h1 := runes_skip _ hne
    have h2 : runes ((l.take b).drop a) ≤ units ((l.take b).drop a) := by unfold units; omega
    omega
  refine ⟨by omega, by omega, by omega, fun hlt => ?_⟩
  have := hr2 hlt
  omega
theorem pl_edge (l : List UInt8) (i : Nat) : edge l (pl l i) ∧ pl l i ≤ l.length ∧ (i ≤ (marks l.length l 0).length → runes (l.take (pl l i)) = i ∧ (marks l.length l 0).take i = marks l.length (l.take (pl l i)) 0) := by
  unfold pl
  by_cases h : i < (marks l.length l 0).length
  · obtain ⟨q, g1, g2, g3, g4⟩ := marks_get l.length l 0 i (Nat.le_refl _) h
    rw [List.getElem?_eq_getElem h, g1]
    simp only [Nat.zero_add]
    refine ⟨g3, by omega, fun _ => ⟨?_, g4⟩⟩
    have := (marks_runes l.length (l.take q) 0 (by simp; omega)).1
    rw [← g4, List.length_take] at this
    omega
  · rw [List.getElem?_eq_none (by omega)]
    refine ⟨edge_end l, Nat.le_refl _, fun hi => ?_⟩
    obtain rfl : i = (marks l.length l 0).length := by omega
    simp only [List.take_length]
    exact ⟨(marks_runes l.length l 0 (Nat.le_refl _)).1.symm, trivial⟩
theorem gR_pl (l : List UInt8) (i : Nat) (h : i ≤ (marks l.length l 0).length) : gR l (pl l i) = i := by
  unfold gR
  rw [eb_of l _ (pl_edge l i).1]
  exact ((pl_edge l i).2.2 h).1
theorem gU_pl (l : List UInt8) (i : Nat) (h : i ≤ (marks l.length l 0).length) : gU l (pl l i) = unitsOf ((marks l.length l 0).take i) := by
  unfold gU
  rw [eb_of l _ (pl_edge l i).1, ((pl_edge l i).2.2 h).2]
  exact ((marks_runes l.length _ 0 (by simp; omega)).2).symm
theorem gR_mono (l : List UInt8) (a b : Nat) (h : a ≤ b) (hb : b ≤ l.length) : gR l a ≤ gR l b ∧ gU l a ≤ gU l b := by
  have := edges_le l (eb l a) (eb l b) (eb_edge l a) (eb_edge l b) (eb_mono l a b h) (by have := eb_le l b; omega)
  exact ⟨this.2.1, this.2.2.1⟩
theorem gR_low (l : List UInt8) (i k : Nat) (h : i ≤ (marks l.length l 0).length) (hk : k < pl l i) : gR l k < gR l (pl l i) ∧ gU l k < gU l (pl l i) := by
  have h1 := eb_le l k
  have h2 := pl_edge l i
  have h3 := eb_of l _ h2.1
  have := edges_le l (eb l k) (pl l i) (eb_edge l k) h2.1 (by omega) h2.2.1
  unfold gR gU
  rw [h3]
  exact this.2.2.2 (by omega)
/-- Every edge is where a rune begins, or the end. -/
theorem edge_pl (l : List UInt8) (k : Nat) (h : edge l k) (hk : k ≤ l.length) : pl l (gR l k) = k ∧ gR l k ≤ (marks l.length l 0).length := by
  have hall := (marks_runes l.length l 0 (Nat.le_refl _)).1
  have hg : gR l k ≤ (marks l.length l 0).length := by
    have := edges_le l k l.length h (edge_end l) hk (Nat.le_refl _)
    rw [List.take_length] at this
    unfold gR
    rw [eb_of l k h, hall]
    exact this.2.1
  refine ⟨?_, hg⟩
  have h1 := gR_pl l _ hg
  have h2 := pl_edge l (gR l k)
  have h3 := eb_of l _ h2.1
  have h4 : gR l (pl l (gR l k)) = runes (l.take (pl l (gR l k))) := by show runes (l.take (eb l (pl l (gR l k)))) = _; rw [h3]
  have h5 : gR l k = runes (l.take k) := by conv => lhs; unfold gR; rw [eb_of l k h]
  rcases Nat.lt_trichotomy (pl l (gR l k)) k with hlt | heq | hgt
  · have := (edges_le l _ k h2.1 h (by omega) hk).2.2.2 hlt
    omega
  · exact heq
  · have := (edges_le l k _ h h2.1 (by omega) h2.2.1).2.2.2 hgt
    omega
theorem gR_all (l : List UInt8) : gR l l.length = (marks l.length l 0).length ∧ gU l l.length = unitsOf (marks l.length l 0) := by
  unfold gR gU
  rw [eb_of l _ (edge_end l), List.take_length]
  exact ⟨(marks_runes l.length l 0 (Nat.le_refl _)).1.symm, (marks_runes l.length l 0 (Nat.le_refl _)).2.symm⟩
/-- The runes that end up to a place. -/
theorem marks_upto (l : List UInt8) (k : Nat) (hk : k ≤ l.length) : (marks l.length l 0).filter (fun m => decide (m.2.2 ≤ k)) = marks l.length (l.take (eb l k)) 0 := by
  have hle := eb_le l k
  have hs := marks_split l.length l 0 (eb l k) (Nat.le_refl _) (by omega) (eb_edge l k)
  rw [hs, List.filter_append]
  have f1 : (marks l.length (l.take (eb l k)) 0).filter (fun m => decide (m.2.2 ≤ k)) = marks l.length (l.take (eb l k)) 0 := by
    rw [List.filter_eq_self]
    intro m hm
    obtain ⟨i, hi, rfl⟩ := List.getElem_of_mem hm
    obtain ⟨q, g1, g2, g3, g4⟩ := marks_get l.length (l.take (eb l k)) 0 i (by simp; omega) hi
    rw [g1]
    have := wid_le ((l.take (eb l k)).drop q) (by intro e; have := congrArg List.length e; simp at this; simp at g2; omega)
    simp only [List.length_drop, List.length_take] at this g2
    simp only [decide_eq_true_eq]
    omega
  have f2 : (marks l.length (l.drop (eb l k)) (0 + eb l k)).filter (fun m => decide (m.2.2 ≤ k)) = [] := by
    rw [List.filter_eq_nil_iff]
    intro m hm
    obtain ⟨i, hi, rfl⟩ := List.getElem_of_mem hm
    obtain ⟨q, g1, g2, g3, g4⟩ := marks_get l.length (l.drop (eb l k)) (0 + eb l k) i (by simp) hi
    rw [g1]
    simp only [List.length_drop] at g2
    simp only [decide_eq_true_eq]
    intro hle2
    -- its end is an edge of the whole, up to the place
    have hend : edge l (eb l k + q + wid ((l.drop (eb l k)).drop q)) := by
      have hq : edge l (eb l k + q) := by
        intro j hj
        by_cases hj2 : eb l k ≤ j
        · have := g3 (j - eb l k) (by omega)
          rw [List.drop_drop, show eb l k + (j - eb l k) = j from by omega] at this
          omega
        · have := eb_edge l k j (by omega)
          omega
      intro j hj
      by_cases hj2 : j < eb l k + q
      · have := hq j hj2; omega
      · by_cases hj3 : j = eb l k + q
        · subst hj3
          rw [List.drop_drop]
          exact Nat.le_refl _
        · have := wid_drop ((l.drop (eb l k)).drop q) (j - (eb l k + q)) (by omega) (by omega)
          rw [List.drop_drop, List.drop_drop, show eb l k + (q + (j - (eb l k + q))) = j from by omega] at this
          rw [this]
          omega
    have hp := wid_pos ((l.drop (eb l k)).drop q)
    have := eb_mono l _ k (show eb l k + q + wid ((l.drop (eb l k)).drop q) ≤ k by omega)
    rw [eb_of l _ hend] at this
    omega
  rw [f1, f2, List.append_nil]
end Go.Rp
