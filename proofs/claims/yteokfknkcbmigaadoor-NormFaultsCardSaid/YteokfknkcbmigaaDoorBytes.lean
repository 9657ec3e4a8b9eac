/-
  Plain facts on bytes that are read as runes: how many runes and units some bytes have, what a seam costs, where the edges are.
-/
import Derived.Lib.DecodeN
import Derived.Lib.DecodeNEq
namespace Go.Rp
open Go.Lib

/-- The rune at the head of some bytes, and its width. -/
def dec (l : List UInt8) : Nat × Nat := decodeN l.length (l.getD 0 0).toNat (l.getD 1 0).toNat (l.getD 2 0).toNat (l.getD 3 0).toNat
def wid (l : List UInt8) : Nat := (dec l).2
def run (l : List UInt8) : Nat := (dec l).1

theorem decN_cut (n m b0 b1 b2 b3 c1 c2 c3 : Nat) (hn : 1 ≤ n) (hm : n ≤ m) (h1 : 1 < n → c1 = b1) (h2 : 2 < n → c2 = b2) (h3 : 3 < n → c3 = b3)
    (hw : (decodeN m b0 b1 b2 b3).2 ≤ n) : decodeN n b0 c1 c2 c3 = decodeN m b0 b1 b2 b3 := by
  by_cases g1 : 1 < n
  · by_cases g2 : 2 < n
    · by_cases g3 : 3 < n
      · obtain rfl := h1 g1; obtain rfl := h2 g2; obtain rfl := h3 g3
        have e1 : 1 < m := by omega
        have e2 : 2 < m := by omega
        have e3 : 3 < m := by omega
        simp only [decodeN, g1, g2, g3, e1, e2, e3]
      · obtain rfl := h1 g1; obtain rfl := h2 g2
        have e1 : 1 < m := by omega
        have e2 : 2 < m := by omega
        revert hw
        simp only [decodeN, g1, g2, g3, e1, e2, true_and, false_and, and_false, if_false]
        repeat' split
        all_goals first | (intro _; rfl) | (intro hw; simp at hw; omega) | (exfalso; omega)
    · obtain rfl := h1 g1
      have e1 : 1 < m := by omega
      revert hw
      simp only [decodeN, g1, g2, e1, true_and, false_and, and_false, if_false]
      have g3 : ¬ 3 < n := by omega
      repeat' split
      all_goals first | (intro _; rfl) | (intro hw; simp at hw; omega) | (exfalso; omega)
  · revert hw
    have g2 : ¬ 2 < n := by omega
    have g3 : ¬ 3 < n := by omega
    simp only [decodeN, g1, g2, g3, false_and, and_false, if_false]
    repeat' split
    all_goals first | (intro _; rfl) | (intro hw; simp at hw; omega) | (exfalso; omega)

theorem decN_pos (n b0 b1 b2 b3 : Nat) : 1 ≤ (decodeN n b0 b1 b2 b3).2 ∧ (decodeN n b0 b1 b2 b3).2 ≤ 4 := by
  simp only [decodeN]
  repeat' split
  all_goals simp

theorem decN_le (n b0 b1 b2 b3 : Nat) (hn : 1 ≤ n) : (decodeN n b0 b1 b2 b3).2 ≤ n := by
  simp only [decodeN]
  repeat' split
  all_goals simp
  all_goals omega

theorem decN_cont (n b0 b1 b2 b3 : Nat) : (1 < (decodeN n b0 b1 b2 b3).2 → b1 / 64 = 2 ∧ 192 ≤ b0) ∧ (2 < (decodeN n b0 b1 b2 b3).2 → b2 / 64 = 2) ∧ (3 < (decodeN n b0 b1 b2 b3).2 → b3 / 64 = 2) := by
  simp only [decodeN]
  repeat' split
  all_goals simp
  all_goals omega

theorem decN_of_cont (n b0 b1 b2 b3 : Nat) (h : b0 / 64 = 2) : decodeN n b0 b1 b2 b3 = (65533, 1) := by
  simp only [decodeN]
  repeat' split
  all_goals first | rfl | (exfalso; omega)

theorem decN_four (n b0 b1 b2 b3 : Nat) (h0 : b0 < 256) : 65535 < (decodeN n b0 b1 b2 b3).1 ↔ (decodeN n b0 b1 b2 b3).2 = 4 := by
  simp only [decodeN]
  repeat' split
  all_goals simp
  all_goals omega

theorem decN_max (n b0 b1 b2 b3 : Nat) (h0 : b0 < 256) : (decodeN n b0 b1 b2 b3).1 ≤ 1114111 := by
  simp only [decodeN]
  repeat' split
  all_goals simp
  all_goals omega

theorem byte_lt (b : UInt8) : b.toNat < 256 := b.toNat_lt

theorem dec_at (s : ByteArray) (i : Nat) : Utf8.decode s i = dec (s.data.toList.drop i) := by
  rw [decode_at]
  unfold dec
  have g : ∀ k, s.get! (i + k) = (s.data.toList.drop i).getD k 0 := by
    intro k
    simp only [ByteArray.get!, List.getD_eq_getElem?_getD, List.getElem?_drop, Array.getElem?_toList, Array.getElem!_eq_getD, Array.getD_eq_getD_getElem?]
    rfl
  have g0 := g 0
  simp only [Nat.add_zero] at g0
  rw [g0, g 1, g 2, g 3]
  simp only [List.length_drop, Array.length_toList]
  rfl

theorem wid_pos (l : List UInt8) : 1 ≤ wid l := (decN_pos _ _ _ _ _).1
theorem wid_le4 (l : List UInt8) : wid l ≤ 4 := (decN_pos _ _ _ _ _).2
theorem wid_le (l : List UInt8) (h : l ≠ []) : wid l ≤ l.length := decN_le _ _ _ _ _ (by cases l <;> simp_all)
theorem run_four (l : List UInt8) : 65535 < run l ↔ wid l = 4 := decN_four _ _ _ _ _ (byte_lt _)
theorem run_max (l : List UInt8) : run l ≤ 1114111 := decN_max _ _ _ _ _ (byte_lt _)

def isCont (c : UInt8) : Prop := c.toNat / 64 = 2

theorem wid_cont (l : List UInt8) (j : Nat) (h0 : 0 < j) (h : j < wid l) : isCont (l.getD j 0) := by
  obtain ⟨g1, g2, g3⟩ := decN_cont l.length (l.getD 0 0).toNat (l.getD 1 0).toNat (l.getD 2 0).toNat (l.getD 3 0).toNat
  have h4 := wid_le4 l
  unfold isCont
  have hj : j = 1 ∨ j = 2 ∨ j = 3 := by omega
  rcases hj with rfl | rfl | rfl
  · exact (g1 (by exact h)).1
  · exact g2 (by exact h)
  · exact g3 (by exact h)

theorem dec_of_cont (l : List UInt8) (h : isCont (l.getD 0 0)) : dec l = (65533, 1) := decN_of_cont _ _ _ _ _ h

theorem wid_drop (l : List UInt8) (j : Nat) (h0 : 0 < j) (h : j < wid l) : wid (l.drop j) = 1 := by
  unfold wid
  rw [dec_of_cont]
  have := wid_cont l j h0 h
  simpa [List.getD_eq_getElem?_getD] using this

/-- Of some bytes, cut short: if the rune fits, it is the same. -/
theorem dec_cut (u b : List UInt8) (hu : u ≠ []) (h : wid (u ++ b) ≤ u.length) : dec u = dec (u ++ b) := by
  unfold dec
  have e : ∀ k, k < u.length → (u ++ b).getD k 0 = u.getD k 0 := by
    intro k hk
    simp [List.getD_eq_getElem?_getD, List.getElem?_append_left hk]
  have h0 : 0 < u.length := List.length_pos_iff.2 hu
  have := decN_cut u.length (u ++ b).length ((u ++ b).getD 0 0).toNat ((u ++ b).getD 1 0).toNat ((u ++ b).getD 2 0).toNat ((u ++ b).getD 3 0).toNat (u.getD 1 0).toNat (u.getD 2 0).toNat (u.getD 3 0).toNat (by omega) (by simp) (fun h => by rw [e _ h]) (fun h => by rw [e _ h]) (fun h => by rw [e _ h]) h
  rw [← this, e 0 h0]

theorem wid_cut (u b : List UInt8) (hu : u ≠ []) (h : wid (u ++ b) ≤ u.length) : wid u = wid (u ++ b) := by
  unfold wid; rw [dec_cut u b hu h]

theorem decN_ext (n m b0 b1 b2 b3 c1 c2 c3 : Nat) (hm : n ≤ m) (h1 : 1 < n → c1 = b1) (h2 : 2 < n → c2 = b2) (_h3 : 3 < n → c3 = b3)
    (hw : 1 < (decodeN n b0 c1 c2 c3).2) : (decodeN m b0 b1 b2 b3).2 ≤ n := by
  by_cases g1 : 1 < n
  · by_cases g2 : 2 < n
    · by_cases g3 : 3 < n
      · have := (decN_pos m b0 b1 b2 b3).2
        omega
      · obtain rfl := h1 g1; obtain rfl := h2 g2
        have e1 : 1 < m := by omega
        have e2 : 2 < m := by omega
        revert hw
        simp only [decodeN, g1, g2, g3, e1, e2, true_and, false_and, and_false, if_false]
        repeat' split
        all_goals first | (intro hw; simp at hw; done) | (intro hw; simp; omega) | (exfalso; omega)
    · obtain rfl := h1 g1
      have e1 : 1 < m := by omega
      revert hw
      simp only [decodeN, g1, g2, e1, true_and, false_and, and_false, if_false]
      have g3 : ¬ 3 < n := by omega
      repeat' split
      all_goals first | (intro hw; simp at hw; done) | (intro hw; simp; omega) | (exfalso; omega)
  · revert hw
    have g2 : ¬ 2 < n := by omega
    have g3 : ¬ 3 < n := by omega
    simp only [decodeN, g1, g2, g3, false_and, and_false, if_false]
    repeat' split
    all_goals first | (intro hw; simp at hw; done) | (exfalso; omega)

/-- If it does not fit, there are only faults. -/
theorem wid_cross (u b : List UInt8) (hu : u ≠ []) (h : u.length < wid (u ++ b)) : wid u = 1 := by
  have e : ∀ k, k < u.length → (u ++ b).getD k 0 = u.getD k 0 := by
    intro k hk
    simp [List.getD_eq_getElem?_getD, List.getElem?_append_left hk]
  have h0 : 0 < u.length := List.length_pos_iff.2 hu
  have hp := wid_pos u
  apply Decidable.byContradiction
  intro hne
  have hw : 1 < wid u := by omega
  have := decN_ext u.length (u ++ b).length ((u ++ b).getD 0 0).toNat ((u ++ b).getD 1 0).toNat ((u ++ b).getD 2 0).toNat ((u ++ b).getD 3 0).toNat (u.getD 1 0).toNat (u.getD 2 0).toNat (u.getD 3 0).toNat (by simp) (fun h => by rw [e _ h]) (fun h => by rw [e _ h]) (fun h => by rw [e _ h]) (by rw [e 0 h0]; exact hw)
  have h' : wid (u ++ b) ≤ u.length := this
  omega

/-- The rune hangs on four bytes alone. -/
theorem dec_take (u b c : List UInt8) (hu : u ≠ []) (h : b.take 3 = c.take 3) : dec (u ++ b) = dec (u ++ c) := by
  have key : ∀ d : List UInt8, dec (u ++ d) = dec (u ++ d.take 3) := by
    intro d
    have h0 : 0 < u.length := List.length_pos_iff.2 hu
    rw [← List.take_append_drop 3 d, ← List.append_assoc]
    by_cases hd : d.length ≤ 3
    · rw [List.drop_of_length_le hd]; simp [List.take_take]
    · refine (dec_cut _ _ (by simp [hu]) ?_).symm.trans (by simp)
      have := wid_le4 (u ++ List.take 3 d ++ List.drop 3 d)
      simp only [List.length_append, List.length_take]
      omega
  rw [key b, key c, h]

/-- A sum over the places of some bytes: what the rune that would begin there says. -/
def S (f : Nat → Nat) : List UInt8 → Nat
  | [] => 0
  | c :: r => f (wid (c :: r)) + S f r

/-- The same, where more bytes stand behind. -/
def P (f : Nat → Nat) (b : List UInt8) : List UInt8 → Nat
  | [] => 0
  | c :: r => f (wid (c :: r ++ b)) + P f b r

def tl (a : List UInt8) : List UInt8 := a.drop (a.length - 3)
def hd (a : List UInt8) : List UInt8 := a.take 3

theorem S_append (f : Nat → Nat) (a b : List UInt8) : S f (a ++ b) = P f b a + S f b := by
  induction a with
  | nil => simp [P]
  | cons c r ih => simp only [List.cons_append, S, P, ih]; omega
theorem S_eq_P (f : Nat → Nat) (a : List UInt8) : S f a = P f [] a := by
  have := S_append f a []
  simpa [S] using this
theorem P_take (f : Nat → Nat) (a b c : List UInt8) (h : b.take 3 = c.take 3) : P f b a = P f c a := by
  induction a with
  | nil => rfl
  | cons x r ih => simp only [P, ih]; unfold wid; rw [dec_take (x :: r) b c (by simp) h]
theorem tl_cons (c : UInt8) (r : List UInt8) (h : 3 ≤ r.length) : tl (c :: r) = tl r := by
  unfold tl
  rw [show (c :: r).length - 3 = (r.length - 3) + 1 from by simp; omega]
  simp
theorem tl_short (a : List UInt8) (h : a.length ≤ 3) : tl a = a := by
  unfold tl
  rw [show a.length - 3 = 0 from by omega]
  simp
theorem P_tail (f : Nat → Nat) (b : List UInt8) (a : List UInt8) : P f b a + P f [] (tl a) = P f [] a + P f b (tl a) := by
  induction a with
  | nil => simp [tl, P]
  | cons c r ih =>
    by_cases h : 3 ≤ r.length
    · rw [tl_cons c r h]
      have e : wid (c :: r ++ b) = wid (c :: r) := by
        refine (wid_cut (c :: r) b (by simp) ?_).symm
        have := wid_le4 (c :: r ++ b)
        simp only [List.length_cons]
        omega
      simp only [P, List.append_nil, e]
      omega
    · rw [tl_short _ (by simp; omega)]; omega
theorem take_hd (b : List UInt8) : (hd b).take 3 = b.take 3 := by simp [hd, List.take_take]
/-- What stands at the seam of two texts is told by three bytes on either side. -/
theorem S_seam (f : Nat → Nat) (a b : List UInt8) : S f (a ++ b) + S f (tl a) + S f (hd b) = S f a + S f b + S f (tl a ++ hd b) := by
  have h1 := P_tail f b a
  have h2 := P_take f (tl a) b (hd b) (take_hd b).symm
  rw [S_append f a b, S_append f (tl a) (hd b), S_eq_P f (tl a), S_eq_P f a]
  omega

/-- A rune's other bytes begin no rune: a sum in which they count nothing goes from rune to rune. -/
theorem S_skip (f : Nat → Nat) (h1 : f 1 = 0) (l : List UInt8) (hl : l ≠ []) : S f l = f (wid l) + S f (l.drop (wid l)) := by
  have key : ∀ k j : Nat, 0 < j → j + k = wid l → S f (l.drop j) = S f (l.drop (wid l)) := by
    intro k
    induction k with
    | zero => intro j _ hj; rw [← hj]; simp
    | succ k ih =>
      intro j h0 hj
      have hlt : j < l.length := by have := wid_le l hl; omega
      rw [List.drop_eq_getElem_cons hlt]
      simp only [S]
      rw [← List.drop_eq_getElem_cons hlt, wid_drop l j h0 (by omega), h1, ih (j + 1) (by omega) (by omega)]
      omega
  have hp := wid_pos l
  have := key (wid l - 1) 1 (by omega) (by omega)
  cases l with
  | nil => exact (hl rfl).elim
  | cons c r =>
    simp only [S]
    rw [← this]
    simp
def ex (w : Nat) : Nat := w - 1
def four (w : Nat) : Nat := if w = 4 then 1 else 0

theorem S_ex_le (n : Nat) : ∀ l : List UInt8, l.length ≤ n → S ex l ≤ l.length := by
  induction n with
  | zero => intro l hl; cases l with
    | nil => simp [S]
    | cons c r => simp at hl
  | succ n ih =>
    intro l hl
    by_cases h : l = []
    · subst h; simp [S]
    · have hp := wid_pos l
      have hw := wid_le l h
      rw [S_skip ex rfl l h]
      have := ih (l.drop (wid l)) (by simp; omega)
      simp only [List.length_drop] at this
      unfold ex at *
      omega
theorem S_ex (l : List UInt8) : S ex l ≤ l.length := S_ex_le l.length l (Nat.le_refl _)

/-- How many runes; how many units. -/
def runes (l : List UInt8) : Nat := l.length - S ex l
def units (l : List UInt8) : Nat := runes l + S four l

theorem S_four_le (l : List UInt8) : S four l ≤ l.length := by
  induction l with
  | nil => simp [S]
  | cons c r ih => simp only [S, List.length_cons]; unfold four at *; split <;> omega

/-- Is a place an edge? -/
def edge (l : List UInt8) (p : Nat) : Prop := ∀ j, j < p → j + wid (l.drop j) ≤ p

theorem P_cost (b a : List UInt8) : ∃ c, P ex b a = P ex [] a + c ∧ c ≤ 3 ∧ (c = 0 ↔ edge (a ++ b) a.length) := by
  induction a with
  | nil => exact ⟨0, by simp [P], by omega, by simp [edge]⟩
  | cons x r ih =>
    obtain ⟨c, h1, h2, h3⟩ := ih
    have hp := wid_pos (x :: r ++ b)
    have h4 := wid_le4 (x :: r ++ b)
    by_cases hw : wid (x :: r ++ b) ≤ (x :: r).length
    · refine ⟨c, ?_, h2, h3.trans ?_⟩
      · simp only [P, List.append_nil, h1, wid_cut (x :: r) b (by simp) hw]; omega
      · constructor
        · intro h j hj
          cases j with
          | zero => simpa using hw
          | succ j => have := h j (by simp at hj; omega); simp at *; omega
        · intro h j hj
          have := h (j + 1) (by simp; omega)
          simp at *; omega
    · have hw' : (x :: r).length < wid (x :: r ++ b) := by omega
      have e1 := wid_cross (x :: r) b (by simp) hw'
      have hc : c = 0 := h3.2 (fun j hj => by
        have := wid_drop (x :: r ++ b) (j + 1) (by omega) (by simp at hw' ⊢; omega)
        simp at this
        rw [this]; omega)
      subst hc
      refine ⟨wid (x :: r ++ b) - 1, ?_, by omega, ?_⟩
      · simp only [P, List.append_nil, h1, e1]; unfold ex; omega
      · constructor
        · intro h
          rw [List.length_cons] at hw'
          omega
        · intro h
          have := h 0 (by simp)
          simp at this hw'; omega

/-- What a seam costs. -/
theorem runes_cost (a b : List UInt8) : ∃ c, runes a + runes b = runes (a ++ b) + c ∧ c ≤ 3 ∧ (c = 0 ↔ edge (a ++ b) a.length) := by
  obtain ⟨c, h1, h2, h3⟩ := P_cost b a
  refine ⟨c, ?_, h2, h3⟩
  have ha := S_ex a
  have hb := S_ex b
  have hab := S_ex (a ++ b)
  have e := S_append ex a b
  rw [h1, ← S_eq_P] at e
  unfold runes
  simp only [List.length_append] at *
  omega

theorem tl_hd_len (a b : List UInt8) : (tl a ++ hd b).length = (tl a).length + (hd b).length := by simp

theorem runes_seam (a b : List UInt8) : runes (a ++ b) + runes (tl a) + runes (hd b) = runes a + runes b + runes (tl a ++ hd b) := by
  have h := S_seam ex a b
  have h1 := S_ex a; have h2 := S_ex b; have h3 := S_ex (a ++ b); have h4 := S_ex (tl a); have h5 := S_ex (hd b); have h6 := S_ex (tl a ++ hd b)
  unfold runes
  simp only [List.length_append] at *
  omega
theorem units_seam (a b : List UInt8) : units (a ++ b) + units (tl a) + units (hd b) = units a + units b + units (tl a ++ hd b) := by
  have h := S_seam four a b
  have h' := runes_seam a b
  unfold units
  omega

/-- The places of the runes: the rune, where it begins, where it ends. -/
def marks : Nat → List UInt8 → Nat → List (Nat × Nat × Nat)
  | 0, _, _ => []
  | n + 1, l, p => if l = [] then [] else (run l, p, p + wid l) :: marks n (l.drop (wid l)) (p + wid l)

theorem marks_edge (n : Nat) : ∀ (l : List UInt8) (p : Nat), l.length ≤ n → ∀ q, (∃ m ∈ marks n l p, m.2.1 = q) ↔ (p ≤ q ∧ q < p + l.length ∧ edge l (q - p)) := by
  induction n with
  | zero =>
    intro l p hl q
    have : l = [] := List.length_eq_zero_iff.1 (by omega)
    subst this
    simp [marks]
    omega
  | succ n ih =>
    intro l p hl q
    unfold marks
    by_cases h : l = []
    · subst h; simp; omega
    · rw [if_neg h]
      have hp := wid_pos l
      have hw := wid_le l h
      have hi := ih (l.drop (wid l)) (p + wid l) (by simp; omega) q
      simp only [List.length_drop] at hi
      constructor
      · rintro ⟨m, hm, rfl⟩
        simp only [List.mem_cons] at hm
        rcases hm with rfl | hm
        · refine ⟨Nat.le_refl _, by have := List.length_pos_iff.2 h; simp; omega, ?_⟩
          intro j hj; simp at hj
        · obtain ⟨g1, g2, g3⟩ := hi.1 ⟨m, hm, rfl⟩
          refine ⟨by omega, by omega, ?_⟩
          intro j hj
          by_cases hj2 : wid l ≤ j
          · have := g3 (j - wid l) (by omega)
            rw [List.drop_drop, show wid l + (j - wid l) = j from by omega] at this
            omega
          · by_cases hj0 : j = 0
            · subst hj0; simp; omega
            · rw [wid_drop l j (by omega) (by omega)]; omega
      · rintro ⟨g1, g2, g3⟩
        by_cases hq : q = p
        · subst hq; exact ⟨_, List.mem_cons_self, rfl⟩
        · have h0 := g3 0 (by omega)
          simp at h0
          obtain ⟨m, hm, e⟩ := hi.2 ⟨by omega, by omega, fun j hj => by
            have := g3 (wid l + j) (by omega)
            rw [List.drop_drop]
            omega⟩
          exact ⟨m, List.mem_cons_of_mem _ hm, e⟩

end Go.Rp
