/-
 Plain facts on bytes that are read as runes: how many runes and units some bytes have, what a seam costs, where the edges are. Plain facts on the places of runes: where they begin, how many stand ahead of a place. Plain facts on elements of a text: their order, and what joins. Plain facts on the runes and faults of a text, and on the text that they make. The forms of a text in plain words, over any tables that are as they should be: a form of a form is a form. What a form keeps: its faults, plain texts; where a text may be cut.
-/
import Derived.Lib.DecodeN
import Derived.Lib.DecodeNEq
section
namespace Go.Rp
open Go.Lib

/-- The rune at the head of some bytes, and its width. -/
def dec (l : List UInt8) : Nat × Nat := decodeN l.length (l.getD 0 0).toNat (l.getD 1 0).toNat (l.getD 2 0).toNat (l.getD 3 0).toNat
def wid (l : List UInt8) : Nat := (dec l).2
def run (l : List UInt8) : Nat := (dec l).1

theorem decN_cut (n m b0 b1 b2 b3 c1 c2 c3 : Nat) (hn : 1 ≤ n) (hm : n ≤ m) (h1 : 1 < n → c1 = b1) (h2 : 2 < n → c2 = b2) (h3 : 3 < n → c3 = b3)
  (hw : (decodeN m b0 b1 b2 b3).2 ≤ n) : decodeN n b0 c1 c2 c3 = decodeN m b0 b1 b2 b3 := by
 by_cases g1 : 1 < n
 ·by_cases g2 : 2 < n
  ·by_cases g3 : 3 < n
   ·obtain rfl := h1 g1; obtain rfl := h2 g2; obtain rfl := h3 g3
    have e1 : 1 < m := by omega
    have e2 : 2 < m := by omega
    have e3 : 3 < m := by omega
    simp only [decodeN, g1, g2, g3, e1, e2, e3]
   ·obtain rfl := h1 g1; obtain rfl := h2 g2
    have e1 : 1 < m := by omega
    have e2 : 2 < m := by omega
    revert hw
    simp only [decodeN, g1, g2, g3, e1, e2, true_and, false_and, and_false, if_false]
    repeat' split
    all_goals first | (intro _; rfl) | (intro hw; simp at hw; omega) | (exfalso; omega)
  ·obtain rfl := h1 g1
   have e1 : 1 < m := by omega
   revert hw
   simp only [decodeN, g1, g2, e1, true_and, false_and, and_false, if_false]
   have g3 : ¬ 3 < n := by omega
   repeat' split
   all_goals first | (intro _; rfl) | (intro hw; simp at hw; omega) | (exfalso; omega)
 ·revert hw
  have g2 : ¬ 2 < n := by omega
  have g3 : ¬ 3 < n := by omega
  simp only [decodeN, g1, g2, g3, false_and, and_false, if_false]
  repeat' split
  all_goals first | (intro _; rfl) | (intro hw; simp at hw; omega) | (exfalso; omega)

theorem decN_pos (n b0 b1 b2 b3 : Nat) : 1 ≤ (decodeN n b0 b1 b2 b3).2 ∧ (decodeN n b0 b1 b2 b3).2 ≤ 4 := by
 simp only [decodeN]
 repeat' split
 all_goals simp

theorem decN_le (n b0 b1 b2 b3 : Nat) (hn : 1 ≤ n) : (decodeN n b0 b1 b2 b3).2 ≤ n := by
 simp only [decodeN]
 repeat' split
 all_goals simp
 all_goals omega

theorem decN_cont (n b0 b1 b2 b3 : Nat) : (1 < (decodeN n b0 b1 b2 b3).2 → b1 / 64 = 2 ∧ 192 ≤ b0) ∧ (2 < (decodeN n b0 b1 b2 b3).2 → b2 / 64 = 2) ∧ (3 < (decodeN n b0 b1 b2 b3).2 → b3 / 64 = 2) := by
 simp only [decodeN]
 repeat' split
 all_goals simp
 all_goals omega

theorem decN_of_cont (n b0 b1 b2 b3 : Nat) (h : b0 / 64 = 2) : decodeN n b0 b1 b2 b3 = (65533, 1) := by
 simp only [decodeN]
 repeat' split
 all_goals first | rfl | (exfalso; omega)

theorem decN_four (n b0 b1 b2 b3 : Nat) (h0 : b0 < 256) : 65535 < (decodeN n b0 b1 b2 b3).1 ↔ (decodeN n b0 b1 b2 b3).2 = 4 := by
 simp only [decodeN]
 repeat' split
 all_goals simp
 all_goals omega

theorem decN_max (n b0 b1 b2 b3 : Nat) (h0 : b0 < 256) : (decodeN n b0 b1 b2 b3).1 ≤ 1114111 := by
 simp only [decodeN]
 repeat' split
 all_goals simp
 all_goals omega

theorem byte_lt (b : UInt8) : b.toNat < 256 := b.toNat_lt

theorem dec_at (s : ByteArray) (i : Nat) : Utf8.decode s i = dec (s.data.toList.drop i) := by
 rw [decode_at]
 unfold dec
 have g : ∀ k, s.get! (i + k) = (s.data.toList.drop i).getD k 0 := by
  intro k
  simp only [ByteArray.get!, List.getD_eq_getElem?_getD, List.getElem?_drop, Array.getElem?_toList, Array.getElem!_eq_getD, Array.getD_eq_getD_getElem?]
  rfl
 have g0 := g 0
 simp only [Nat.add_zero] at g0
 rw [g0, g 1, g 2, g 3]
 simp only [List.length_drop, Array.length_toList]
 rfl

theorem wid_pos (l : List UInt8) : 1 ≤ wid l := (decN_pos _ _ _ _ _).1
theorem wid_le4 (l : List UInt8) : wid l ≤ 4 := (decN_pos _ _ _ _ _).2
theorem wid_le (l : List UInt8) (h : l ≠ []) : wid l ≤ l.length := decN_le _ _ _ _ _ (by cases l <;> simp_all)
theorem run_four (l : List UInt8) : 65535 < run l ↔ wid l = 4 := decN_four _ _ _ _ _ (byte_lt _)
theorem run_max (l : List UInt8) : run l ≤ 1114111 := decN_max _ _ _ _ _ (byte_lt _)

def isCont (c : UInt8) : Prop := c.toNat / 64 = 2

theorem wid_cont (l : List UInt8) (j : Nat) (h0 : 0 < j) (h : j < wid l) : isCont (l.getD j 0) := by
 obtain ⟨g1, g2, g3⟩ := decN_cont l.length (l.getD 0 0).toNat (l.getD 1 0).toNat (l.getD 2 0).toNat (l.getD 3 0).toNat
 have h4 := wid_le4 l
 unfold isCont
 have hj : j = 1 ∨ j = 2 ∨ j = 3 := by omega
 rcases hj with rfl | rfl | rfl
 ·exact (g1 (by exact h)).1
 ·exact g2 (by exact h)
 ·exact g3 (by exact h)

theorem dec_of_cont (l : List UInt8) (h : isCont (l.getD 0 0)) : dec l = (65533, 1) := decN_of_cont _ _ _ _ _ h

theorem wid_drop (l : List UInt8) (j : Nat) (h0 : 0 < j) (h : j < wid l) : wid (l.drop j) = 1 := by
 unfold wid
 rw [dec_of_cont]
 have := wid_cont l j h0 h
 simpa [List.getD_eq_getElem?_getD] using this

/-- Of some bytes, cut short: if the rune fits, it is the same. -/
theorem dec_cut (u b : List UInt8) (hu : u ≠ []) (h : wid (u ++ b) ≤ u.length) : dec u = dec (u ++ b) := by
 unfold dec
 have e : ∀ k, k < u.length → (u ++ b).getD k 0 = u.getD k 0 := by
  intro k hk
  simp [List.getD_eq_getElem?_getD, List.getElem?_append_left hk]
 have h0 : 0 < u.length := List.length_pos_iff.2 hu
 have := decN_cut u.length (u ++ b).length ((u ++ b).getD 0 0).toNat ((u ++ b).getD 1 0).toNat ((u ++ b).getD 2 0).toNat ((u ++ b).getD 3 0).toNat (u.getD 1 0).toNat (u.getD 2 0).toNat (u.getD 3 0).toNat (by omega) (by simp) (fun h => by rw [e _ h]) (fun h => by rw [e _ h]) (fun h => by rw [e _ h]) h
 rw [← this, e 0 h0]

theorem wid_cut (u b : List UInt8) (hu : u ≠ []) (h : wid (u ++ b) ≤ u.length) : wid u = wid (u ++ b) := by
 unfold wid; rw [dec_cut u b hu h]

theorem decN_ext (n m b0 b1 b2 b3 c1 c2 c3 : Nat) (hm : n ≤ m) (h1 : 1 < n → c1 = b1) (h2 : 2 < n → c2 = b2) (_h3 : 3 < n → c3 = b3)
  (hw : 1 < (decodeN n b0 c1 c2 c3).2) : (decodeN m b0 b1 b2 b3).2 ≤ n := by
 by_cases g1 : 1 < n
 ·by_cases g2 : 2 < n
  ·by_cases g3 : 3 < n
   ·have := (decN_pos m b0 b1 b2 b3).2
    omega
   ·obtain rfl := h1 g1; obtain rfl := h2 g2
    have e1 : 1 < m := by omega
    have e2 : 2 < m := by omega
    revert hw
    simp only [decodeN, g1, g2, g3, e1, e2, true_and, false_and, and_false, if_false]
    repeat' split
    all_goals first | (intro hw; simp at hw; done) | (intro hw; simp; omega) | (exfalso; omega)
  ·obtain rfl := h1 g1
   have e1 : 1 < m := by omega
   revert hw
   simp only [decodeN, g1, g2, e1, true_and, false_and, and_false, if_false]
   have g3 : ¬ 3 < n := by omega
   repeat' split
   all_goals first | (intro hw; simp at hw; done) | (intro hw; simp; omega) | (exfalso; omega)
 ·revert hw
  have g2 : ¬ 2 < n := by omega
  have g3 : ¬ 3 < n := by omega
  simp only [decodeN, g1, g2, g3, false_and, and_false, if_false]
  repeat' split
  all_goals first | (intro hw; simp at hw; done) | (exfalso; omega)

/-- If it does not fit, there are only faults. -/
theorem wid_cross (u b : List UInt8) (hu : u ≠ []) (h : u.length < wid (u ++ b)) : wid u = 1 := by
 have e : ∀ k, k < u.length → (u ++ b).getD k 0 = u.getD k 0 := by
  intro k hk
  simp [List.getD_eq_getElem?_getD, List.getElem?_append_left hk]
 have h0 : 0 < u.length := List.length_pos_iff.2 hu
 have hp := wid_pos u
 apply Decidable.byContradiction
 intro hne
 have hw : 1 < wid u := by omega
 have := decN_ext u.length (u ++ b).length ((u ++ b).getD 0 0).toNat ((u ++ b).getD 1 0).toNat ((u ++ b).getD 2 0).toNat ((u ++ b).getD 3 0).toNat (u.getD 1 0).toNat (u.getD 2 0).toNat (u.getD 3 0).toNat (by simp) (fun h => by rw [e _ h]) (fun h => by rw [e _ h]) (fun h => by rw [e _ h]) (by rw [e 0 h0]; exact hw)
 have h' : wid (u ++ b) ≤ u.length := this
 omega

/-- The rune hangs on four bytes alone. -/
theorem dec_take (u b c : List UInt8) (hu : u ≠ []) (h : b.take 3 = c.take 3) : dec (u ++ b) = dec (u ++ c) := by
 have key : ∀ d : List UInt8, dec (u ++ d) = dec (u ++ d.take 3) := by
  intro d
  have h0 : 0 < u.length := List.length_pos_iff.2 hu
  rw [← List.take_append_drop 3 d, ← List.append_assoc]
  by_cases hd : d.length ≤ 3
  ·rw [List.drop_of_length_le hd]; simp [List.take_take]
  ·refine (dec_cut _ _ (by simp [hu]) ?_).symm.trans (by simp)
   have := wid_le4 (u ++ List.take 3 d ++ List.drop 3 d)
   simp only [List.length_append, List.length_take]
   omega
 rw [key b, key c, h]

/-- A sum over the places of some bytes: what the rune that would begin there says. -/
def S (f : Nat → Nat) : List UInt8 → Nat
 | [] => 0
 | c :: r => f (wid (c :: r)) + S f r

/-- The same, where more bytes stand behind. -/
def P (f : Nat → Nat) (b : List UInt8) : List UInt8 → Nat
 | [] => 0
 | c :: r => f (wid (c :: r ++ b)) + P f b r

def tl (a : List UInt8) : List UInt8 := a.drop (a.length - 3)
def hd (a : List UInt8) : List UInt8 := a.take 3

theorem S_append (f : Nat → Nat) (a b : List UInt8) : S f (a ++ b) = P f b a + S f b := by
 induction a with
 | nil => simp [P]
 | cons c r ih => simp only [List.cons_append, S, P, ih]; omega
theorem S_eq_P (f : Nat → Nat) (a : List UInt8) : S f a = P f [] a := by
 have := S_append f a []
 simpa [S] using this
theorem P_take (f : Nat → Nat) (a b c : List UInt8) (h : b.take 3 = c.take 3) : P f b a = P f c a := by
 induction a with
 | nil => rfl
 | cons x r ih => simp only [P, ih]; unfold wid; rw [dec_take (x :: r) b c (by simp) h]
theorem tl_cons (c : UInt8) (r : List UInt8) (h : 3 ≤ r.length) : tl (c :: r) = tl r := by
 unfold tl
 rw [show (c :: r).length - 3 = (r.length - 3) + 1 from by simp; omega]
 simp
theorem tl_short (a : List UInt8) (h : a.length ≤ 3) : tl a = a := by
 unfold tl
 rw [show a.length - 3 = 0 from by omega]
 simp
theorem P_tail (f : Nat → Nat) (b : List UInt8) (a : List UInt8) : P f b a + P f [] (tl a) = P f [] a + P f b (tl a) := by
 induction a with
 | nil => simp [tl, P]
 | cons c r ih =>
  by_cases h : 3 ≤ r.length
  ·rw [tl_cons c r h]
   have e : wid (c :: r ++ b) = wid (c :: r) := by
    refine (wid_cut (c :: r) b (by simp) ?_).symm
    have := wid_le4 (c :: r ++ b)
    simp only [List.length_cons]
    omega
   simp only [P, List.append_nil, e]
   omega
  ·rw [tl_short _ (by simp; omega)]; omega
theorem take_hd (b : List UInt8) : (hd b).take 3 = b.take 3 := by simp [hd, List.take_take]
/-- What stands at the seam of two texts is told by three bytes on either side. -/
theorem S_seam (f : Nat → Nat) (a b : List UInt8) : S f (a ++ b) + S f (tl a) + S f (hd b) = S f a + S f b + S f (tl a ++ hd b) := by
 have h1 := P_tail f b a
 have h2 := P_take f (tl a) b (hd b) (take_hd b).symm
 rw [S_append f a b, S_append f (tl a) (hd b), S_eq_P f (tl a), S_eq_P f a]
 omega

/-- A rune's other bytes begin no rune: a sum in which they count nothing goes from rune to rune. -/
theorem S_skip (f : Nat → Nat) (h1 : f 1 = 0) (l : List UInt8) (hl : l ≠ []) : S f l = f (wid l) + S f (l.drop (wid l)) := by
 have key : ∀ k j : Nat, 0 < j → j + k = wid l → S f (l.drop j) = S f (l.drop (wid l)) := by
  intro k
  induction k with
  | zero => intro j _ hj; rw [← hj]; simp
  | succ k ih =>
   intro j h0 hj
   have hlt : j < l.length := by have := wid_le l hl; omega
   rw [List.drop_eq_getElem_cons hlt]
   simp only [S]
   rw [← List.drop_eq_getElem_cons hlt, wid_drop l j h0 (by omega), h1, ih (j + 1) (by omega) (by omega)]
   omega
 have hp := wid_pos l
 have := key (wid l - 1) 1 (by omega) (by omega)
 cases l with
 | nil => exact (hl rfl).elim
 | cons c r =>
  simp only [S]
  rw [← this]
  simp
def ex (w : Nat) : Nat := w - 1
def four (w : Nat) : Nat := if w = 4 then 1 else 0

theorem S_ex_le (n : Nat) : ∀ l : List UInt8, l.length ≤ n → S ex l ≤ l.length := by
 induction n with
 | zero => intro l hl; cases l with
  | nil => simp [S]
  | cons c r => simp at hl
 | succ n ih =>
  intro l hl
  by_cases h : l = []
  ·subst h; simp [S]
  ·have hp := wid_pos l
   have hw := wid_le l h
   rw [S_skip ex rfl l h]
   have := ih (l.drop (wid l)) (by simp; omega)
   simp only [List.length_drop] at this
   unfold ex at *
   omega
theorem S_ex (l : List UInt8) : S ex l ≤ l.length := S_ex_le l.length l (Nat.le_refl _)

/-- How many runes; how many units. -/
def runes (l : List UInt8) : Nat := l.length - S ex l
def units (l : List UInt8) : Nat := runes l + S four l

theorem S_four_le (l : List UInt8) : S four l ≤ l.length := by
 induction l with
 | nil => simp [S]
 | cons c r ih => simp only [S, List.length_cons]; unfold four at *; split <;> omega

/-- Is a place an edge? -/
def edge (l : List UInt8) (p : Nat) : Prop := ∀ j, j < p → j + wid (l.drop j) ≤ p

theorem P_cost (b a : List UInt8) : ∃ c, P ex b a = P ex [] a + c ∧ c ≤ 3 ∧ (c = 0 ↔ edge (a ++ b) a.length) := by
 induction a with
 | nil => exact ⟨0, by simp [P], by omega, by simp [edge]⟩
 | cons x r ih =>
  obtain ⟨c, h1, h2, h3⟩ := ih
  have hp := wid_pos (x :: r ++ b)
  have h4 := wid_le4 (x :: r ++ b)
  by_cases hw : wid (x :: r ++ b) ≤ (x :: r).length
  ·refine ⟨c, ?_, h2, h3.trans ?_⟩
   ·simp only [P, List.append_nil, h1, wid_cut (x :: r) b (by simp) hw]; omega
   ·constructor
    ·intro h j hj
     cases j with
     | zero => simpa using hw
     | succ j => have := h j (by simp at hj; omega); simp at *; omega
    ·intro h j hj
     have := h (j + 1) (by simp; omega)
     simp at *; omega
  ·have hw' : (x :: r).length < wid (x :: r ++ b) := by omega
   have e1 := wid_cross (x :: r) b (by simp) hw'
   have hc : c = 0 := h3.2 (fun j hj => by
    have := wid_drop (x :: r ++ b) (j + 1) (by omega) (by simp at hw' ⊢; omega)
    simp at this
    rw [this]; omega)
   subst hc
   refine ⟨wid (x :: r ++ b) - 1, ?_, by omega, ?_⟩
   ·simp only [P, List.append_nil, h1, e1]; unfold ex; omega
   ·constructor
    ·intro h
     rw [List.length_cons] at hw'
     omega
    ·intro h
     have := h 0 (by simp)
     simp at this hw'; omega

/-- What a seam costs. -/
theorem runes_cost (a b : List UInt8) : ∃ c, runes a + runes b = runes (a ++ b) + c ∧ c ≤ 3 ∧ (c = 0 ↔ edge (a ++ b) a.length) := by
 obtain ⟨c, h1, h2, h3⟩ := P_cost b a
 refine ⟨c, ?_, h2, h3⟩
 have ha := S_ex a
 have hb := S_ex b
 have hab := S_ex (a ++ b)
 have e := S_append ex a b
 rw [h1, ← S_eq_P] at e
 unfold runes
 simp only [List.length_append] at *
 omega

theorem tl_hd_len (a b : List UInt8) : (tl a ++ hd b).length = (tl a).length + (hd b).length := by simp

theorem runes_seam (a b : List UInt8) : runes (a ++ b) + runes (tl a) + runes (hd b) = runes a + runes b + runes (tl a ++ hd b) := by
 have h := S_seam ex a b
 have h1 := S_ex a; have h2 := S_ex b; have h3 := S_ex (a ++ b); have h4 := S_ex (tl a); have h5 := S_ex (hd b); have h6 := S_ex (tl a ++ hd b)
 unfold runes
 simp only [List.length_append] at *
 omega
theorem units_seam (a b : List UInt8) : units (a ++ b) + units (tl a) + units (hd b) = units a + units b + units (tl a ++ hd b) := by
 have h := S_seam four a b
 have h' := runes_seam a b
 unfold units
 omega

/-- The places of the runes: the rune, where it begins, where it ends. -/
def marks : Nat → List UInt8 → Nat → List (Nat × Nat × Nat)
 | 0, _, _ => []
 | n + 1, l, p => if l = [] then [] else (run l, p, p + wid l) :: marks n (l.drop (wid l)) (p + wid l)

theorem marks_edge (n : Nat) : ∀ (l : List UInt8) (p : Nat), l.length ≤ n → ∀ q, (∃ m ∈ marks n l p, m.2.1 = q) ↔ (p ≤ q ∧ q < p + l.length ∧ edge l (q - p)) := by
 induction n with
 | zero =>
  intro l p hl q
  have : l = [] := List.length_eq_zero_iff.1 (by omega)
  subst this
  simp [marks]
  omega
 | succ n ih =>
  intro l p hl q
  unfold marks
  by_cases h : l = []
  ·subst h; simp; omega
  ·rw [if_neg h]
   have hp := wid_pos l
   have hw := wid_le l h
   have hi := ih (l.drop (wid l)) (p + wid l) (by simp; omega) q
   simp only [List.length_drop] at hi
   constructor
   ·rintro ⟨m, hm, rfl⟩
    simp only [List.mem_cons] at hm
    rcases hm with rfl | hm
    ·refine ⟨Nat.le_refl _, by have := List.length_pos_iff.2 h; simp; omega, ?_⟩
     intro j hj; simp at hj
    ·obtain ⟨g1, g2, g3⟩ := hi.1 ⟨m, hm, rfl⟩
     refine ⟨by omega, by omega, ?_⟩
     intro j hj
     by_cases hj2 : wid l ≤ j
     ·have := g3 (j - wid l) (by omega)
      rw [List.drop_drop, show wid l + (j - wid l) = j from by omega] at this
      omega
     ·by_cases hj0 : j = 0
      ·subst hj0; simp; omega
      ·rw [wid_drop l j (by omega) (by omega)]; omega
   ·rintro ⟨g1, g2, g3⟩
    by_cases hq : q = p
    ·subst hq; exact ⟨_, List.mem_cons_self, rfl⟩
    ·have h0 := g3 0 (by omega)
     simp at h0
     obtain ⟨m, hm, e⟩ := hi.2 ⟨by omega, by omega, fun j hj => by
      have := g3 (wid l + j) (by omega)
      rw [List.drop_drop]
      omega⟩
     exact ⟨m, List.mem_cons_of_mem _ hm, e⟩

end Go.Rp
end

section
namespace Go.Rp

theorem edge_zero (l : List UInt8) : edge l 0 := fun j hj => by omega
theorem edge_end (l : List UInt8) : edge l l.length := fun j hj => by
 have := wid_le (l.drop j) (by intro e; have := congrArg List.length e; simp at this; omega)
 simp at this
 omega
theorem dec_takes (l : List UInt8) (m : Nat) (h : 4 ≤ m ∨ l.length ≤ m) : dec (l.take m) = dec l := by
 by_cases hl : l.length ≤ m
 ·rw [List.take_of_length_le hl]
 ·have hm : 4 ≤ m := by omega
  match l, hl with
  | [], hl => simp at hl
  | c :: r, hl =>
   obtain ⟨k, rfl⟩ : ∃ k, m = k + 1 := ⟨m - 1, by omega⟩
   rw [List.take_succ_cons]
   have := dec_take [c] (r.take k) r (by simp) (by rw [List.take_take, Nat.min_eq_left (by omega)])
   simpa using this
theorem wid_takes (l : List UInt8) (m : Nat) (h : 4 ≤ m ∨ l.length ≤ m) : wid (l.take m) = wid l := by unfold wid; rw [dec_takes l m h]

open Classical in
/-- The greatest edge up to a place. -/
noncomputable def eb (l : List UInt8) : Nat → Nat
 | 0 => 0
 | k + 1 => if edge l (k + 1) then k + 1 else eb l k
theorem eb_le (l : List UInt8) : ∀ k, eb l k ≤ k
 | 0 => Nat.le_refl _
 | k + 1 => by
  unfold eb
  split
  ·omega
  ·have := eb_le l k; omega
theorem eb_edge (l : List UInt8) : ∀ k, edge l (eb l k)
 | 0 => edge_zero l
 | k + 1 => by
  unfold eb
  split
  ·assumption
  ·exact eb_edge l k
theorem eb_of (l : List UInt8) (k : Nat) (h : edge l k) : eb l k = k := by
 cases k with
 | zero => rfl
 | succ k => unfold eb; rw [if_pos h]
theorem eb_not (l : List UInt8) (k : Nat) (h : ¬ edge l (k + 1)) : eb l (k + 1) = eb l k := by
 conv => lhs; unfold eb
 rw [if_neg h]
theorem eb_mono (l : List UInt8) (a b : Nat) (h : a ≤ b) : eb l a ≤ eb l b := by
 induction b with
 | zero =>
  obtain rfl : a = 0 := by omega
  exact Nat.le_refl _
 | succ b ih =>
  by_cases ha : a = b + 1
  ·subst ha; exact Nat.le_refl _
  ·have := ih (by omega)
   by_cases he : edge l (b + 1)
   ·rw [eb_of l _ he]
    have := eb_le l a
    omega
   ·rw [eb_not l b he]; exact this

theorem take_ne (l : List UInt8) (e : Nat) (he : 0 < e) (h : l ≠ []) : l.take e ≠ [] := by
 obtain ⟨c, r, rfl⟩ := List.exists_cons_of_ne_nil h
 obtain ⟨k, rfl⟩ : ∃ k, e = k + 1 := ⟨e - 1, by omega⟩
 simp
theorem wid_head (l : List UInt8) (e : Nat) (h : l ≠ []) (hw : wid l ≤ e) : dec (l.take e) = dec l := by
 by_cases hl : l.length ≤ e
 ·rw [List.take_of_length_le hl]
 ·have h0 := wid_pos l
  have := dec_cut (l.take e) (l.drop e) (take_ne l e (by omega) h) (by rw [List.take_append_drop, List.length_take]; omega)
  rw [List.take_append_drop] at this
  exact this
theorem marks_fuel (n : Nat) : ∀ (m : Nat) (l : List UInt8) (p : Nat), l.length ≤ n → l.length ≤ m → marks n l p = marks m l p := by
 induction n with
 | zero =>
  intro m l p hn _
  obtain rfl : l = [] := List.length_eq_zero_iff.1 (by omega)
  cases m <;> simp [marks]
 | succ n ih =>
  intro m l p hn hm
  by_cases h : l = []
  ·subst h; cases m <;> simp [marks]
  ·have hp := wid_pos l
   have hl := List.length_pos_iff.2 h
   obtain ⟨m', rfl⟩ : ∃ m', m = m' + 1 := ⟨m - 1, by omega⟩
   simp only [marks, h, if_false]
   rw [ih m' _ _ (by simp; omega) (by simp; omega)]
/-- At an edge the list of the runes falls apart. -/
theorem marks_split (n : Nat) : ∀ (l : List UInt8) (p e : Nat), l.length ≤ n → e ≤ l.length → edge l e → marks n l p = marks n (l.take e) p ++ marks n (l.drop e) (p + e) := by
 induction n with
 | zero => intro l p e hn he _; simp [marks]
 | succ n ih =>
  intro l p e hn he hedge
  by_cases h : l = []
  ·subst h; simp [marks]
  ·by_cases h0 : e = 0
   ·subst h0; simp [marks]
   ·have hp := wid_pos l
    have hw : wid l ≤ e := by have := hedge 0 (by omega); simpa using this
    have hd := wid_head l e h hw
    have hwd : wid (l.take e) = wid l := by unfold wid; rw [hd]
    have hrd : run (l.take e) = run l := by unfold run; rw [hd]
    have hi := ih (l.drop (wid l)) (p + wid l) (e - wid l) (by simp; omega) (by simp; omega) (fun j hj => by
     have := hedge (wid l + j) (by omega)
     rw [List.drop_drop]
     omega)
    have e1 : marks (n + 1) l p = (run l, p, p + wid l) :: marks n (l.drop (wid l)) (p + wid l) := by simp [marks, h]
    have e2 : marks (n + 1) (l.take e) p = (run l, p, p + wid l) :: marks n ((l.take e).drop (wid l)) (p + wid l) := by
     simp only [marks, take_ne l e (by omega) h, if_false, hwd, hrd]
    rw [e1, e2, hi, List.cons_append, List.drop_take, List.drop_drop, show wid l + (e - wid l) = e from by omega, show p + wid l + (e - wid l) = p + e from by omega]
    congr 2
    exact marks_fuel n (n + 1) _ _ (by simp; omega) (by simp; omega)
theorem runes_skip (l : List UInt8) (h : l ≠ []) : runes l = runes (l.drop (wid l)) + 1 := by
 have h1 := S_skip ex rfl l h
 have h2 := S_ex (l.drop (wid l))
 have h3 := wid_le l h
 have h4 := wid_pos l
 unfold runes
 simp only [List.length_drop, ex] at *
 omega
theorem units_skip (l : List UInt8) (h : l ≠ []) : units l = units (l.drop (wid l)) + (if 65535 < run l then 2 else 1) := by
 have h1 := S_skip four rfl l h
 have h2 := runes_skip l h
 have h3 := run_four l
 unfold units
 rw [h1, h2]
 unfold four
 by_cases h4 : wid l = 4
 ·rw [if_pos h4, if_pos (h3.2 h4)]; omega
 ·rw [if_neg h4, if_neg (fun h5 => h4 (h3.1 h5))]; omega
/-- How many units a list of runes has. -/
def unitsOf (M : List (Nat × Nat × Nat)) : Nat := (M.map (fun m => if 65535 < m.1 then 2 else 1)).sum
theorem unitsOf_append (a b : List (Nat × Nat × Nat)) : unitsOf (a ++ b) = unitsOf a + unitsOf b := by simp [unitsOf]
theorem unitsOf_ge (a : List (Nat × Nat × Nat)) : a.length ≤ unitsOf a ∧ unitsOf a ≤ 2 * a.length := by
 induction a with
 | nil => simp [unitsOf]
 | cons x r ih =>
  have : unitsOf (x :: r) = (if 65535 < x.1 then 2 else 1) + unitsOf r := by simp [unitsOf]
  rw [this, List.length_cons]
  split <;> omega
theorem marks_runes (n : Nat) : ∀ (l : List UInt8) (p : Nat), l.length ≤ n → (marks n l p).length = runes l ∧ unitsOf (marks n l p) = units l := by
 induction n with
 | zero =>
  intro l p hn
  obtain rfl : l = [] := List.length_eq_zero_iff.1 (by omega)
  exact ⟨rfl, rfl⟩
 | succ n ih =>
  intro l p hn
  by_cases h : l = []
  ·subst h; exact ⟨rfl, rfl⟩
  ·have hp := wid_pos l
   have hl := List.length_pos_iff.2 h
   obtain ⟨i1, i2⟩ := ih (l.drop (wid l)) (p + wid l) (by simp; omega)
   have e1 : marks (n + 1) l p = (run l, p, p + wid l) :: marks n (l.drop (wid l)) (p + wid l) := by simp [marks, h]
   rw [e1, runes_skip l h, units_skip l h]
   refine ⟨by simp [i1], ?_⟩
   have : unitsOf ((run l, p, p + wid l) :: marks n (l.drop (wid l)) (p + wid l)) = (if 65535 < run l then 2 else 1) + unitsOf (marks n (l.drop (wid l)) (p + wid l)) := by simp [unitsOf]
   rw [this, i2]
   omega
/-- Each rune of the list: what it is, where it ends; what stands ahead of it. -/
theorem marks_get (n : Nat) : ∀ (l : List UInt8) (p i : Nat), l.length ≤ n → ∀ h : i < (marks n l p).length,
  ∃ q, (marks n l p)[i] = (run (l.drop q), p + q, p + q + wid (l.drop q)) ∧ q < l.length ∧ edge l q ∧ (marks n l p).take i = marks n (l.take q) p := by
 induction n with
 | zero => intro l p i hn h; simp [marks] at h
 | succ n ih =>
  intro l p i hn h
  by_cases h0 : l = []
  ·subst h0; simp [marks] at h
  ·have hp := wid_pos l
   have hw := wid_le l h0
   have hl := List.length_pos_iff.2 h0
   have e1 : marks (n + 1) l p = (run l, p, p + wid l) :: marks n (l.drop (wid l)) (p + wid l) := by simp [marks, h0]
   cases i with
   | zero => exact ⟨0, by simp [e1], hl, edge_zero l, by simp [marks]⟩
   | succ i =>
    simp only [e1, List.length_cons] at h
    obtain ⟨q, g1, g2, g3, g4⟩ := ih (l.drop (wid l)) (p + wid l) i (by simp; omega) (by omega)
    have hedge : edge l (wid l + q) := by
     intro j hj
     by_cases hj2 : wid l ≤ j
     ·have := g3 (j - wid l) (by omega)
      rw [List.drop_drop, show wid l + (j - wid l) = j from by omega] at this
      omega
     ·by_cases hj0 : j = 0
      ·subst hj0; simp
      ·rw [wid_drop l j (by omega) (by omega)]; omega
    simp only [List.length_drop] at g2
    refine ⟨wid l + q, ?_, by omega, hedge, ?_⟩
    ·simp only [e1, List.getElem_cons_succ]
     rw [g1, List.drop_drop]
     simp only [Nat.add_assoc]
    ·rw [e1, List.take_succ_cons, g4]
     have hd := wid_head l (wid l + q) h0 (by omega)
     have hwd : wid (l.take (wid l + q)) = wid l := congrArg Prod.snd hd
     have hrd : run (l.take (wid l + q)) = run l := congrArg Prod.fst hd
     simp only [marks, take_ne l (wid l + q) (by omega) h0, if_false, hwd, hrd]
     rw [List.drop_take, show wid l + q - wid l = q from by omega]

/-- How many runes stand ahead of a place, or of the rune in which it is. -/
noncomputable def gR (l : List UInt8) (k : Nat) : Nat := runes (l.take (eb l k))
noncomputable def gU (l : List UInt8) (k : Nat) : Nat := units (l.take (eb l k))
/-- Where a rune begins; behind the last: the end. -/
def pl (l : List UInt8) (i : Nat) : Nat := match (marks l.length l 0)[i]? with
 | some m => m.2.1
 | none => l.length
theorem edges_le (l : List UInt8) (a b : Nat) (ha : edge l a) (_hb : edge l b) (h : a ≤ b) (hl : b ≤ l.length) :
  runes (l.take a) + (b - a) ≥ runes (l.take b) ∧ runes (l.take a) ≤ runes (l.take b) ∧ units (l.take a) ≤ units (l.take b) ∧ (a < b → runes (l.take a) < runes (l.take b) ∧ units (l.take a) < units (l.take b)) := by
 have hab : edge (l.take b) a := by
  intro j hj
  have h1 := ha j hj
  have h2 := wid_head (l.drop j) (b - j) (by intro e; have := congrArg List.length e; simp at this; omega) (by omega)
  rw [List.drop_take]
  unfold wid at *
  rw [h2]
  exact h1
 have hs := marks_split (l.take b).length (l.take b) 0 a (Nat.le_refl _) (by simp; omega) hab
 rw [List.take_take, Nat.min_eq_left h] at hs
 have m1 := marks_runes (l.take b).length (l.take b) 0 (Nat.le_refl _)
 have m2 := marks_runes (l.take b).length (l.take a) 0 (by simp; omega)
 have m3 := marks_runes (l.take b).length ((l.take b).drop a) (0 + a) (by simp)
 rw [hs, List.length_append, unitsOf_append, m2.1, m2.2, m3.1, m3.2] at m1
 have hr : runes ((l.take b).drop a) ≤ b - a := by
  unfold runes
  simp
  omega
 have hr2 : a < b → 0 < runes ((l.take b).drop a) ∧ 0 < units ((l.take b).drop a) := by
  intro hlt
  have hne : (l.take b).drop a ≠ [] := by
   intro e
   have := congrArg List.length e
   simp at this
   omega
  have h1 := runes_skip _ hne
  have h2 : runes ((l.take b).drop a) ≤ units ((l.take b).drop a) := by unfold units; omega
  omega
 refine ⟨by omega, by omega, by omega, fun hlt => ?_⟩
 have := hr2 hlt
 omega
theorem pl_edge (l : List UInt8) (i : Nat) : edge l (pl l i) ∧ pl l i ≤ l.length ∧ (i ≤ (marks l.length l 0).length → runes (l.take (pl l i)) = i ∧ (marks l.length l 0).take i = marks l.length (l.take (pl l i)) 0) := by
 unfold pl
 by_cases h : i < (marks l.length l 0).length
 ·obtain ⟨q, g1, g2, g3, g4⟩ := marks_get l.length l 0 i (Nat.le_refl _) h
  rw [List.getElem?_eq_getElem h, g1]
  simp only [Nat.zero_add]
  refine ⟨g3, by omega, fun _ => ⟨?_, g4⟩⟩
  have := (marks_runes l.length (l.take q) 0 (by simp; omega)).1
  rw [← g4, List.length_take] at this
  omega
 ·rw [List.getElem?_eq_none (by omega)]
  refine ⟨edge_end l, Nat.le_refl _, fun hi => ?_⟩
  obtain rfl : i = (marks l.length l 0).length := by omega
  simp only [List.take_length]
  exact ⟨(marks_runes l.length l 0 (Nat.le_refl _)).1.symm, trivial⟩
theorem gR_pl (l : List UInt8) (i : Nat) (h : i ≤ (marks l.length l 0).length) : gR l (pl l i) = i := by
 unfold gR
 rw [eb_of l _ (pl_edge l i).1]
 exact ((pl_edge l i).2.2 h).1
theorem gU_pl (l : List UInt8) (i : Nat) (h : i ≤ (marks l.length l 0).length) : gU l (pl l i) = unitsOf ((marks l.length l 0).take i) := by
 unfold gU
 rw [eb_of l _ (pl_edge l i).1, ((pl_edge l i).2.2 h).2]
 exact ((marks_runes l.length _ 0 (by simp; omega)).2).symm
theorem gR_mono (l : List UInt8) (a b : Nat) (h : a ≤ b) (hb : b ≤ l.length) : gR l a ≤ gR l b ∧ gU l a ≤ gU l b := by
 have := edges_le l (eb l a) (eb l b) (eb_edge l a) (eb_edge l b) (eb_mono l a b h) (by have := eb_le l b; omega)
 exact ⟨this.2.1, this.2.2.1⟩
theorem gR_low (l : List UInt8) (i k : Nat) (_h : i ≤ (marks l.length l 0).length) (hk : k < pl l i) : gR l k < gR l (pl l i) ∧ gU l k < gU l (pl l i) := by
 have h1 := eb_le l k
 have h2 := pl_edge l i
 have h3 := eb_of l _ h2.1
 have := edges_le l (eb l k) (pl l i) (eb_edge l k) h2.1 (by omega) h2.2.1
 unfold gR gU
 rw [h3]
 exact this.2.2.2 (by omega)
/-- Every edge is where a rune begins, or the end. -/
theorem edge_pl (l : List UInt8) (k : Nat) (h : edge l k) (hk : k ≤ l.length) : pl l (gR l k) = k ∧ gR l k ≤ (marks l.length l 0).length := by
 have hall := (marks_runes l.length l 0 (Nat.le_refl _)).1
 have hg : gR l k ≤ (marks l.length l 0).length := by
  have := edges_le l k l.length h (edge_end l) hk (Nat.le_refl _)
  rw [List.take_length] at this
  unfold gR
  rw [eb_of l k h, hall]
  exact this.2.1
 refine ⟨?_, hg⟩
 have h1 := gR_pl l _ hg
 have h2 := pl_edge l (gR l k)
 have h3 := eb_of l _ h2.1
 have h4 : gR l (pl l (gR l k)) = runes (l.take (pl l (gR l k))) := by show runes (l.take (eb l (pl l (gR l k)))) = _; rw [h3]
 have h5 : gR l k = runes (l.take k) := by conv => lhs; unfold gR; rw [eb_of l k h]
 rcases Nat.lt_trichotomy (pl l (gR l k)) k with hlt | heq | hgt
 ·have := (edges_le l _ k h2.1 h (by omega) hk).2.2.2 hlt
  omega
 ·exact heq
 ·have := (edges_le l k _ h h2.1 (by omega) h2.2.1).2.2.2 hgt
  omega
theorem gR_all (l : List UInt8) : gR l l.length = (marks l.length l 0).length ∧ gU l l.length = unitsOf (marks l.length l 0) := by
 unfold gR gU
 rw [eb_of l _ (edge_end l), List.take_length]
 exact ⟨(marks_runes l.length l 0 (Nat.le_refl _)).1.symm, (marks_runes l.length l 0 (Nat.le_refl _)).2.symm⟩
/-- The runes that end up to a place. -/
theorem marks_upto (l : List UInt8) (k : Nat) (hk : k ≤ l.length) : (marks l.length l 0).filter (fun m => decide (m.2.2 ≤ k)) = marks l.length (l.take (eb l k)) 0 := by
 have hle := eb_le l k
 have hs := marks_split l.length l 0 (eb l k) (Nat.le_refl _) (by omega) (eb_edge l k)
 rw [hs, List.filter_append]
 have f1 : (marks l.length (l.take (eb l k)) 0).filter (fun m => decide (m.2.2 ≤ k)) = marks l.length (l.take (eb l k)) 0 := by
  rw [List.filter_eq_self]
  intro m hm
  obtain ⟨i, hi, rfl⟩ := List.getElem_of_mem hm
  obtain ⟨q, g1, g2, g3, g4⟩ := marks_get l.length (l.take (eb l k)) 0 i (by simp; omega) hi
  rw [g1]
  have := wid_le ((l.take (eb l k)).drop q) (by intro e; have := congrArg List.length e; simp at this; simp at g2; omega)
  simp only [List.length_drop, List.length_take] at this g2
  simp only [decide_eq_true_eq]
  omega
 have f2 : (marks l.length (l.drop (eb l k)) (0 + eb l k)).filter (fun m => decide (m.2.2 ≤ k)) = [] := by
  rw [List.filter_eq_nil_iff]
  intro m hm
  obtain ⟨i, hi, rfl⟩ := List.getElem_of_mem hm
  obtain ⟨q, g1, g2, g3, g4⟩ := marks_get l.length (l.drop (eb l k)) (0 + eb l k) i (by simp) hi
  rw [g1]
  simp only [List.length_drop] at g2
  simp only [decide_eq_true_eq]
  intro hle2
  -- its end is an edge of the whole, up to the place
  have hend : edge l (eb l k + q + wid ((l.drop (eb l k)).drop q)) := by
   have hq : edge l (eb l k + q) := by
    intro j hj
    by_cases hj2 : eb l k ≤ j
    ·have := g3 (j - eb l k) (by omega)
     rw [List.drop_drop, show eb l k + (j - eb l k) = j from by omega] at this
     omega
    ·have := eb_edge l k j (by omega)
     omega
   intro j hj
   by_cases hj2 : j < eb l k + q
   ·have := hq j hj2; omega
   ·by_cases hj3 : j = eb l k + q
    ·subst hj3
     rw [List.drop_drop]
     exact Nat.le_refl _
    ·have := wid_drop ((l.drop (eb l k)).drop q) (j - (eb l k + q)) (by omega) (by omega)
     rw [List.drop_drop, List.drop_drop, show eb l k + (q + (j - (eb l k + q))) = j from by omega] at this
     rw [this]
     omega
  have hp := wid_pos ((l.drop (eb l k)).drop q)
  have := eb_mono l _ k (show eb l k + q + wid ((l.drop (eb l k)).drop q) ≤ k by omega)
  rw [eb_of l _ hend] at this
  omega
 rw [f1, f2, List.append_nil]
end Go.Rp
end

section
namespace Go.Nm

/-- A rune and its order; or a fault's byte. -/
structure El where
 r : Int
 ord : Int
 bad : Bool

/-- An element ahead of others in their order. -/
def insL (x : El) : List El → List El
 | [] => [x]
 | y :: t => if 0 < y.ord ∧ y.ord < x.ord then y :: insL x t else x :: y :: t
/-- Elements in their order. -/
def sortL : List El → List El
 | [] => []
 | x :: t => insL x (sortL t)
theorem insL_stop {x y : El} {t : List El} (h : ¬ (0 < y.ord ∧ y.ord < x.ord)) : insL x (y :: t) = x :: y :: t := by rw [insL, if_neg h]
theorem insL_pass {x y : El} {t : List El} (h : 0 < y.ord ∧ y.ord < x.ord) : insL x (y :: t) = y :: insL x t := by rw [insL, if_pos h]
theorem insL_swap {x y : El} (h : 0 < y.ord ∧ y.ord < x.ord) : ∀ L : List El, insL x (insL y L) = insL y (insL x L)
 | [] => by
  rw [insL, insL, insL_pass h, insL, insL_stop (by omega)]
 | z :: t => by
  by_cases h1 : 0 < z.ord ∧ z.ord < y.ord
  ·rw [insL_pass h1, insL_pass (show 0 < z.ord ∧ z.ord < x.ord by omega), insL_pass (show 0 < z.ord ∧ z.ord < x.ord by omega), insL_pass h1, insL_swap h t]
  ·rw [insL_stop h1, insL_pass h]
   by_cases h2 : 0 < z.ord ∧ z.ord < x.ord
   ·rw [insL_pass h2, insL_stop h1]
   ·rw [insL_stop h2, insL_stop (show ¬ (0 < x.ord ∧ x.ord < y.ord) by omega)]
theorem sortL_front (u : List El) {a b : List El} (h : sortL a = sortL b) : sortL (u ++ a) = sortL (u ++ b) := by
 induction u with
 | nil => exact h
 | cons x t ih => rw [List.cons_append, List.cons_append, sortL, sortL, ih]
theorem sortL_two {x y : El} (h : 0 < y.ord ∧ y.ord < x.ord) (v : List El) : sortL (x :: y :: v) = sortL (y :: x :: v) := by
 rw [sortL, sortL, sortL, sortL, insL_swap h]
theorem sortL_ins (x : El) (v : List El) : ∀ L : List El, sortL (insL x L ++ v) = sortL (x :: (L ++ v))
 | [] => rfl
 | y :: t => by
  by_cases h : 0 < y.ord ∧ y.ord < x.ord
  ·rw [insL_pass h, List.cons_append, sortL, sortL_ins x v t, List.cons_append, sortL_two h]
   rfl
  ·rw [insL_stop h]; rfl
theorem sortL_back (v : List El) : ∀ L : List El, sortL (sortL L ++ v) = sortL (L ++ v)
 | [] => rfl
 | x :: t => by
  rw [sortL, sortL_ins, List.cons_append, sortL, sortL_back v t]
  rfl
theorem sortL_idem (L : List El) : sortL (sortL L) = sortL L := by
 have := sortL_back [] L
 simpa using this
theorem sortL_mid (u v : List El) {a b : List El} (h : sortL a = sortL b) : sortL (u ++ (a ++ v)) = sortL (u ++ (b ++ v)) := by
 refine sortL_front u ?_
 rw [← sortL_back v a, ← sortL_back v b, h]
/-- In order. -/
def Srt : List El → Prop
 | [] => True
 | [_] => True
 | x :: y :: t => ¬ (0 < y.ord ∧ y.ord < x.ord) ∧ Srt (y :: t)
theorem Srt.tail {x : El} : ∀ {t : List El}, Srt (x :: t) → Srt t
 | [], _ => trivial
 | _ :: _, h => h.2
theorem Srt.eq : ∀ {L : List El}, Srt L → sortL L = L
 | [], _ => rfl
 | [_], _ => rfl
 | x :: y :: t, h => by
  have h2 : Srt (y :: t) := h.2
  rw [sortL, h2.eq, insL_stop h.1]
theorem insL_srt {x : El} : ∀ {L : List El}, Srt L → Srt (insL x L)
 | [], _ => trivial
 | y :: t, h => by
  by_cases h1 : 0 < y.ord ∧ y.ord < x.ord
  ·rw [insL_pass h1]
   have h2 := insL_srt (x := x) h.tail
   cases t with
   | nil => exact ⟨by omega, trivial⟩
   | cons z t =>
    by_cases h3 : 0 < z.ord ∧ z.ord < x.ord
    ·rw [insL_pass h3] at h2 ⊢
     exact ⟨h.1, h2⟩
    ·rw [insL_stop h3] at h2 ⊢
     exact ⟨by omega, h2⟩
  ·rw [insL_stop h1]; exact ⟨h1, h⟩
theorem sortL_srt : ∀ L : List El, Srt (sortL L)
 | [] => trivial
 | _ :: t => insL_srt (sortL_srt t)
theorem insL_len (x : El) : ∀ L : List El, (insL x L).length = L.length + 1
 | [] => rfl
 | y :: t => by rw [insL]; split <;> simp [insL_len x t]
theorem sortL_len : ∀ L : List El, (sortL L).length = L.length
 | [] => rfl
 | x :: t => by rw [sortL, insL_len, sortL_len t]; rfl
theorem insL_mem {x z : El} : ∀ {L : List El}, z ∈ insL x L ↔ z = x ∨ z ∈ L
 | [] => by simp [insL]
 | y :: t => by
  rw [insL]; split
  ·rw [List.mem_cons, insL_mem (L := t), List.mem_cons]
   constructor
   ·rintro (h | h | h) <;> simp [h]
   ·rintro (h | h | h) <;> simp [h]
  ·simp
theorem sortL_mem {z : El} : ∀ {L : List El}, z ∈ sortL L ↔ z ∈ L
 | [] => by simp [sortL]
 | x :: t => by rw [sortL, insL_mem, sortL_mem, List.mem_cons]
/-- Where one begins that is of order 0, what stands ahead has no part. -/
theorem insL_zero {x z : El} (hz : z.ord = 0) (v : List El) : ∀ u : List El, insL x (u ++ z :: v) = insL x u ++ z :: v
 | [] => by rw [List.nil_append, insL_stop (by omega)]; rfl
 | y :: t => by
  by_cases h : 0 < y.ord ∧ y.ord < x.ord
  ·rw [List.cons_append, insL_pass h, insL_pass h, insL_zero hz v t]; rfl
  ·rw [List.cons_append, insL_stop h, insL_stop h]; rfl
theorem sortL_zero {z : El} (hz : z.ord = 0) (v : List El) : sortL (z :: v) = z :: sortL v := by
 rw [sortL]
 cases h : sortL v with
 | nil => rfl
 | cons y t => rw [insL_stop (by omega)]
theorem sortL_apart {z : El} (hz : z.ord = 0) (v : List El) : ∀ u : List El, sortL (u ++ z :: v) = sortL u ++ sortL (z :: v)
 | [] => rfl
 | x :: t => by rw [List.cons_append, sortL, sortL_apart hz v t, sortL_zero hz, insL_zero hz, sortL]
/-- Each element as a list; a mark stays alone. -/
theorem sortL_flat (g : El → List El) : ∀ L : List El, (∀ x ∈ L, 0 < x.ord → ∃ y, g x = [y] ∧ y.ord = x.ord) → sortL ((sortL L).flatMap g) = sortL (L.flatMap g) := by
 have key : ∀ (x : El) (L : List El), (∀ z ∈ x :: L, 0 < z.ord → ∃ y, g z = [y] ∧ y.ord = z.ord) → sortL ((insL x L).flatMap g) = sortL ((x :: L).flatMap g) := by
  intro x L
  induction L with
  | nil => intro _; rfl
  | cons y t ih =>
   intro h
   by_cases h1 : 0 < y.ord ∧ y.ord < x.ord
   ·rw [insL_pass h1]
    obtain ⟨x', hx, ox⟩ := h x (by simp) (by omega)
    obtain ⟨y', hy, oy⟩ := h y (by simp) h1.1
    rw [List.flatMap_cons, sortL_front _ (ih fun z hz => h z (by rcases List.mem_cons.1 hz with rfl | hz <;> simp [*])), List.flatMap_cons, List.flatMap_cons, List.flatMap_cons, hx, hy]
    exact (sortL_two (by omega) _).symm
   ·rw [insL_stop h1]
 intro L
 induction L with
 | nil => intro _; rfl
 | cons x t ih =>
  intro h
  rw [sortL, key x (sortL t) (fun z hz => h z (by rcases List.mem_cons.1 hz with rfl | hz; simp; exact List.mem_cons_of_mem _ (sortL_mem.1 hz))), List.flatMap_cons, List.flatMap_cons, sortL_front _ (ih fun z hz => h z (List.mem_cons_of_mem _ hz))]
/-- A mark goes ahead of lesser ones. -/
theorem sortL_ahead {x : El} (v : List El) : ∀ b : List El, (∀ y ∈ b, 0 < y.ord ∧ y.ord < x.ord) → sortL (x :: (b ++ v)) = sortL (b ++ x :: v)
 | [], _ => rfl
 | y :: t, h => by
  rw [List.cons_append, sortL_two (h y (by simp)), sortL, sortL_ahead v t (fun z hz => h z (by simp [hz])), List.cons_append, sortL]

/-- May the one join the starter, with those between? -/
def free (b : List El) (x : El) : Bool := match b.getLast? with
 | none => true
 | some y => decide (0 < x.ord ∧ y.ord < x.ord)
/-- Joining: the starter that stands ahead, and the marks behind it. -/
def J (jn : Int → Int → Option Int) : Option (El × List El) → List El → List El
 | none, [] => []
 | some (s, b), [] => s :: b
 | none, x :: t => if x.bad = true ∨ 0 < x.ord then x :: J jn none t else J jn (some (x, [])) t
 | some (s, b), x :: t =>
  if x.bad = true then s :: (b ++ x :: J jn none t) else
  match (if free b x = true then jn s.r x.r else none) with
  | some r => J jn (some ({ s with r := r }, b)) t
  | none => if 0 < x.ord then J jn (some (s, b ++ [x])) t else s :: (b ++ J jn (some (x, [])) t)
theorem J_bad {jn : Int → Int → Option Int} {s x : El} {b t : List El} (h : x.bad = true) : J jn (some (s, b)) (x :: t) = s :: (b ++ x :: J jn none t) := by rw [J, if_pos h]
theorem J_join {jn : Int → Int → Option Int} {s x : El} {b t : List El} {r : Int} (h : ¬ x.bad = true) (hf : free b x = true) (hj : jn s.r x.r = some r) : J jn (some (s, b)) (x :: t) = J jn (some ({ s with r := r }, b)) t := by
 rw [J, if_neg h, if_pos hf, hj]
theorem J_mark {jn : Int → Int → Option Int} {s x : El} {b t : List El} (h : ¬ x.bad = true) (hf : free b x = true → jn s.r x.r = none) (ho : 0 < x.ord) : J jn (some (s, b)) (x :: t) = J jn (some (s, b ++ [x])) t := by
 rw [J, if_neg h]
 have e : (if free b x = true then jn s.r x.r else none) = none := by split; exact hf (by assumption); rfl
 rw [e]
 simp only [if_pos ho]
theorem J_start {jn : Int → Int → Option Int} {s x : El} {b t : List El} (h : ¬ x.bad = true) (hf : free b x = true → jn s.r x.r = none) (ho : ¬ 0 < x.ord) : J jn (some (s, b)) (x :: t) = s :: (b ++ J jn (some (x, [])) t) := by
 rw [J, if_neg h]
 have e : (if free b x = true then jn s.r x.r else none) = none := by split; exact hf (by assumption); rfl
 rw [e]
 simp only [if_neg ho]
/-- What follows from one begin to the next: one rule for each way. -/
theorem J_ind {jn : Int → Int → Option Int} {P : Option (El × List El) → List El → Prop}
  (h0 : P none []) (h1 : ∀ s b, P (some (s, b)) [])
  (h2 : ∀ x t, x.bad = true ∨ 0 < x.ord → P none t → P none (x :: t))
  (h3 : ∀ x t, ¬ (x.bad = true ∨ 0 < x.ord) → P (some (x, [])) t → P none (x :: t))
  (h4 : ∀ s b x t, x.bad = true → P none t → P (some (s, b)) (x :: t))
  (h5 : ∀ s b x t r, ¬ x.bad = true → free b x = true → jn s.r x.r = some r → P (some ({ s with r := r }, b)) t → P (some (s, b)) (x :: t))
  (h6 : ∀ s b x t, ¬ x.bad = true → (free b x = true → jn s.r x.r = none) → 0 < x.ord → P (some (s, b ++ [x])) t → P (some (s, b)) (x :: t))
  (h7 : ∀ s b x t, ¬ x.bad = true → (free b x = true → jn s.r x.r = none) → ¬ 0 < x.ord → P (some (x, [])) t → P (some (s, b)) (x :: t)) : ∀ L st, P st L
 | [], none => h0
 | [], some (s, b) => h1 s b
 | x :: t, none => by
  by_cases h : x.bad = true ∨ 0 < x.ord
  ·exact h2 x t h (J_ind h0 h1 h2 h3 h4 h5 h6 h7 t none)
  ·exact h3 x t h (J_ind h0 h1 h2 h3 h4 h5 h6 h7 t _)
 | x :: t, some (s, b) => by
  by_cases h : x.bad = true
  ·exact h4 s b x t h (J_ind h0 h1 h2 h3 h4 h5 h6 h7 t none)
  ·by_cases hf : free b x = true
   ·cases hj : jn s.r x.r with
    | some r => exact h5 s b x t r h hf hj (J_ind h0 h1 h2 h3 h4 h5 h6 h7 t _)
    | none =>
     by_cases ho : 0 < x.ord
     ·exact h6 s b x t h (fun _ => hj) ho (J_ind h0 h1 h2 h3 h4 h5 h6 h7 t _)
     ·exact h7 s b x t h (fun _ => hj) ho (J_ind h0 h1 h2 h3 h4 h5 h6 h7 t _)
   ·by_cases ho : 0 < x.ord
    ·exact h6 s b x t h (fun e => absurd e hf) ho (J_ind h0 h1 h2 h3 h4 h5 h6 h7 t _)
    ·exact h7 s b x t h (fun e => absurd e hf) ho (J_ind h0 h1 h2 h3 h4 h5 h6 h7 t _)
/-- What falls apart canonically, and what is done. -/
structure Fall where
 fa : Int → List Int
 od : Int → Int
 jn : Int → Int → Option Int
 od0 : ∀ r, 0 ≤ od r
 join : ∀ a b r, jn a b = some r → fa r = fa a ++ fa b
/-- An element of a rune. -/
def Fall.mk1 (F : Fall) (r : Int) : El := ⟨r, F.od r, false⟩
def Fall.g (F : Fall) (x : El) : List El := if x.bad = true then [x] else (F.fa x.r).map F.mk1
/-- An element that falls apart no more. -/
def Fall.Done (F : Fall) (x : El) : Prop := (x.bad = true ∧ x.ord = 0) ∨ (x = F.mk1 x.r ∧ F.fa x.r = [x.r])
theorem Fall.Done.g {F : Fall} {x : El} (h : F.Done x) : F.g x = [x] := by
 rcases h with h | h
 ·rw [Fall.g, if_pos h.1]
 ·rw [Fall.g, if_neg (by rw [h.1]; exact Bool.false_ne_true), h.2]
  show [F.mk1 x.r] = [x]
  rw [← h.1]
theorem Fall.flat_done {F : Fall} : ∀ {L : List El}, (∀ x ∈ L, F.Done x) → L.flatMap F.g = L
 | [], _ => rfl
 | x :: t, h => by rw [List.flatMap_cons, (h x (by simp)).g, Fall.flat_done fun z hz => h z (by simp [hz])]; rfl
/-- In order, all marks: none is above the last. -/
theorem Srt.last : ∀ {b : List El}, Srt b → (∀ y ∈ b, 0 < y.ord) → ∀ {z : El}, b.getLast? = some z → ∀ y ∈ b, y.ord ≤ z.ord
 | [], _, _, _, _, y, hy => by simp at hy
 | [x], _, _, z, hz, y, hy => by simp at hz hy; subst hz; subst hy; exact Int.le_refl _
 | x :: w :: t, h, hp, z, hz, y, hy => by
  rw [List.getLast?_cons_cons] at hz
  have ih := Srt.last (b := w :: t) h.2 (fun y hy => hp y (by simp [hy])) hz
  have h1 : ¬ (0 < w.ord ∧ w.ord < x.ord) := h.1
  have h2 := ih w (by simp)
  have h3 := hp w (by simp)
  rcases List.mem_cons.1 hy with rfl | hy
  ·omega
  ·exact ih y hy
theorem Srt.left : ∀ {a b : List El}, Srt (a ++ b) → Srt a
 | [], _, _ => trivial
 | [_], _, _ => trivial
 | _ :: y :: t, _, h => ⟨h.1, Srt.left (a := y :: t) h.2⟩
theorem free_all {b t : List El} {x : El} (hs : Srt (b ++ x :: t)) (hp : ∀ y ∈ b, 0 < y.ord) (hf : free b x = true) : ∀ y ∈ b, 0 < y.ord ∧ y.ord < x.ord := by
 intro y hy
 refine ⟨hp y hy, ?_⟩
 unfold free at hf
 split at hf
 ·rename_i h
  rw [List.getLast?_eq_none_iff.1 h] at hy
  simp at hy
 ·rename_i z hz
  have := hs.left.last hp hz y hy
  have := of_decide_eq_true hf
  omega
/-- What was joined falls apart into what it was. -/
theorem Fall.flat_join (F : Fall) : ∀ (L : List El) (st : Option (El × List El)),
  (match st with
   | none => (∀ x ∈ L, F.Done x) → Srt L → sortL ((J F.jn none L).flatMap F.g) = sortL L
   | some (s, b) => (∀ x ∈ L, F.Done x) → (∀ y ∈ b, F.Done y ∧ 0 < y.ord) → s.bad = false → Srt (b ++ L) → sortL ((J F.jn (some (s, b)) L).flatMap F.g) = sortL (F.g s ++ (b ++ L))) := by
 refine J_ind (jn := F.jn) (P := fun st L => match st with
   | none => (∀ x ∈ L, F.Done x) → Srt L → sortL ((J F.jn none L).flatMap F.g) = sortL L
   | some (s, b) => (∀ x ∈ L, F.Done x) → (∀ y ∈ b, F.Done y ∧ 0 < y.ord) → s.bad = false → Srt (b ++ L) → sortL ((J F.jn (some (s, b)) L).flatMap F.g) = sortL (F.g s ++ (b ++ L))) ?_ ?_ ?_ ?_ ?_ ?_ ?_ ?_
 ·intro _ _; rfl
 ·intro s b _ hb _ _
  rw [J, List.flatMap_cons, Fall.flat_done fun y hy => (hb y hy).1, List.append_nil]
 ·intro x t h ih hd hs
  rw [J, if_pos h, List.flatMap_cons, (hd x (by simp)).g]
  exact sortL_front [x] (ih (fun y hy => hd y (by simp [hy])) hs.tail)
 ·intro x t h ih hd hs
  rw [J, if_neg h, ih (fun y hy => hd y (by simp [hy])) (by simp) (by cases hb : x.bad with | true => exact absurd (.inl hb) h | false => rfl) hs.tail, (hd x (by simp)).g]
  rfl
 ·intro s b x t h ih hd hb hsb hs
  rw [J_bad h, List.flatMap_cons, List.flatMap_append, List.flatMap_cons, Fall.flat_done fun y hy => (hb y hy).1, (hd x (by simp)).g]
  refine sortL_front _ (sortL_front _ (sortL_front [x] (ih (fun y hy => hd y (by simp [hy])) ?_)))
  have : ∀ {a c : List El}, Srt (a ++ c) → Srt c := by
   intro a c h
   induction a with
   | nil => exact h
   | cons z a ih => exact ih h.tail
  exact (this hs).tail
 ·intro s b x t r h hf hj ih hd hb hsb hs
  have hx : F.g x = [x] := (hd x (by simp)).g
  have hall := free_all hs (fun y hy => (hb y hy).2) hf
  have hstay : Srt (b ++ t) := by
   have : ∀ {a : List El}, (∀ y ∈ a, 0 < y.ord ∧ y.ord < x.ord) → Srt (a ++ x :: t) → Srt (a ++ t) := by
    intro a
    induction a with
    | nil => intro _ h; exact h.tail
    | cons z a ih =>
     intro ha h
     have h2 := ih (fun y hy => ha y (by simp [hy])) h.tail
     cases a with
     | nil =>
      cases t with
      | nil => trivial
      | cons u t =>
       have h3 : ¬ (0 < x.ord ∧ x.ord < z.ord) := h.1
       have h4 : ¬ (0 < u.ord ∧ u.ord < x.ord) := h.2.1
       have h5 := ha z (by simp)
       exact ⟨by omega, h2⟩
     | cons y a => exact ⟨h.1, h2⟩
   exact this hall hs
  rw [J_join h hf hj, ih (fun y hy => hd y (by simp [hy])) hb hsb hstay]
  have e : F.g { s with r := r } = F.g s ++ [x] := by
   have e1 : F.g { s with r := r } = (F.fa r).map F.mk1 := by rw [Fall.g, if_neg (by show ¬ s.bad = true; rw [hsb]; exact Bool.false_ne_true)]
   have e2 : F.g s = (F.fa s.r).map F.mk1 := by rw [Fall.g, if_neg (by rw [hsb]; exact Bool.false_ne_true)]
   have e3 : F.g x = (F.fa x.r).map F.mk1 := by rw [Fall.g, if_neg h]
   rw [e1, F.join _ _ _ hj, List.map_append, ← e2, ← e3, hx]
  rw [e, List.append_assoc]
  refine sortL_front _ ?_
  exact sortL_ahead t b hall
 ·intro s b x t h hf ho ih hd hb hsb hs
  rw [J_mark h hf ho, ih (fun y hy => hd y (by simp [hy])) ?_ hsb (by simpa using hs)]
  ·simp
  ·intro y hy
   rcases List.mem_append.1 hy with hy | hy
   ·exact hb y hy
   ·simp at hy; subst hy; exact ⟨hd _ (by simp), ho⟩
 ·intro s b x t h hf ho ih hd hb hsb hs
  have hst : ∀ {a c : List El}, Srt (a ++ c) → Srt c := by
   intro a c h
   induction a with
   | nil => exact h
   | cons z a ih => exact ih h.tail
  rw [J_start h hf ho, List.flatMap_cons, List.flatMap_append, Fall.flat_done fun y hy => (hb y hy).1]
  refine sortL_front _ (sortL_front _ ?_)
  rw [ih (fun y hy => hd y (by simp [hy])) (by simp) (by cases hb : x.bad with | true => exact absurd hb h | false => rfl) (hst hs).tail, (hd x (by simp)).g]
  rfl
end Go.Nm
end

section
namespace Go.Nm
open Go.Rp Go.Lib

/-- The runes and the faults of some bytes: a fault has its byte. -/
def raw : Nat → List UInt8 → List (Int × Bool)
 | 0, _ => []
 | n + 1, l => if l = [] then [] else (if run l = 65533 ∧ wid l = 1 then (((l.getD 0 0).toNat : Int), true) else ((run l : Int), false)) :: raw n (l.drop (wid l))
theorem raw_nil (n : Nat) : raw n [] = [] := by cases n <;> simp [raw]
theorem raw_fuel (n : Nat) : ∀ (m : Nat) (l : List UInt8), l.length ≤ n → l.length ≤ m → raw n l = raw m l := by
 induction n with
 | zero =>
  intro m l h1 _
  have : l = [] := List.length_eq_zero_iff.1 (by omega)
  subst this
  rw [raw_nil, raw_nil]
 | succ n ih =>
  intro m l h1 h2
  by_cases h : l = []
  ·subst h; rw [raw_nil, raw_nil]
  ·have hp := wid_pos l
   have hw := wid_le l h
   have h0 : 0 < l.length := List.length_pos_iff.2 h
   obtain ⟨m', rfl⟩ : ∃ m', m = m' + 1 := ⟨m - 1, by omega⟩
   rw [raw, raw, if_neg h, if_neg h, ih m' (l.drop (wid l)) (by simp; omega) (by simp; omega)]
def rawOf (l : List UInt8) : List (Int × Bool) := raw l.length l
theorem rawOf_step (l : List UInt8) (h : l ≠ []) : rawOf l = (if run l = 65533 ∧ wid l = 1 then (((l.getD 0 0).toNat : Int), true) else ((run l : Int), false)) :: rawOf (l.drop (wid l)) := by
 have hp := wid_pos l
 have hw := wid_le l h
 obtain ⟨m', hm⟩ : ∃ m', l.length = m' + 1 := ⟨l.length - 1, by omega⟩
 unfold rawOf
 rw [hm, raw, if_neg h, raw_fuel m' (l.drop (wid l)).length _ (by simp; omega) (Nat.le_refl _)]
theorem raw_of {n : Nat} {l : List UInt8} (h : l.length ≤ n) : raw n l = rawOf l := raw_fuel n l.length l h (Nat.le_refl _)
/-- At an edge the runes and faults fall apart. -/
theorem rawOf_split : ∀ (n : Nat) (l : List UInt8) (e : Nat), l.length ≤ n → e ≤ l.length → edge l e → rawOf l = rawOf (l.take e) ++ rawOf (l.drop e) := by
 intro n
 induction n with
 | zero =>
  intro l e hn he _
  have : l = [] := List.length_eq_zero_iff.1 (by omega)
  subst this
  simp [rawOf, raw_nil]
 | succ n ih =>
  intro l e hn he hedge
  by_cases h : l = []
  ·subst h; simp [rawOf, raw_nil]
  ·by_cases h0 : e = 0
   ·subst h0; simp [rawOf, raw]
   ·have hp := wid_pos l
    have hw : wid l ≤ e := by have := hedge 0 (by omega); simpa using this
    have hd := wid_head l e h hw
    have hwd : wid (l.take e) = wid l := by unfold wid; rw [hd]
    have hrd : run (l.take e) = run l := by unfold run; rw [hd]
    have hi := ih (l.drop (wid l)) (e - wid l) (by simp; omega) (by simp; omega) (fun j hj => by
     have := hedge (wid l + j) (by omega)
     rw [List.drop_drop]
     omega)
    have hne := take_ne l e (by omega) h
    have h00 : (l.take e).getD 0 0 = l.getD 0 0 := by
     cases l with
     | nil => exact absurd rfl h
     | cons c t =>
      obtain ⟨e', rfl⟩ : ∃ e', e = e' + 1 := ⟨e - 1, by omega⟩
      rfl
    rw [rawOf_step l h, rawOf_step (l.take e) hne, hwd, hrd, h00, hi, List.cons_append, List.drop_take, List.drop_drop, show wid l + (e - wid l) = e from by omega]
/-- A rune's bytes. -/
def encB (r : Int) : List UInt8 := (Utf8.encode r).data.toList
theorem u8n (n : Nat) (h : n < 256) : (UInt8.ofNat n).toNat = n := by simp; omega
set_option maxRecDepth 100000 in
theorem dec_enc {r : Int} (h : Utf8.valid r = true) (b : List UInt8) : dec (encB r ++ b) = (r.toNat, (encB r).length) := by
 have hv : (0 ≤ r ∧ r < 55296) ∨ (57344 ≤ r ∧ r ≤ 1114111) := by
  unfold Utf8.valid at h
  simp only [Bool.or_eq_true, Bool.and_eq_true, decide_eq_true_eq] at h
  omega
 obtain ⟨n, rfl⟩ : ∃ n : Nat, r = (n : Int) := ⟨r.toNat, by omega⟩
 have hv : n < 55296 ∨ (57344 ≤ n ∧ n ≤ 1114111) := by omega
 unfold encB Utf8.encode
 simp only [h, if_true, Int.toNat_natCast]
 by_cases h1 : n < 128
 ·simp only [h1, if_true, List.cons_append, List.nil_append]
  unfold dec decodeN
  simp only [List.getD_cons_zero, u8n n (by omega), h1, if_true]
  rfl
 by_cases h2 : n < 2048
 ·simp only [h1, h2, if_true, if_false, List.cons_append, List.nil_append]
  unfold dec decodeN
  simp only [List.getD_cons_zero, List.getD_cons_succ, u8n (192 + n / 64) (by omega), u8n (128 + n % 64) (by omega)]
  rw [if_neg (by omega), if_pos ⟨by omega, by simp, by omega⟩, if_pos (by omega)]
  simp only [List.length_cons, List.length_nil, Prod.mk.injEq, and_true]
  omega
 by_cases h3 : n < 65536
 ·simp only [h1, h2, h3, if_true, if_false, List.cons_append, List.nil_append]
  unfold dec decodeN
  simp only [List.getD_cons_zero, List.getD_cons_succ, u8n (224 + n / 4096) (by omega), u8n (128 + n / 64 % 64) (by omega), u8n (128 + n % 64) (by omega)]
  rw [if_neg (by omega), if_neg (by omega), if_pos ⟨by omega, ⟨by simp, by omega⟩, by simp, by omega⟩, if_pos (by omega)]
  simp only [List.length_cons, List.length_nil, Prod.mk.injEq, and_true]
  omega
 ·simp only [h1, h2, h3, if_false, List.cons_append, List.nil_append]
  unfold dec decodeN
  simp only [List.getD_cons_zero, List.getD_cons_succ, u8n (240 + n / 262144) (by omega), u8n (128 + n / 4096 % 64) (by omega), u8n (128 + n / 64 % 64) (by omega), u8n (128 + n % 64) (by omega)]
  rw [if_neg (by omega), if_neg (by omega), if_neg (by omega), if_pos ⟨by omega, ⟨by simp, by omega⟩, ⟨by simp, by omega⟩, by simp, by omega⟩, if_pos (by omega)]
  simp only [List.length_cons, List.length_nil, Prod.mk.injEq, and_true]
  omega
theorem enc_len {r : Int} (h : Utf8.valid r = true) (h1 : (encB r).length = 1) : r < 128 := by
 refine Decidable.byContradiction fun hn => ?_
 revert h1
 unfold encB Utf8.encode
 have : ¬ r.toNat < 128 := by omega
 simp only [h, if_true, this, if_false]
 split
 ·simp
 ·split <;> simp
theorem enc_ne (r : Int) : encB r ≠ [] := by
 unfold encB Utf8.encode
 simp only
 generalize (if Utf8.valid r = true then r.toNat else Utf8.runeError) = c
 by_cases h1 : c < 128
 ·simp [h1]
 by_cases h2 : c < 2048
 ·simp [h1, h2]
 by_cases h3 : c < 65536
 ·simp [h1, h2, h3]
 ·simp [h1, h2, h3]
theorem decN_valid (n b0 b1 b2 b3 : Nat) (h0 : b0 < 256) : Utf8.valid ((decodeN n b0 b1 b2 b3).1 : Int) = true := by
 have key : ∀ m : Nat, (m < 55296 ∨ (57344 ≤ m ∧ m ≤ 1114111)) → Utf8.valid (m : Int) = true := by
  intro m hm
  unfold Utf8.valid
  simp only [Bool.or_eq_true, Bool.and_eq_true, decide_eq_true_eq]
  omega
 apply key
 simp only [decodeN]
 repeat' split
 all_goals simp
 all_goals omega
theorem run_valid (l : List UInt8) : Utf8.valid (run l : Int) = true := decN_valid _ _ _ _ _ (byte_lt _)
/-- A rune's bytes, or a fault's. -/
def encE (x : Int × Bool) : List UInt8 := if x.2 = true then [UInt8.ofNat x.1.toNat] else encB x.1
theorem encE_bad (c : Int) : encE (c, true) = [UInt8.ofNat c.toNat] := rfl
theorem encE_rune (r : Int) : encE (r, false) = encB r := rfl
/-- The faults ahead. -/
def badPre : List (Int × Bool) → List UInt8
 | [] => []
 | x :: t => if x.2 = true then UInt8.ofNat x.1.toNat :: badPre t else []
/-- Faults that stay faults, and runes that are some. -/
def Firm : List (Int × Bool) → Prop
 | [] => True
 | x :: t => (if x.2 = true then (0 ≤ x.1 ∧ x.1 < 256) ∧ dec (UInt8.ofNat x.1.toNat :: badPre t) = (65533, 1) else Utf8.valid x.1 = true) ∧ Firm t
theorem enc_head {r : Int} (h : Utf8.valid r = true) (b : List UInt8) : ¬ isCont ((encB r ++ b).getD 0 0) := by
 intro hc
 have h1 := dec_of_cont _ hc
 rw [dec_enc h] at h1
 have h2 := enc_len h (Prod.mk.inj h1).2
 have h3 := (Prod.mk.inj h1).1
 omega
theorem out_head : ∀ {L : List (Int × Bool)}, Firm L → ∃ u, L.flatMap encE = badPre L ++ u ∧ (u = [] ∨ ¬ isCont (u.getD 0 0))
 | [], _ => ⟨[], rfl, .inl rfl⟩
 | (r, true) :: t, h => by
  obtain ⟨u, hu, hc⟩ := out_head h.2
  exact ⟨u, by rw [List.flatMap_cons, hu]; rfl, hc⟩
 | (r, false) :: t, h => by
  refine ⟨encB r ++ t.flatMap encE, rfl, .inr (enc_head ?_ _)⟩
  have := h.1
  simpa using this
theorem fault_more {c : UInt8} {u b : List UInt8} (h : dec (c :: u) = (65533, 1)) (hb : b = [] ∨ ¬ isCont (b.getD 0 0)) : dec (c :: (u ++ b)) = (65533, 1) := by
 rw [← List.cons_append]
 by_cases hw : wid (c :: u ++ b) ≤ (c :: u).length
 ·rw [← dec_cut (c :: u) b (by simp) hw, h]
 ·exfalso
  have h1 := wid_cont (c :: u ++ b) (c :: u).length (by simp) (by omega)
  have h2 : (c :: u ++ b).getD (c :: u).length 0 = b.getD 0 0 := by
   rw [List.getD_eq_getElem?_getD, List.getElem?_append_right (Nat.le_refl _), Nat.sub_self, List.getD_eq_getElem?_getD]
  rw [h2] at h1
  rcases hb with rfl | hb
  ·unfold isCont at h1
   simp at h1
  ·exact hb h1
/-- What was made a text reads as it was. -/
theorem rawOf_out : ∀ {L : List (Int × Bool)}, Firm L → rawOf (L.flatMap encE) = L
 | [], _ => by simp [rawOf, raw_nil]
 | (r, true) :: t, h => by
  obtain ⟨u, hu, hc⟩ := out_head h.2
  obtain ⟨⟨h1, h3⟩, h2⟩ : (0 ≤ r ∧ r < 256) ∧ dec (UInt8.ofNat r.toNat :: badPre t) = (65533, 1) := by simpa using h.1
  have hd := fault_more h2 hc
  rw [← hu] at hd
  have ih := rawOf_out h.2
  have hr : run (UInt8.ofNat r.toNat :: t.flatMap encE) = 65533 := by unfold run; rw [hd]
  have hw : wid (UInt8.ofNat r.toNat :: t.flatMap encE) = 1 := by unfold wid; rw [hd]
  rw [List.flatMap_cons, encE_bad, List.cons_append, List.nil_append, rawOf_step _ (by simp), hr, hw, if_pos ⟨rfl, rfl⟩, List.drop_one, List.tail_cons, ih, List.getD_cons_zero, u8n _ (by omega)]
  congr 2
  omega
 | (r, false) :: t, h => by
  have hv : Utf8.valid r = true := by simpa using h.1
  have hd := dec_enc hv (t.flatMap encE)
  have ih := rawOf_out h.2
  have hr : run (encB r ++ t.flatMap encE) = r.toNat := by unfold run; rw [hd]
  have hw : wid (encB r ++ t.flatMap encE) = (encB r).length := by unfold wid; rw [hd]
  have h0 : 0 ≤ r := by
   unfold Utf8.valid at hv
   simp only [Bool.or_eq_true, Bool.and_eq_true, decide_eq_true_eq] at hv
   omega
  rw [List.flatMap_cons, encE_rune, rawOf_step _ (by simp [enc_ne]), hr, hw, if_neg, List.drop_left, ih, Int.toNat_of_nonneg h0]
  intro hh
  have := enc_len hv hh.2
  omega
theorem badPre_take : ∀ (n : Nat) (l : List UInt8), l.length ≤ n → ∃ k, badPre (rawOf l) = l.take k := by
 intro n
 induction n with
 | zero =>
  intro l hl
  have : l = [] := List.length_eq_zero_iff.1 (by omega)
  subst this
  exact ⟨0, by simp [rawOf, raw_nil, badPre]⟩
 | succ n ih =>
  intro l hl
  by_cases h : l = []
  ·subst h; exact ⟨0, by simp [rawOf, raw_nil, badPre]⟩
  ·rw [rawOf_step l h]
   by_cases hb : run l = 65533 ∧ wid l = 1
   ·obtain ⟨k, hk⟩ := ih (l.drop (wid l)) (by have := List.length_pos_iff.2 h; rw [hb.2]; simp; omega)
    refine ⟨k + 1, ?_⟩
    rw [if_pos hb, badPre, if_pos rfl, hk, hb.2]
    cases l with
    | nil => exact absurd rfl h
    | cons c t => simp
   ·exact ⟨0, by rw [if_neg hb, badPre, if_neg (by simp)]; rfl⟩
theorem firm_raw : ∀ (n : Nat) (l : List UInt8), l.length ≤ n → Firm (rawOf l) := by
 intro n
 induction n with
 | zero =>
  intro l hl
  have : l = [] := List.length_eq_zero_iff.1 (by omega)
  subst this
  simp [rawOf, raw_nil, Firm]
 | succ n ih =>
  intro l hl
  by_cases h : l = []
  ·subst h; simp [rawOf, raw_nil, Firm]
  ·have hp := wid_pos l
   have h0 := List.length_pos_iff.2 h
   rw [rawOf_step l h]
   refine ⟨?_, ih _ (by simp; omega)⟩
   by_cases hb : run l = 65533 ∧ wid l = 1
   ·rw [if_pos hb, if_pos rfl]
    obtain ⟨k, hk⟩ := badPre_take (l.drop (wid l)).length (l.drop (wid l)) (Nat.le_refl _)
    have hc := byte_lt (l.getD 0 0)
    refine ⟨⟨Int.natCast_nonneg _, by show ((l.getD 0 0).toNat : Int) < 256; omega⟩, ?_⟩
    rw [hk, hb.2]
    have e : UInt8.ofNat (((l.getD 0 0).toNat : Int)).toNat :: (l.drop 1).take k = l.take (k + 1) := by
     cases l with
     | nil => exact absurd rfl h
     | cons c t => simp
    rw [e]
    have h4 : dec l = (65533, 1) := Prod.ext hb.1 hb.2
    have := dec_cut (l.take (k + 1)) (l.drop (k + 1)) (take_ne l _ (by omega) h) (by
     rw [List.take_append_drop, hb.2, List.length_take]
     omega)
    rw [this, List.take_append_drop, h4]
   ·rw [if_neg hb, if_neg (by simp)]
    exact run_valid l
theorem firm_text (l : List UInt8) : Firm (rawOf l) := firm_raw l.length l (Nat.le_refl _)
end Go.Nm
end

section
namespace Go.Nm
open Go.Rp Go.Lib

/-- What the tables say: into what a rune falls apart (canonically, loosely), its order, what two join to. -/
structure Tb where
 fa : Bool → Int → List Int
 od : Int → Int
 jn : Int → Int → Option Int
/-- The tables are as they should be. -/
structure Tb.Ok (T : Tb) : Prop where
 od0 : ∀ r, 0 ≤ T.od r
 ne : ∀ k r, T.fa k r ≠ []
 val : ∀ k r, Utf8.valid r = true → ∀ x ∈ T.fa k r, Utf8.valid x = true
 vj : ∀ a b r, T.jn a b = some r → Utf8.valid r = true
 done : ∀ k r, ∀ x ∈ T.fa k r, T.fa k x = [x]
 less : ∀ x, T.fa true x = [x] → T.fa false x = [x]
 twice : ∀ r, T.fa true r = (T.fa false r).flatMap (T.fa true)
 mark : ∀ r, 0 < T.od r → T.fa false r = [r] → T.fa true r = [r]
 join : ∀ a b r, T.jn a b = some r → T.fa false r = T.fa false a ++ T.fa false b
 asc : ∀ k r, 0 ≤ r → r < 128 → T.fa k r = [r]
 ascO : ∀ r, 0 ≤ r → r < 128 → T.od r = 0
 ascJ : ∀ a b, 0 ≤ b → b < 128 → T.jn a b = none

variable {T : Tb}
def Tb.mk1 (T : Tb) (r : Int) : El := ⟨r, T.od r, false⟩
def Tb.g (T : Tb) (k : Bool) (x : El) : List El := if x.bad = true then [x] else (T.fa k x.r).map T.mk1
/-- An element that stays. -/
def Tb.Done (T : Tb) (k : Bool) (x : El) : Prop := (x.bad = true ∧ x.ord = 0) ∨ (x = T.mk1 x.r ∧ T.fa k x.r = [x.r])
theorem Tb.g_bad {k : Bool} {x : El} (h : x.bad = true) : T.g k x = [x] := if_pos h
theorem Tb.g_rune {k : Bool} {x : El} (h : ¬ x.bad = true) : T.g k x = (T.fa k x.r).map T.mk1 := if_neg h
theorem Tb.g_mk {k : Bool} {r : Int} : T.g k (T.mk1 r) = (T.fa k r).map T.mk1 := if_neg Bool.false_ne_true
theorem Tb.Done.flat {k : Bool} {x : El} (h : T.Done k x) : T.g k x = [x] := by
 rcases h with h | h
 ·exact Tb.g_bad h.1
 ·rw [Tb.g_rune (by rw [h.1]; exact Bool.false_ne_true), h.2]
  show [T.mk1 x.r] = [x]
  rw [← h.1]
theorem Tb.Done.less (ok : T.Ok) {k : Bool} {x : El} (h : T.Done k x) : T.Done false x := by
 rcases h with h | h
 ·exact .inl h
 ·refine .inr ⟨h.1, ?_⟩
  cases k with
  | false => exact h.2
  | true => exact ok.less _ h.2
theorem Tb.g_done (ok : T.Ok) {k : Bool} {x y : El} (hx : x.bad = true → x.ord = 0) (hy : y ∈ T.g k x) : T.Done k y := by
 by_cases h : x.bad = true
 ·rw [Tb.g_bad h, List.mem_singleton] at hy
  subst hy
  exact .inl ⟨h, hx h⟩
 ·rw [Tb.g_rune h] at hy
  obtain ⟨r, hr, rfl⟩ := List.mem_map.1 hy
  exact .inr ⟨rfl, ok.done _ _ _ hr⟩
theorem Tb.flat_done {k : Bool} : ∀ {L : List El}, (∀ x ∈ L, T.Done k x) → L.flatMap (T.g k) = L
 | [], _ => rfl
 | x :: t, h => by rw [List.flatMap_cons, (h x (by simp)).flat, Tb.flat_done fun z hz => h z (by simp [hz])]; rfl
theorem Tb.g_twice (ok : T.Ok) (x : El) : T.g true x = (T.g false x).flatMap (T.g true) := by
 by_cases h : x.bad = true
 ·rw [Tb.g_bad h, Tb.g_bad h]
  show _ = T.g true x ++ []
  rw [Tb.g_bad h]
  rfl
 ·rw [Tb.g_rune h, Tb.g_rune h, ok.twice]
  generalize T.fa false x.r = l
  induction l with
  | nil => rfl
  | cons r t ih => rw [List.flatMap_cons, List.map_append, List.map_cons, List.flatMap_cons, Tb.g_mk, ih]
theorem flat_flat' {α : Type} (h f : α → List El) (g : El → List El) (e : ∀ x, h x = (f x).flatMap g) : ∀ L : List α, L.flatMap h = (L.flatMap f).flatMap g
 | [] => rfl
 | x :: t => by rw [List.flatMap_cons, List.flatMap_cons, List.flatMap_append, e, flat_flat' h f g e t]
theorem flat_flat (f g h : El → List El) (e : ∀ x, h x = (f x).flatMap g) : ∀ L : List El, L.flatMap h = (L.flatMap f).flatMap g
 | [] => rfl
 | x :: t => by rw [List.flatMap_cons, List.flatMap_cons, List.flatMap_append, e, flat_flat f g h e t]
def Tb.Ok.fall (ok : T.Ok) : Fall := ⟨T.fa false, T.od, T.jn, ok.od0, ok.join⟩
/-- A rune or a fault, without its order. -/
def El.p (x : El) : Int × Bool := (x.r, x.bad)
/-- The elements of some runes and faults, fallen apart. -/
def Tb.els (T : Tb) (k : Bool) (l : List (Int × Bool)) : List El := l.flatMap fun x => if x.2 = true then [⟨x.1, 0, true⟩] else (T.fa k x.1).map T.mk1
/-- The elements of a text in their order. -/
def Tb.E (T : Tb) (k : Bool) (s : List UInt8) : List El := sortL (T.els k (rawOf s))
/-- Their bytes. -/
def out (L : List El) : List UInt8 := (L.map El.p).flatMap encE
/-- A text in a form: loose or not, joined or not. -/
def Tb.form (T : Tb) (k c : Bool) (s : List UInt8) : List UInt8 := out (if c = true then J T.jn none (T.E k s) else T.E k s)
theorem els_p {k : Bool} : ∀ {L : List El}, (∀ x ∈ L, x.bad = true → x.ord = 0) → T.els k (L.map El.p) = L.flatMap (T.g k)
 | [], _ => rfl
 | x :: t, h => by
  rw [List.map_cons, Tb.els, List.flatMap_cons, List.flatMap_cons]
  show _ ++ T.els k (t.map El.p) = _
  rw [els_p fun z hz => h z (by simp [hz])]
  congr 1
  by_cases hb : x.bad = true
  ·rw [if_pos (show x.p.2 = true from hb), Tb.g_bad hb]
   have := h x (by simp) hb
   cases x
   simp only at this hb
   subst this; subst hb
   rfl
  ·rw [if_neg (show ¬ x.p.2 = true from hb), Tb.g_rune hb]
   rfl
theorem els_mem (ok : T.Ok) {k : Bool} {l : List (Int × Bool)} : ∀ x ∈ T.els k l, T.Done k x := by
 intro x hx
 unfold Tb.els at hx
 obtain ⟨y, _, hx⟩ := List.mem_flatMap.1 hx
 by_cases hb : y.2 = true
 ·rw [if_pos hb, List.mem_singleton] at hx
  subst hx
  exact .inl ⟨rfl, rfl⟩
 ·rw [if_neg hb] at hx
  obtain ⟨r, hr, rfl⟩ := List.mem_map.1 hx
  exact .inr ⟨rfl, ok.done _ _ _ hr⟩
theorem els_twice (ok : T.Ok) (l : List (Int × Bool)) : (T.els false l).flatMap (T.g true) = T.els true l := by
 unfold Tb.els
 refine (flat_flat' _ _ _ (fun x => ?_) l).symm
 by_cases hb : x.2 = true
 ·rw [if_pos hb, if_pos hb]
  show _ = T.g true _ ++ []
  rw [Tb.g_bad rfl]
  rfl
 ·rw [if_neg hb, if_neg hb]
  have := Tb.g_twice ok (T.mk1 x.1)
  rw [Tb.g_mk, Tb.g_mk] at this
  exact this
theorem Tb.Done.zero {k : Bool} {x : El} (h : T.Done k x) : x.bad = true → x.ord = 0 := by
 intro hb
 rcases h with h | h
 ·exact h.2
 ·rw [h.1] at hb; cases hb
theorem Tb.Done.alone (ok : T.Ok) {x : El} (h : T.Done false x) (ho : 0 < x.ord) : ∃ y, T.g true x = [y] ∧ y.ord = x.ord := by
 rcases h with h | h
 ·omega
 ·have h1 : 0 < T.od x.r := by rw [h.1] at ho; exact ho
  refine ⟨x, ?_, rfl⟩
  rw [h.1, Tb.g_mk]
  show (T.fa true x.r).map T.mk1 = _
  rw [ok.mark _ h1 h.2]
  rfl
theorem mem_E (ok : T.Ok) {k : Bool} {s : List UInt8} : ∀ x ∈ T.E k s, T.Done k x := fun x hx => els_mem ok x (sortL_mem.1 hx)
/-- Elements of elements: the looser way stays. -/
theorem sort_again (ok : T.Ok) (k k' : Bool) (s : List UInt8) : sortL ((T.E k s).flatMap (T.g k')) = T.E (k || k') s := by
 cases k with
 | true =>
  have h : ∀ x ∈ T.E true s, T.Done k' x := fun x hx => by
   cases k' with
   | true => exact mem_E ok x hx
   | false => exact (mem_E ok x hx).less ok
  rw [Tb.flat_done h, Tb.E, sortL_idem]
  rfl
 | false =>
  cases k' with
  | false => rw [Tb.flat_done (mem_E ok), Tb.E, sortL_idem]; rfl
  | true =>
   rw [Tb.E, sortL_flat _ _ (fun x hx => (els_mem ok x hx).alone ok), els_twice ok]
   rfl
/-- A starter is no fault, nor is what stands behind it. -/
def StOk : Option (El × List El) → Prop
 | none => True
 | some (s, b) => s.bad = false ∧ ∀ y ∈ b, y.bad = false
theorem StOk.snoc {s x : El} {b : List El} (h : StOk (some (s, b))) (hx : ¬ x.bad = true) : StOk (some (s, b ++ [x])) := by
 refine ⟨h.1, fun y hy => ?_⟩
 rcases List.mem_append.1 hy with hy | hy
 ·exact h.2 y hy
 ·rw [List.mem_singleton] at hy
  subst hy
  simpa using hx
theorem StOk.start {x : El} (hx : ¬ x.bad = true) : StOk (some (x, [])) := ⟨by simpa using hx, by simp⟩
theorem J_ord {jn : Int → Int → Option Int} : ∀ (L : List El) (st : Option (El × List El)), (∀ x ∈ L, x.bad = true → x.ord = 0) → StOk st → ∀ x ∈ J jn st L, x.bad = true → x.ord = 0 := by
 refine J_ind (jn := jn) (P := fun st L => (∀ x ∈ L, x.bad = true → x.ord = 0) → StOk st → ∀ x ∈ J jn st L, x.bad = true → x.ord = 0) ?_ ?_ ?_ ?_ ?_ ?_ ?_ ?_
 ·intro _ _ x hx; simp [J] at hx
 ·intro s b _ hs x hx hb
  rw [J] at hx
  rcases List.mem_cons.1 hx with rfl | hx
  ·rw [hs.1] at hb; cases hb
  ·rw [hs.2 x hx] at hb; cases hb
 ·intro x t h ih hL _ y hy hb
  rw [J, if_pos h] at hy
  rcases List.mem_cons.1 hy with rfl | hy
  ·exact hL y (by simp) hb
  ·exact ih (fun z hz => hL z (List.mem_cons_of_mem _ hz)) trivial y hy hb
 ·intro x t h ih hL _ y hy hb
  rw [J, if_neg h] at hy
  exact ih (fun z hz => hL z (List.mem_cons_of_mem _ hz)) (.start fun e => h (.inl e)) y hy hb
 ·intro s b x t h ih hL hs y hy hb
  rw [J_bad h] at hy
  rcases List.mem_cons.1 hy with rfl | hy
  ·rw [hs.1] at hb; cases hb
  rcases List.mem_append.1 hy with hy | hy
  ·rw [hs.2 y hy] at hb; cases hb
  rcases List.mem_cons.1 hy with rfl | hy
  ·exact hL y (by simp) hb
  ·exact ih (fun z hz => hL z (List.mem_cons_of_mem _ hz)) trivial y hy hb
 ·intro s b x t r h hf hj ih hL hs y hy hb
  rw [J_join h hf hj] at hy
  exact ih (fun z hz => hL z (List.mem_cons_of_mem _ hz)) hs y hy hb
 ·intro s b x t h hf ho ih hL hs y hy hb
  rw [J_mark h hf ho] at hy
  exact ih (fun z hz => hL z (List.mem_cons_of_mem _ hz)) (hs.snoc h) y hy hb
 ·intro s b x t h hf ho ih hL hs y hy hb
  rw [J_start h hf ho] at hy
  rcases List.mem_cons.1 hy with rfl | hy
  ·rw [hs.1] at hb; cases hb
  rcases List.mem_append.1 hy with hy | hy
  ·rw [hs.2 y hy] at hb; cases hb
  ·exact ih (fun z hz => hL z (List.mem_cons_of_mem _ hz)) (.start h) y hy hb
/-- The same, joined ahead. -/
theorem join_again (ok : T.Ok) (k k' : Bool) (s : List UInt8) : sortL ((J T.jn none (T.E k s)).flatMap (T.g k')) = T.E (k || k') s := by
 have h0 : sortL ((J T.jn none (T.E k s)).flatMap (T.g false)) = T.E k s := by
  have := ok.fall.flat_join (T.E k s) none (fun x hx => (mem_E ok x hx).less ok) (sortL_srt _)
  rw [Tb.E, sortL_idem] at this
  exact this
 cases k' with
 | false => rw [h0, Bool.or_false]
 | true =>
  rw [flat_flat (T.g false) (T.g true) (T.g true) (Tb.g_twice ok)]
  refine (sortL_flat _ _ fun x hx ho => ?_).symm.trans (by rw [h0, sort_again ok k true s])
  obtain ⟨y, hy, hx⟩ := List.mem_flatMap.1 hx
  exact (Tb.g_done ok (J_ord (T.E k s) none (fun z hz => (mem_E ok z hz).zero) trivial y hy) hx).alone ok ho
/-- What is made of elements reads as they stand. -/
def FirmE (L : List El) : Prop := Firm (L.map El.p)
theorem badPre_rune {x : El} (h : x.bad = false) (t : List El) : badPre ((x :: t).map El.p) = [] := by
 rw [List.map_cons, badPre, if_neg (by show ¬ x.bad = true; rw [h]; exact Bool.false_ne_true)]
theorem firm_rune {x : El} (h : x.bad = false) (t : List El) : FirmE (x :: t) ↔ Utf8.valid x.r = true ∧ FirmE t := by
 unfold FirmE
 rw [List.map_cons, Firm, if_neg (by show ¬ x.bad = true; rw [h]; exact Bool.false_ne_true)]
 rfl
theorem firm_same {x : El} {t t' : List El} (hb : badPre (t.map El.p) = badPre (t'.map El.p)) (ht : FirmE t → FirmE t') : FirmE (x :: t) → FirmE (x :: t') := by
 unfold FirmE at *
 rw [List.map_cons, List.map_cons, Firm, Firm, hb]
 exact fun ⟨h1, h2⟩ => ⟨h1, ht h2⟩
theorem badPre_same {x : El} {t t' : List El} (hb : badPre (t.map El.p) = badPre (t'.map El.p)) : badPre ((x :: t).map El.p) = badPre ((x :: t').map El.p) := by
 rw [List.map_cons, List.map_cons, badPre, badPre, hb]
theorem firm_ins {x : El} (hx : x.bad = true → x.ord = 0) : ∀ {L : List El}, (∀ y ∈ L, y.bad = true → y.ord = 0) → badPre ((x :: L).map El.p) = badPre ((insL x L).map El.p) ∧ (FirmE (x :: L) → FirmE (insL x L))
 | [], _ => ⟨rfl, id⟩
 | y :: t, h => by
  by_cases h1 : 0 < y.ord ∧ y.ord < x.ord
  ·have hxb : x.bad = false := by cases e : x.bad with | true => have := hx e; omega | false => rfl
   have hyb : y.bad = false := by cases e : y.bad with | true => have := h y (by simp) e; omega | false => rfl
   have ih := firm_ins hx (L := t) fun z hz => h z (by simp [hz])
   rw [insL_pass h1, badPre_rune hxb, badPre_rune hyb, firm_rune hxb, firm_rune hyb, firm_rune hyb]
   refine ⟨rfl, fun ⟨a, b, c⟩ => ⟨b, ih.2 ?_⟩⟩
   rw [firm_rune hxb]
   exact ⟨a, c⟩
  ·rw [insL_stop h1]; exact ⟨rfl, id⟩
theorem firm_sort : ∀ {L : List El}, (∀ y ∈ L, y.bad = true → y.ord = 0) → badPre (L.map El.p) = badPre ((sortL L).map El.p) ∧ (FirmE L → FirmE (sortL L))
 | [], _ => ⟨rfl, id⟩
 | x :: t, h => by
  obtain ⟨h1, h2⟩ := firm_sort (L := t) fun z hz => h z (by simp [hz])
  obtain ⟨h3, h4⟩ := firm_ins (x := x) (h x (by simp)) (L := sortL t) fun z hz => h z (List.mem_cons_of_mem _ (sortL_mem.1 hz))
  exact ⟨(badPre_same h1).trans h3, fun hf => h4 (firm_same h1 h2 hf)⟩
theorem firm_runes {l : List Int} (h : ∀ r ∈ l, Utf8.valid r = true) {t : List El} (ht : FirmE t) : FirmE (l.map T.mk1 ++ t) := by
 induction l with
 | nil => exact ht
 | cons r l ih =>
  rw [List.map_cons, List.cons_append, firm_rune rfl]
  exact ⟨h r (by simp), ih fun z hz => h z (by simp [hz])⟩
theorem firm_els (ok : T.Ok) (k : Bool) : ∀ {l : List (Int × Bool)}, Firm l → badPre ((T.els k l).map El.p) = badPre l ∧ FirmE (T.els k l)
 | [], _ => ⟨rfl, trivial⟩
 | (r, true) :: t, h => by
  obtain ⟨h1, h2⟩ := firm_els ok k (l := t) h.2
  have e : T.els k ((r, true) :: t) = ⟨r, 0, true⟩ :: T.els k t := rfl
  rw [e]
  unfold FirmE
  rw [List.map_cons]
  show badPre ((r, true) :: _) = _ ∧ Firm ((r, true) :: _)
  rw [badPre, badPre, Firm, h1]
  have h3 := h.1
  exact ⟨rfl, h3, h2⟩
 | (r, false) :: t, h => by
  obtain ⟨h1, h2⟩ := firm_els ok k (l := t) h.2
  have e : T.els k ((r, false) :: t) = (T.fa k r).map T.mk1 ++ T.els k t := rfl
  have hv : Utf8.valid r = true := by simpa using h.1
  rw [e]
  refine ⟨?_, firm_runes (ok.val k r hv) h2⟩
  obtain ⟨a, l, hl⟩ : ∃ a l, T.fa k r = a :: l := by
   cases h5 : T.fa k r with
   | nil => exact absurd h5 (ok.ne k r)
   | cons a l => exact ⟨a, l, rfl⟩
  rw [hl, List.map_cons, List.cons_append, badPre_rune rfl, badPre, if_neg (by simp)]
theorem firm_E (ok : T.Ok) (k : Bool) (s : List UInt8) : FirmE (T.E k s) :=
 (firm_sort fun y hy => (els_mem ok y hy).zero).2 (firm_els ok k (firm_text s)).2
theorem firm_many {b t : List El} (hb : ∀ y ∈ b, y.bad = false) : FirmE (b ++ t) ↔ (∀ y ∈ b, Utf8.valid y.r = true) ∧ FirmE t := by
 induction b with
 | nil => simp
 | cons x b ih =>
  rw [List.cons_append, firm_rune (hb x (by simp)), ih fun z hz => hb z (by simp [hz])]
  simp [and_assoc]
theorem firm_J (ok : T.Ok) : ∀ (L : List El) (st : Option (El × List El)), StOk st →
  (match st with
   | none => badPre (L.map El.p) = badPre ((J T.jn none L).map El.p) ∧ (FirmE L → FirmE (J T.jn none L))
   | some (s, b) => badPre ((J T.jn (some (s, b)) L).map El.p) = [] ∧ (FirmE (s :: (b ++ L)) → FirmE (J T.jn (some (s, b)) L))) := by
 refine J_ind (jn := T.jn) (P := fun st L => StOk st →
  (match st with
   | none => badPre (L.map El.p) = badPre ((J T.jn none L).map El.p) ∧ (FirmE L → FirmE (J T.jn none L))
   | some (s, b) => badPre ((J T.jn (some (s, b)) L).map El.p) = [] ∧ (FirmE (s :: (b ++ L)) → FirmE (J T.jn (some (s, b)) L)))) ?_ ?_ ?_ ?_ ?_ ?_ ?_ ?_
 ·intro _; exact ⟨rfl, id⟩
 ·intro s b hs
  rw [J]
  exact ⟨badPre_rune hs.1 _, by rw [List.append_nil]; exact id⟩
 ·intro x t h ih _
  obtain ⟨h1, h2⟩ := ih trivial
  show _ ∧ _
  rw [J, if_pos h]
  exact ⟨badPre_same h1, firm_same h1 h2⟩
 ·intro x t h ih _
  have hs : StOk (some (x, [])) := .start fun e => h (.inl e)
  obtain ⟨h1, h2⟩ := ih hs
  show _ ∧ _
  rw [J, if_neg h, h1, badPre_rune hs.1]
  exact ⟨rfl, h2⟩
 ·intro s b x t h ih hs
  obtain ⟨h1, h2⟩ := ih trivial
  show _ ∧ _
  rw [J_bad h]
  refine ⟨badPre_rune hs.1 _, fun hf => ?_⟩
  rw [firm_rune hs.1, firm_many hs.2] at hf ⊢
  exact ⟨hf.1, hf.2.1, firm_same h1 h2 hf.2.2⟩
 ·intro s b x t r h hf hj ih hs
  obtain ⟨h1, h2⟩ := ih hs
  show _ ∧ _
  rw [J_join h hf hj]
  refine ⟨h1, fun hf => h2 ?_⟩
  rw [firm_rune hs.1, firm_many hs.2, firm_rune (by simpa using h)] at hf
  rw [firm_rune (x := ⟨r, s.ord, s.bad⟩) hs.1, firm_many hs.2]
  exact ⟨ok.vj _ _ _ hj, hf.2.1, hf.2.2.2⟩
 ·intro s b x t h hf ho ih hs
  obtain ⟨h1, h2⟩ := ih (hs.snoc h)
  show _ ∧ _
  rw [J_mark h hf ho]
  exact ⟨h1, by simpa using h2⟩
 ·intro s b x t h hf ho ih hs
  obtain ⟨h1, h2⟩ := ih (.start h)
  show _ ∧ _
  rw [J_start h hf ho]
  refine ⟨badPre_rune hs.1 _, fun hf => ?_⟩
  rw [firm_rune hs.1, firm_many hs.2] at hf ⊢
  exact ⟨hf.1, hf.2.1, h2 hf.2.2⟩
/-- What a form has for elements. -/
theorem E_form (ok : T.Ok) (k c k' : Bool) (s : List UInt8) : T.E k' (T.form k c s) = T.E (k || k') s := by
 cases c with
 | false =>
  have hr : rawOf (T.form k false s) = (T.E k s).map El.p := rawOf_out (firm_E ok k s)
  rw [Tb.E, hr, els_p fun x hx => (mem_E ok x hx).zero, sort_again ok]
 | true =>
  have hr : rawOf (T.form k true s) = (J T.jn none (T.E k s)).map El.p := rawOf_out ((firm_J ok (T.E k s) none trivial).2 (firm_E ok k s))
  rw [Tb.E, hr, els_p (J_ord (T.E k s) none (fun z hz => (mem_E ok z hz).zero) trivial), join_again ok]
/-- A form of a form is a form. -/
theorem form_form (ok : T.Ok) (k c k' c' : Bool) (s : List UInt8) : T.form k' c' (T.form k c s) = T.form (k || k') c' s := by
 show out _ = out _
 rw [E_form ok]
/-- Equal forms have equal elements. -/
theorem E_of_form (ok : T.Ok) {k c : Bool} {s s' : List UInt8} (h : T.form k c s = T.form k c s') : T.E k s = T.E k s' := by
 have h1 := E_form ok k c k s
 have h2 := E_form ok k c k s'
 rw [h, Bool.or_self] at h1
 rw [Bool.or_self] at h2
 exact h1.symm.trans h2
theorem form_eq_iff (ok : T.Ok) {k c : Bool} {s s' : List UInt8} : T.form k c s = T.form k c s' ↔ T.E k s = T.E k s' := ⟨E_of_form ok, fun h => by show out _ = out _; rw [h]⟩
/-- Looser is the same where stricter is. -/
theorem E_loose (ok : T.Ok) {s s' : List UInt8} (h : T.E false s = T.E false s') : T.E true s = T.E true s' := by
 have h1 := sort_again ok false true s
 have h2 := sort_again ok false true s'
 rw [h] at h1
 exact h1.symm.trans h2
end Go.Nm
end

section
namespace Go.Nm
open Go.Rp Go.Lib

variable {T : Tb}
/-- The faults of some runes and faults. -/
def fs (l : List (Int × Bool)) : List Int := l.filterMap fun x => if x.2 = true then some x.1 else none
theorem fs_bad (r : Int) (t : List (Int × Bool)) : fs ((r, true) :: t) = r :: fs t := rfl
theorem fs_rune (r : Int) (t : List (Int × Bool)) : fs ((r, false) :: t) = fs t := rfl
theorem fs_append (a b : List (Int × Bool)) : fs (a ++ b) = fs a ++ fs b := by simp [fs]
def fsE (L : List El) : List Int := fs (L.map El.p)
theorem fsE_rune {x : El} (h : x.bad = false) (t : List El) : fsE (x :: t) = fsE t := by
 unfold fsE
 rw [List.map_cons]
 show fs ((x.r, x.bad) :: _) = _
 rw [h]
 rfl
theorem fsE_same (x : El) {t t' : List El} (h : fsE t = fsE t') : fsE (x :: t) = fsE (x :: t') := by
 unfold fsE at *
 rw [List.map_cons, List.map_cons]
 show fs ([x.p] ++ _) = fs ([x.p] ++ _)
 rw [fs_append, fs_append, h]
theorem fsE_many {b t : List El} (h : ∀ y ∈ b, y.bad = false) : fsE (b ++ t) = fsE t := by
 induction b with
 | nil => rfl
 | cons x b ih => rw [List.cons_append, fsE_rune (h x (by simp)), ih fun z hz => h z (by simp [hz])]
theorem fsE_ins {x : El} (hx : x.bad = true → x.ord = 0) : ∀ {L : List El}, (∀ y ∈ L, y.bad = true → y.ord = 0) → fsE (insL x L) = fsE (x :: L)
 | [], _ => rfl
 | y :: t, h => by
  by_cases h1 : 0 < y.ord ∧ y.ord < x.ord
  ·have hxb : x.bad = false := by cases e : x.bad with | true => have := hx e; omega | false => rfl
   have hyb : y.bad = false := by cases e : y.bad with | true => have := h y (by simp) e; omega | false => rfl
   have ih := fsE_ins hx (L := t) fun z hz => h z (by simp [hz])
   rw [insL_pass h1, fsE_rune hyb, fsE_rune hxb, fsE_rune hyb, ih, fsE_rune hxb]
  ·rw [insL_stop h1]
theorem fsE_sort : ∀ {L : List El}, (∀ y ∈ L, y.bad = true → y.ord = 0) → fsE (sortL L) = fsE L
 | [], _ => rfl
 | x :: t, h => by
  rw [sortL, fsE_ins (h x (by simp)) fun z hz => h z (List.mem_cons_of_mem _ (sortL_mem.1 hz))]
  exact fsE_same x (fsE_sort fun z hz => h z (by simp [hz]))
theorem fsE_els (k : Bool) : ∀ l : List (Int × Bool), fsE (T.els k l) = fs l
 | [] => rfl
 | (r, true) :: t => by
  have e : T.els k ((r, true) :: t) = ⟨r, 0, true⟩ :: T.els k t := rfl
  have ih := fsE_els k t
  rw [e, fs_bad, ← ih]
  rfl
 | (r, false) :: t => by
  have e : T.els k ((r, false) :: t) = (T.fa k r).map T.mk1 ++ T.els k t := rfl
  rw [e, fsE_many (by intro y hy; obtain ⟨z, _, rfl⟩ := List.mem_map.1 hy; rfl), fsE_els k t]
  rfl
theorem fsE_J (jn : Int → Int → Option Int) : ∀ (L : List El) (st : Option (El × List El)), StOk st → fsE (J jn st L) = fsE L := by
 refine J_ind (jn := jn) (P := fun st L => StOk st → fsE (J jn st L) = fsE L) ?_ ?_ ?_ ?_ ?_ ?_ ?_ ?_
 ·intro _; rfl
 ·intro s b hs
  have := fsE_many (t := []) hs.2
  rw [List.append_nil] at this
  rw [J, fsE_rune hs.1, this]
 ·intro x t h ih _
  rw [J, if_pos h]
  exact fsE_same x (ih trivial)
 ·intro x t h ih _
  have hs : StOk (some (x, [])) := .start fun e => h (.inl e)
  rw [J, if_neg h, ih hs, fsE_rune hs.1]
 ·intro s b x t h ih hs
  rw [J_bad h, fsE_rune hs.1, fsE_many hs.2]
  exact fsE_same x (ih trivial)
 ·intro s b x t r h hf hj ih hs
  rw [J_join h hf hj, ih hs, fsE_rune (by simpa using h)]
 ·intro s b x t h hf ho ih hs
  rw [J_mark h hf ho, ih (hs.snoc h), fsE_rune (by simpa using h)]
 ·intro s b x t h hf ho ih hs
  rw [J_start h hf ho, fsE_rune hs.1, fsE_many hs.2, ih (.start h), fsE_rune (by simpa using h)]
/-- A form has the faults of the text. -/
theorem fs_form (ok : T.Ok) (k c : Bool) (s : List UInt8) : fs (rawOf (T.form k c s)) = fs (rawOf s) := by
 have h0 : fsE (T.E k s) = fs (rawOf s) := by rw [Tb.E, fsE_sort fun y hy => (els_mem ok y hy).zero, fsE_els]
 cases c with
 | false =>
  have hr : rawOf (T.form k false s) = (T.E k s).map El.p := rawOf_out (firm_E ok k s)
  rw [hr]; exact h0
 | true =>
  have hr : rawOf (T.form k true s) = (J T.jn none (T.E k s)).map El.p := rawOf_out ((firm_J ok (T.E k s) none trivial).2 (firm_E ok k s))
  rw [hr]
  exact (fsE_J T.jn (T.E k s) none trivial).trans h0
/-- A plain text. -/
theorem rawOf_plain : ∀ {s : List UInt8}, (∀ c ∈ s, c.toNat < 128) → rawOf s = s.map fun c => ((c.toNat : Int), false)
 | [], _ => rfl
 | c :: t, h => by
  have hc := h c (by simp)
  have hd : dec (c :: t) = (c.toNat, 1) := by
   unfold dec decodeN
   simp only [List.getD_cons_zero, hc, if_true]
  have hr : run (c :: t) = c.toNat := by unfold run; rw [hd]
  have hw : wid (c :: t) = 1 := by unfold wid; rw [hd]
  rw [rawOf_step _ (by simp), hr, hw, if_neg (by omega), List.drop_one, List.tail_cons, rawOf_plain fun z hz => h z (by simp [hz])]
  rfl
theorem els_plain (ok : T.Ok) (k : Bool) : ∀ {s : List UInt8}, (∀ c ∈ s, c.toNat < 128) → T.els k (s.map fun c => ((c.toNat : Int), false)) = s.map fun c => ⟨c.toNat, 0, false⟩
 | [], _ => rfl
 | c :: t, h => by
  have hc := h c (by simp)
  have e : T.els k ((c :: t).map fun c => ((c.toNat : Int), false)) = (T.fa k c.toNat).map T.mk1 ++ T.els k (t.map fun c => ((c.toNat : Int), false)) := rfl
  rw [e, els_plain ok k fun z hz => h z (by simp [hz]), ok.asc k _ (by omega) (by omega)]
  show T.mk1 _ :: _ = _
  unfold Tb.mk1
  rw [ok.ascO _ (by omega) (by omega)]
  rfl
theorem sort_plain : ∀ s : List UInt8, sortL (s.map fun c => (⟨c.toNat, 0, false⟩ : El)) = s.map fun c => ⟨c.toNat, 0, false⟩
 | [] => rfl
 | c :: t => by rw [List.map_cons, sortL_zero rfl, sort_plain t]
theorem J_plain (ok : T.Ok) : ∀ {s : List UInt8}, (∀ c ∈ s, c.toNat < 128) → (J T.jn none (s.map fun c => ⟨c.toNat, 0, false⟩) = s.map fun c => ⟨c.toNat, 0, false⟩) ∧ ∀ z, J T.jn (some (z, [])) (s.map fun c => ⟨c.toNat, 0, false⟩) = z :: s.map fun c => ⟨c.toNat, 0, false⟩
 | [], _ => ⟨rfl, fun z => rfl⟩
 | c :: t, h => by
  have hc := h c (by simp)
  obtain ⟨h1, h2⟩ := J_plain ok (s := t) fun z hz => h z (by simp [hz])
  rw [List.map_cons]
  refine ⟨?_, fun z => ?_⟩
  ·rw [J, if_neg (by simp), h2]
  ·rw [J_start (by simp) (fun _ => ok.ascJ _ _ (by simp) (by show ((c.toNat : Nat) : Int) < 128; omega)) (by simp), h2]
   rfl
set_option maxRecDepth 100000 in
theorem out_plain : ∀ {s : List UInt8}, (∀ c ∈ s, c.toNat < 128) → out (s.map fun c => ⟨c.toNat, 0, false⟩) = s
 | [], _ => rfl
 | c :: t, h => by
  have hc := h c (by simp)
  have ih := out_plain (s := t) fun z hz => h z (by simp [hz])
  unfold out at *
  rw [List.map_cons, List.map_cons, List.flatMap_cons, ih]
  have e : El.p ⟨(c.toNat : Nat), 0, false⟩ = (((c.toNat : Nat) : Int), false) := rfl
  rw [e, encE_rune]
  unfold encB Utf8.encode
  have hv : Utf8.valid ((c.toNat : Nat) : Int) = true := by
   unfold Utf8.valid
   simp only [Bool.or_eq_true, Bool.and_eq_true, decide_eq_true_eq]
   omega
  simp only [hv, if_true, Int.toNat_natCast, hc]
  simp
theorem form_plain (ok : T.Ok) (k c : Bool) {s : List UInt8} (h : ∀ c ∈ s, c.toNat < 128) : T.form k c s = s := by
 have hE : T.E k s = s.map fun c => ⟨c.toNat, 0, false⟩ := by rw [Tb.E, rawOf_plain h, els_plain ok k h, sort_plain]
 cases c with
 | false => show out (T.E k s) = s; rw [hE, out_plain h]
 | true => show out (J T.jn none (T.E k s)) = s; rw [hE, (J_plain ok h).1, out_plain h]
/-- Before such an element what stands ahead has no part. -/
def Stop (T : Tb) (c : Bool) (z : El) : Prop := z.ord = 0 ∧ (z.bad = true ∨ (c = true → ∀ a, T.jn a z.r = none))
theorem J_skip {jn : Int → Int → Option Int} {x : El} {t : List El} (h : x.bad = true ∨ 0 < x.ord) : J jn none (x :: t) = x :: J jn none t := by rw [J, if_pos h]
theorem J_open {jn : Int → Int → Option Int} {x : El} {t : List El} (h : ¬ (x.bad = true ∨ 0 < x.ord)) : J jn none (x :: t) = J jn (some (x, [])) t := by rw [J, if_neg h]
theorem J_stop {jn : Int → Int → Option Int} {z : El} (hz : z.ord = 0) (hj : z.bad = true ∨ ∀ a, jn a z.r = none) (v : List El) : ∀ (L : List El) (st : Option (El × List El)), J jn st (L ++ z :: v) = J jn st L ++ J jn none (z :: v) := by
 refine J_ind (jn := jn) (P := fun st L => J jn st (L ++ z :: v) = J jn st L ++ J jn none (z :: v)) ?_ ?_ ?_ ?_ ?_ ?_ ?_ ?_
 ·rfl
 ·intro s b
  rw [List.nil_append]
  by_cases hb : z.bad = true
  ·rw [J_bad hb, J, J, if_pos (.inl hb)]
   simp
  ·have hj' : ∀ a, jn a z.r = none := hj.resolve_left hb
   rw [J_start hb (fun _ => hj' _) (by omega), J, J, if_neg (by rintro (h | h); exact hb h; omega)]
   simp
 ·intro x t h ih
  rw [List.cons_append, J_skip h, ih, J_skip h]
  rfl
 ·intro x t h ih
  rw [List.cons_append, J_open h, ih, J_open h]
 ·intro s b x t h ih
  rw [List.cons_append, J_bad h, ih, J_bad h]
  simp
 ·intro s b x t r h hf hj ih
  rw [List.cons_append, J_join h hf hj, ih, J_join h hf hj]
 ·intro s b x t h hf ho ih
  rw [List.cons_append, J_mark h hf ho, ih, J_mark h hf ho]
 ·intro s b x t h hf ho ih
  rw [List.cons_append, J_start h hf ho, ih, J_start h hf ho]
  simp
theorem out_append (a b : List El) : out (a ++ b) = out a ++ out b := by simp [out]
theorem els_append (k : Bool) (a b : List (Int × Bool)) : T.els k (a ++ b) = T.els k a ++ T.els k b := by simp [Tb.els]
/-- Cut where it is safe, the forms of both sides are the form. -/
theorem form_cut (k c : Bool) {p q s : List UInt8} (hr : rawOf s = rawOf p ++ rawOf q) (h : ∀ z ∈ (T.els k (rawOf q)).head?, Stop T c z) : T.form k c s = T.form k c p ++ T.form k c q := by
 have hE : T.E k s = T.E k p ++ T.E k q := by
  unfold Tb.E
  rw [hr, els_append]
  cases hq : T.els k (rawOf q) with
  | nil => simp [sortL]
  | cons z v =>
   rw [hq] at h
   rw [sortL_apart (h z (by simp)).1]
 cases c with
 | false =>
  show out (T.E k s) = out (T.E k p) ++ out (T.E k q)
  rw [hE, out_append]
 | true =>
  show out (J T.jn none (T.E k s)) = out (J T.jn none (T.E k p)) ++ out (J T.jn none (T.E k q))
  rw [hE, ← out_append]
  congr 1
  unfold Tb.E
  cases hq : T.els k (rawOf q) with
  | nil => simp [sortL, J]
  | cons z v =>
   rw [hq] at h
   have hz := h z (by simp)
   rw [sortL_zero hz.1]
   exact J_stop hz.1 (hz.2.imp id fun h => h rfl) _ _ none
end Go.Nm
end
