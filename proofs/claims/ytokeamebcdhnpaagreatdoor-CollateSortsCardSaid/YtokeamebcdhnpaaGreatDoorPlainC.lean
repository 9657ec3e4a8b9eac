/-
 A row cut at a byte, in plain words. Keys in plain words: how two compare; what a lesser level tells. A text's elements and its key in plain words; lesser levels tell less.
-/
import Derived.Lib.Split
import Derived.Lib.IndexMore
import Derived.Lib.Hide
import Derived.Test.YtokeamebcdhnpaaGreatDoorPlainM
section
namespace Go.Cl
open Go

/-- Cut at each byte c. -/
def splitC (c : UInt8) : List UInt8 → List UInt8 → List (List UInt8)
 | cur, [] => [cur]
 | cur, x :: t => if x = c then cur :: splitC c [] t else splitC c (cur ++ [x]) t
/-- Cut at the first byte c. -/
def cutC (c : UInt8) : List UInt8 → List UInt8 → List UInt8 × List UInt8
 | cur, [] => (cur, [])
 | cur, x :: t => if x = c then (cur, t) else cutC c (cur ++ [x]) t
theorem pre_one (c x : UInt8) (l : List UInt8) : [c].isPrefixOf (x :: l) = (c == x) := by simp [List.isPrefixOf]
theorem index_no (c : UInt8) : ∀ s : List UInt8, (∀ x ∈ s, x ≠ c) → Lib.index s [c] = -1
 | [], _ => rfl
 | x :: s, h => by
  have h1 := h x (List.mem_cons_self ..)
  have h2 := index_no c s (fun y hy => h y (List.mem_cons_of_mem _ hy))
  have hp : ¬ [c].isPrefixOf (x :: s) = true := by
   rw [pre_one]
   intro e
   exact h1 (beq_iff_eq.1 e).symm
  unfold Lib.index
  rw [if_neg hp, h2]
  rfl
theorem index_yes (c : UInt8) (b : List UInt8) : ∀ a : List UInt8, (∀ x ∈ a, x ≠ c) → Lib.index (a ++ c :: b) [c] = (a.length : Nat)
 | [], _ => by
  show Lib.index (c :: b) [c] = _
  unfold Lib.index
  rw [if_pos (by rw [pre_one]; exact beq_self_eq_true c)]
  rfl
 | x :: a, h => by
  have h1 := h x (List.mem_cons_self ..)
  have h2 := index_yes c b a (fun y hy => h y (List.mem_cons_of_mem _ hy))
  have hp : ¬ [c].isPrefixOf (x :: (a ++ c :: b)) = true := by
   rw [pre_one]
   intro e
   exact h1 (beq_iff_eq.1 e).symm
  show Lib.index (x :: (a ++ c :: b)) [c] = _
  unfold Lib.index
  rw [if_neg hp, h2, if_neg (by intro e; have := beq_iff_eq.1 e; omega)]
  simp
theorem splitC_pre (c : UInt8) (b : List UInt8) : ∀ (a cur : List UInt8), (∀ x ∈ a, x ≠ c) → splitC c cur (a ++ b) = splitC c (cur ++ a) b
 | [], cur, _ => by simp
 | x :: a, cur, h => by
  rw [List.cons_append, splitC, if_neg (h x (List.mem_cons_self ..)), splitC_pre c b a _ (fun y hy => h y (List.mem_cons_of_mem _ hy)), List.append_assoc]
  rfl
theorem cutC_pre (c : UInt8) (b : List UInt8) : ∀ (a cur : List UInt8), (∀ x ∈ a, x ≠ c) → cutC c cur (a ++ b) = cutC c (cur ++ a) b
 | [], cur, _ => by simp
 | x :: a, cur, h => by
  rw [List.cons_append, cutC, if_neg (h x (List.mem_cons_self ..)), cutC_pre c b a _ (fun y hy => h y (List.mem_cons_of_mem _ hy)), List.append_assoc]
  rfl
theorem parted_at (c : UInt8) : ∀ s : List UInt8, (∀ x ∈ s, x ≠ c) ∨ ∃ a b, s = a ++ c :: b ∧ ∀ x ∈ a, x ≠ c
 | [] => .inl (fun x h => by cases h)
 | x :: s => by
  by_cases h : x = c
  ·exact .inr ⟨[], s, by rw [h]; rfl, fun y h => by cases h⟩
  ·rcases parted_at c s with h1 | ⟨a, b, rfl, h1⟩
   ·exact .inl (fun y hy => by
     rcases List.mem_cons.1 hy with rfl | hy
     ·exact h
     ·exact h1 y hy)
   ·exact .inr ⟨x :: a, b, rfl, fun y hy => by
     rcases List.mem_cons.1 hy with rfl | hy
     ·exact h
     ·exact h1 y hy⟩
theorem split_C (c : UInt8) : ∀ (n : Nat) (s : List UInt8), s.length ≤ n → Lib.split s [c] = splitC c [] s := by
 intro n
 induction n with
 | zero =>
  intro s h
  obtain rfl : s = [] := List.length_eq_zero_iff.1 (by omega)
  have h1 := index_no c [] (fun x h => by cases h)
  unfold Lib.split
  rw [Lib.count_miss h1]
  rfl
 | succ n ih =>
  intro s h
  rcases parted_at c s with h1 | ⟨a, b, rfl, h1⟩
  ·have h2 := splitC_pre c [] s [] h1
   rw [List.append_nil] at h2
   unfold Lib.split
   rw [Lib.count_miss (index_no c s h1), h2]
   rfl
  ·have hi := index_yes c b a h1
   have hd : (a ++ c :: b).drop (a.length + [c].length) = b := by
    rw [show a ++ c :: b = (a ++ [c]) ++ b by simp, show a.length + [c].length = (a ++ [c]).length by simp, List.drop_left]
   have hc := Lib.count_hit (s := a ++ c :: b) (sub := [c]) (by simp) hi
   rw [hd] at hc
   have hb : b.length ≤ n := by
    rw [List.length_append, List.length_cons] at h
    omega
   have h3 := ih b hb
   unfold Lib.split at h3 ⊢
   rw [hc, Nat.add_comm, Lib.splitK, hi, if_neg (by intro e; have := beq_iff_eq.1 e; omega)]
   rw [show ((a.length : Nat) : Int).toNat = a.length from rfl, hd, h3, splitC_pre c _ a [] h1, List.nil_append, Nat.add_zero, List.take_left, splitC, if_pos rfl]
theorem cut_C (c : UInt8) (s : List UInt8) : (Lib.cut s [c]).1 = (cutC c [] s).1 ∧ (Lib.cut s [c]).2.1 = (cutC c [] s).2 := by
 rcases parted_at c s with h1 | ⟨a, b, rfl, h1⟩
 ·have h2 := cutC_pre c [] s [] h1
  rw [List.append_nil, List.nil_append] at h2
  have hi := index_no c s h1
  unfold Lib.cut
  rw [hi, if_neg (by decide), h2]
  exact ⟨rfl, rfl⟩
 ·have hi := index_yes c b a h1
  have hd : (a ++ c :: b).drop (a.length + [c].length) = b := by
   rw [show a ++ c :: b = (a ++ [c]) ++ b by simp, show a.length + [c].length = (a ++ [c]).length by simp, List.drop_left]
  unfold Lib.cut
  rw [hi, if_pos (by omega), show ((a.length : Nat) : Int).toNat = a.length from rfl, hd, cutC_pre c _ a [] h1, List.nil_append, List.take_left, cutC, if_pos rfl]
  exact ⟨rfl, rfl⟩
end Go.Cl
end

section
namespace Go.Cl

/-- Which of two rows of bytes stands ahead. -/
def cmpB : List UInt8 → List UInt8 → Int
 | [], [] => 0
 | [], _ :: _ => -1
 | _ :: _, [] => 1
 | a :: l, b :: m => if a < b then -1 else if b < a then 1 else cmpB l m
theorem cmpB_refl (l : List UInt8) : cmpB l l = 0 := by
 induction l with
 | nil => rfl
 | cons a l ih =>
  have h : ¬ a < a := UInt8.lt_irrefl a
  simp only [cmpB, if_neg h, ih]
theorem u8_tri (a b : UInt8) : a < b ∨ a = b ∨ b < a := by
 rcases Nat.lt_trichotomy a.toNat b.toNat with h | h | h
 ·exact .inl (UInt8.lt_iff_toNat_lt.2 h)
 ·exact .inr (.inl (UInt8.toNat_inj.1 h))
 ·exact .inr (.inr (UInt8.lt_iff_toNat_lt.2 h))
theorem u8_asym {a b : UInt8} (h : a < b) : ¬ b < a := fun k => by
 have h1 := UInt8.lt_iff_toNat_lt.1 h
 have h2 := UInt8.lt_iff_toNat_lt.1 k
 omega
theorem cmpB_swap (l m : List UInt8) : cmpB m l = - cmpB l m := by
 induction l generalizing m with
 | nil => cases m <;> rfl
 | cons a l ih =>
  cases m with
  | nil => rfl
  | cons b m =>
   rcases u8_tri a b with h | h | h
   ·simp only [cmpB, if_pos h, if_neg (u8_asym h)]; rfl
   ·subst h
    have h : ¬ a < a := UInt8.lt_irrefl a
    simp only [cmpB, if_neg h, ih]
   ·simp only [cmpB, if_pos h, if_neg (u8_asym h)]
theorem cmpB_vals (l m : List UInt8) : cmpB l m = -1 ∨ cmpB l m = 0 ∨ cmpB l m = 1 := by
 induction l generalizing m with
 | nil => cases m <;> simp [cmpB]
 | cons a l ih =>
  cases m with
  | nil => simp [cmpB]
  | cons b m =>
   simp only [cmpB]
   split
   ·exact .inl rfl
   ·split
    ·exact .inr (.inr rfl)
    ·exact ih m
theorem cmpB_eq {l m : List UInt8} (h : cmpB l m = 0) : l = m := by
 induction l generalizing m with
 | nil =>
  cases m with
  | nil => rfl
  | cons b m => simp [cmpB] at h
 | cons a l ih =>
  cases m with
  | nil => simp [cmpB] at h
  | cons b m =>
   rcases u8_tri a b with h1 | h1 | h1
   ·simp [cmpB, h1] at h
   ·subst h1
    have h2 : ¬ a < a := UInt8.lt_irrefl a
    simp only [cmpB, if_neg h2] at h
    rw [ih h]
   ·simp [cmpB, h1, u8_asym h1] at h
theorem cmpB_pre (p l m : List UInt8) : cmpB (p ++ l) (p ++ m) = cmpB l m := by
 induction p with
 | nil => rfl
 | cons a p ih =>
  have h : ¬ a < a := UInt8.lt_irrefl a
  simp only [List.cons_append, cmpB, if_neg h, ih]
/-- Where two of one length differ, what comes behind tells nothing. -/
theorem cmpB_first {p q : List UInt8} (hl : p.length = q.length) (hne : p ≠ q) (l m : List UInt8) : cmpB (p ++ l) (q ++ m) = cmpB p q ∧ cmpB p q ≠ 0 := by
 refine ⟨?_, fun h => hne (cmpB_eq h)⟩
 induction p generalizing q with
 | nil =>
  cases q with
  | nil => exact absurd rfl hne
  | cons b q => simp at hl
 | cons a p ih =>
  cases q with
  | nil => simp at hl
  | cons b q =>
   rcases u8_tri a b with h | h | h
   ·simp [cmpB, h]
   ·subst h
    have h2 : ¬ a < a := UInt8.lt_irrefl a
    simp only [List.cons_append, cmpB, if_neg h2]
    exact ih (by simpa using hl) (fun e => hne (by rw [e]))
   ·simp [cmpB, h, u8_asym h]
/-- Words of one length, none of them naught. -/
def Words (m : Nat) (X : List (List UInt8)) : Prop := ∀ x ∈ X, x.length = m ∧ x ≠ List.replicate m 0
theorem Words.tail {m : Nat} {x : List UInt8} {X : List (List UInt8)} (h : Words m (x :: X)) : Words m X := fun y hy => h y (List.mem_cons_of_mem _ hy)
theorem u8_pos {a : UInt8} (h : a ≠ 0) : (0 : UInt8) < a := by
 rcases u8_tri 0 a with g | g | g
 ·exact g
 ·exact absurd g.symm h
 ·have := UInt8.lt_iff_toNat_lt.1 g
  simp at this
/-- Naught and naught ahead of a word: the word is behind. -/
theorem sep_ahead {m : Nat} (hm : 1 ≤ m ∧ m ≤ 3) {x : List UInt8} (hx : x.length = m ∧ x ≠ List.replicate m 0) (u r : List UInt8) (hu : m = 3 → u.head? = none ∨ u.head? = some 0) :
  cmpB (0 :: 0 :: u) (x ++ r) = -1 := by
 obtain ⟨hl, hne⟩ := hx
 have h00 : ¬ (0 : UInt8) < 0 := UInt8.lt_irrefl 0
 rcases x with _ | ⟨a, _ | ⟨b, _ | ⟨c, _ | ⟨d, x⟩⟩⟩⟩ <;> simp only [List.length_cons, List.length_nil] at hl
 ·omega
 ·subst hl
  have ha : a ≠ 0 := fun e => hne (by subst e; rfl)
  simp only [List.cons_append, cmpB, if_pos (u8_pos ha)]
 ·subst hl
  by_cases ha : a = 0
  ·subst ha
   have hb : b ≠ 0 := fun e => hne (by subst e; rfl)
   simp only [List.cons_append, cmpB, if_neg h00, if_pos (u8_pos hb)]
  ·simp only [List.cons_append, cmpB, if_pos (u8_pos ha)]
 ·subst hl
  by_cases ha : a = 0
  ·subst ha
   by_cases hb : b = 0
   ·subst hb
    have hc : c ≠ 0 := fun e => hne (by subst e; rfl)
    cases u with
    | nil => simp only [List.cons_append, List.nil_append, cmpB, if_neg h00]
    | cons v u =>
     obtain rfl : v = 0 := by
      rcases hu rfl with h | h
      ·simp at h
      ·simpa using h
     simp only [List.cons_append, List.nil_append, cmpB, if_neg h00, if_pos (u8_pos hc)]
   ·simp only [List.cons_append, cmpB, if_neg h00, if_pos (u8_pos hb)]
  ·simp only [List.cons_append, cmpB, if_pos (u8_pos ha)]
 ·omega
theorem nil_ahead {x : List UInt8} (hx : 0 < x.length) (r : List UInt8) : cmpB [] (x ++ r) = -1 := by
 cases x with
 | nil => simp at hx
 | cons a x => rfl
/-- A section decides by itself, where it is not the same. -/
theorem sec_cmp {m : Nat} (hm : 1 ≤ m ∧ m ≤ 3) {X Y : List (List UInt8)} (hX : Words m X) (hY : Words m Y) (hne : X ≠ Y) (u v : List UInt8)
  (hu : m = 3 → u.head? = none ∨ u.head? = some 0) (hv : m = 3 → v.head? = none ∨ v.head? = some 0) :
  cmpB (X.flatten ++ 0 :: 0 :: u) (Y.flatten ++ 0 :: 0 :: v) = cmpB X.flatten Y.flatten ∧ cmpB X.flatten Y.flatten ≠ 0 := by
 induction X generalizing Y with
 | nil =>
  cases Y with
  | nil => exact absurd rfl hne
  | cons y Y =>
   have hy := hY y (List.mem_cons_self ..)
   rw [List.flatten_nil, List.nil_append, List.flatten_cons, List.append_assoc, sep_ahead hm hy u _ hu, nil_ahead (by omega)]
   exact ⟨rfl, by decide⟩
 | cons x X ih =>
  have hx := hX x (List.mem_cons_self ..)
  cases Y with
  | nil =>
   rw [List.flatten_nil, List.nil_append, List.flatten_cons, List.append_assoc, cmpB_swap (0 :: 0 :: v), sep_ahead hm hx v _ hv, cmpB_swap [], nil_ahead (by omega)]
   exact ⟨rfl, by decide⟩
  | cons y Y =>
   have hy := hY y (List.mem_cons_self ..)
   rw [List.flatten_cons, List.flatten_cons, List.append_assoc, List.append_assoc]
   by_cases hxy : x = y
   ·subst hxy
    rw [cmpB_pre, cmpB_pre]
    exact ih hX.tail hY.tail (fun e => hne (by rw [e]))
   ·have h1 := cmpB_first (hx.1.trans hy.1.symm) hxy
    rw [(h1 _ _).1, (h1 X.flatten Y.flatten).1]
    exact ⟨rfl, (h1 [] []).2⟩
end Go.Cl
end

section
namespace Go.Cl
open Go.Rp

/-- First, Second, Third. -/
abbrev El := Nat × Nat × Nat
abbrev Book := List (List UInt8 × List El)
def lookBk (B : Book) (k : List UInt8) : Option (List El) := (B.find? fun p => p.1 == k).map (·.2)
/-- The longest beginning, of at most so many bytes, that the book has. -/
def longest (B : Book) (t : List UInt8) : Nat → Option (Nat × List El)
 | 0 => none
 | n + 1 => match lookBk B (t.take (n + 1)) with
  | some e => some (n + 1, e)
  | none => longest B t n
def plainE (t : List UInt8) : El := (if (dec t).1 = 65533 ∧ (dec t).2 = 1 then 2000000 + (t.getD 0 0).toNat else 65536 + (dec t).1, 32, 2)
def elemsGo (B : Book) (most : Nat) : Nat → List UInt8 → List El
 | 0, _ => []
 | k + 1, t => if t = [] then [] else match longest B t (min most t.length) with
  | some (n, e) => e ++ elemsGo B most k (t.drop n)
  | none => plainE t :: elemsGo B most k (t.drop (dec t).2)
def elems (B : Book) (most : Nat) (t : List UInt8) : List El := elemsGo B most t.length t
def EOk (e : El) : Prop := e.1 < 16777216 ∧ e.2.1 < 256 ∧ e.2.2 < 256
def BOk (B : Book) : Prop := ∀ p ∈ B, ∀ e ∈ p.2, EOk e
theorem lookBk_mem {B : Book} {k : List UInt8} {e : List El} (h : lookBk B k = some e) : ∃ p ∈ B, p.2 = e ∧ p.1 = k := by
 unfold lookBk at h
 cases hf : B.find? (fun p => p.1 == k) with
 | none => rw [hf] at h; cases h
 | some p =>
  rw [hf] at h
  exact ⟨p, List.mem_of_find?_eq_some hf, by simpa using h, by simpa using List.find?_some hf⟩
theorem longest_some {B : Book} {t : List UInt8} {m : Nat} {n : Nat} {e : List El} (h : longest B t m = some (n, e)) : 1 ≤ n ∧ n ≤ m ∧ lookBk B (t.take n) = some e := by
 induction m with
 | zero => cases h
 | succ m ih =>
  unfold longest at h
  cases hl : lookBk B (t.take (m + 1)) with
  | some e' =>
   rw [hl] at h
   obtain ⟨rfl, rfl⟩ := Prod.mk.inj (Option.some.inj h)
   exact ⟨by omega, Nat.le_refl _, hl⟩
  | none =>
   rw [hl] at h
   obtain ⟨h1, h2, h3⟩ := ih h
   exact ⟨h1, by omega, h3⟩
theorem plainE_ok (t : List UInt8) : EOk (plainE t) := by
 have h1 : (dec t).1 ≤ 1114111 := run_max t
 have h2 : (t.getD 0 0).toNat < 256 := byte_lt _
 refine ⟨?_, (by decide : 32 < 256), (by decide : 2 < 256)⟩
 by_cases h : (dec t).1 = 65533 ∧ (dec t).2 = 1
 ·have e : (plainE t).1 = 2000000 + (t.getD 0 0).toNat := if_pos h
  omega
 ·have e : (plainE t).1 = 65536 + (dec t).1 := if_neg h
  omega
theorem elemsGo_ok {B : Book} (hB : BOk B) (most : Nat) : ∀ k t, ∀ e ∈ elemsGo B most k t, EOk e := by
 intro k
 induction k with
 | zero => intro t e he; cases he
 | succ k ih =>
  intro t e he
  unfold elemsGo at he
  by_cases ht : t = []
  ·rw [if_pos ht] at he; cases he
  ·rw [if_neg ht] at he
   cases hl : longest B t (min most t.length) with
   | some q =>
    obtain ⟨n, l⟩ := q
    rw [hl] at he
    rcases List.mem_append.1 he with h | h
    ·obtain ⟨p, hp, rfl, _⟩ := lookBk_mem (longest_some hl).2.2
     exact hB p hp e h
    ·exact ih _ e h
   | none =>
    rw [hl] at he
    rcases List.mem_cons.1 he with rfl | h
    ·exact plainE_ok t
    ·exact ih _ e h
theorem elems_ok {B : Book} (hB : BOk B) (most : Nat) (t : List UInt8) : ∀ e ∈ elems B most t, EOk e := elemsGo_ok hB most _ t

def b8 (n : Nat) : UInt8 := UInt8.ofNat n
def lightE (e : El) : Bool := decide (1 ≤ e.1) && decide (e.1 ≤ 499)
def heavyGo : Bool → List El → List El
 | _, [] => []
 | b, e :: l => if lightE e then heavyGo true l else if e.1 ≠ 0 then e :: heavyGo false l else if b then heavyGo b l else e :: heavyGo b l
def heavyL (shift : Bool) (l : List El) : List El := if shift then heavyGo false l else l
def thirdN (great : Bool) (n : Nat) : Nat := if great = true ∧ (n = 8 ∨ n = 9) then n - 7 else if great = true ∧ (n = 1 ∨ n = 2) then n + 7 else n
def w3 (l : List El) : List (List UInt8) := l.flatMap fun e => if e.1 = 0 then [] else [[b8 (e.1 / 65536), b8 (e.1 / 256), b8 e.1]]
def wS (l : List El) : List (List UInt8) := l.flatMap fun e => if e.2.1 = 0 then [] else [[b8 (e.2.1 / 256), b8 e.2.1]]
def wT (great : Bool) (l : List El) : List (List UInt8) := l.flatMap fun e => if e.2.2 = 0 then [] else [[b8 (thirdN great e.2.2)]]
def wF (l : List El) : List (List UInt8) := l.flatMap fun e => if lightE e then [[b8 (e.1 / 256), b8 e.1]] else if e.1 = 0 then [] else [[255, 255]]
structure Ord where
 level : Int
 shift : Bool
 back : Bool
 great : Bool
def secs (o : Ord) (all : List El) (t : List UInt8) : List (List UInt8) :=
 [(w3 (heavyL o.shift all)).flatten] ++ (if 2 ≤ o.level then [(wS (if o.back then (heavyL o.shift all).reverse else heavyL o.shift all)).flatten] else [])
  ++ (if 3 ≤ o.level then (wT o.great (heavyL o.shift all)).flatten :: (if o.shift then [(wF all).flatten] else []) else []) ++ (if o.level = 4 then [t] else [])
def joinS : List (List UInt8) → List UInt8
 | [] => []
 | [x] => x
 | x :: y :: l => x ++ 0 :: 0 :: joinS (y :: l)
def keyL (B : Book) (most : Nat) (o : Ord) (t : List UInt8) : List UInt8 := if 1 ≤ o.level ∧ o.level ≤ 4 then joinS (secs o (elems B most t) t) else []

theorem b8_zero {n : Nat} (h : b8 n = 0) : n % 256 = 0 := by
 have := congrArg UInt8.toNat h
 simpa [b8] using this
theorem heavyGo_sub (l : List El) : ∀ b, ∀ e ∈ heavyGo b l, e ∈ l := by
 induction l with
 | nil => intro b e he; cases he
 | cons x l ih =>
  intro b e he
  unfold heavyGo at he
  split at he
  ·exact List.mem_cons_of_mem _ (ih _ e he)
  ·split at he
   ·rcases List.mem_cons.1 he with rfl | h
    ·exact List.mem_cons_self ..
    ·exact List.mem_cons_of_mem _ (ih _ e h)
   ·split at he
    ·exact List.mem_cons_of_mem _ (ih _ e he)
    ·rcases List.mem_cons.1 he with rfl | h
     ·exact List.mem_cons_self ..
     ·exact List.mem_cons_of_mem _ (ih _ e h)
theorem heavyL_sub (s : Bool) (l : List El) : ∀ e ∈ heavyL s l, e ∈ l := by
 unfold heavyL
 split
 ·exact heavyGo_sub l false
 ·exact fun e h => h
theorem w3_words {l : List El} (h : ∀ e ∈ l, EOk e) : Words 3 (w3 l) := by
 intro x hx
 obtain ⟨e, he, hx⟩ := List.mem_flatMap.1 hx
 obtain ⟨h1, h2, h3⟩ := h e he
 split at hx
 ·cases hx
 ·obtain rfl := List.mem_singleton.1 hx
  refine ⟨rfl, fun c => ?_⟩
  have c1 := congrArg (fun z => z.getD 0 0) c
  have c2 := congrArg (fun z => z.getD 1 0) c
  have c3 := congrArg (fun z => z.getD 2 0) c
  have g1 := b8_zero (n := e.1 / 65536) (by simpa using c1)
  have g2 := b8_zero (n := e.1 / 256) (by simpa using c2)
  have g3 := b8_zero (n := e.1) (by simpa using c3)
  omega
theorem wS_words {l : List El} (h : ∀ e ∈ l, EOk e) : Words 2 (wS l) ∧ ((wS l).flatten.head? = none ∨ (wS l).flatten.head? = some 0) := by
 constructor
 ·intro x hx
  obtain ⟨e, he, hx⟩ := List.mem_flatMap.1 hx
  obtain ⟨h1, h2, h3⟩ := h e he
  split at hx
  ·cases hx
  ·obtain rfl := List.mem_singleton.1 hx
   refine ⟨rfl, fun c => ?_⟩
   have c2 := congrArg (fun z => z.getD 1 0) c
   have g2 := b8_zero (n := e.2.1) (by simpa using c2)
   omega
 ·induction l with
  | nil => exact .inl rfl
  | cons e l ih =>
   obtain ⟨h1, h2, h3⟩ := h e (List.mem_cons_self ..)
   unfold wS
   rw [List.flatMap_cons]
   by_cases h0 : e.2.1 = 0
   ·rw [if_pos h0, List.nil_append]
    exact ih (fun x hx => h x (List.mem_cons_of_mem _ hx))
   ·rw [if_neg h0]
    right
    have : e.2.1 / 256 = 0 := by omega
    simp [this, b8]
theorem wT_words {great : Bool} {l : List El} (h : ∀ e ∈ l, EOk e) : Words 1 (wT great l) := by
 intro x hx
 obtain ⟨e, he, hx⟩ := List.mem_flatMap.1 hx
 obtain ⟨h1, h2, h3⟩ := h e he
 split at hx
 ·cases hx
 ·obtain rfl := List.mem_singleton.1 hx
  refine ⟨rfl, fun c => ?_⟩
  have c1 := congrArg (fun z => z.getD 0 0) c
  have g1 := b8_zero (n := thirdN great e.2.2) (by simpa using c1)
  unfold thirdN at g1
  split at g1
  ·omega
  ·split at g1
   ·omega
   ·omega
theorem wF_words (l : List El) : Words 2 (wF l) := by
 intro x hx
 obtain ⟨e, he, hx⟩ := List.mem_flatMap.1 hx
 split at hx
 ·rename_i hl
  simp [lightE] at hl
  obtain rfl := List.mem_singleton.1 hx
  refine ⟨rfl, fun c => ?_⟩
  have c1 := congrArg (fun z => z.getD 0 0) c
  have c2 := congrArg (fun z => z.getD 1 0) c
  have g1 := b8_zero (n := e.1 / 256) (by simpa using c1)
  have g2 := b8_zero (n := e.1) (by simpa using c2)
  omega
 ·split at hx
  ·cases hx
  ·obtain rfl := List.mem_singleton.1 hx
   exact ⟨rfl, by decide⟩
/-- How two of one level compare. -/
def cmpK (B : Book) (most : Nat) (o : Ord) (a b : List UInt8) : Int := cmpB (keyL B most o a) (keyL B most o b)
theorem levels {B : Book} (hB : BOk B) (most : Nat) (s k g : Bool) (a b : List UInt8) :
  (∀ n : Int, 1 ≤ n → n ≤ 3 → cmpK B most ⟨n, s, k, g⟩ a b ≠ 0 → cmpK B most ⟨n + 1, s, k, g⟩ a b = cmpK B most ⟨n, s, k, g⟩ a b) ∧ (cmpK B most ⟨4, s, k, g⟩ a b = 0 ↔ a = b) := by
 have hEa := elems_ok hB most a
 have hEb := elems_ok hB most b
 have hHa : ∀ e ∈ heavyL s (elems B most a), EOk e := fun e he => hEa e (heavyL_sub s _ e he)
 have hHb : ∀ e ∈ heavyL s (elems B most b), EOk e := fun e he => hEb e (heavyL_sub s _ e he)
 have h3a := w3_words hHa
 have h3b := w3_words hHb
 have hSa := wS_words (l := if k then (heavyL s (elems B most a)).reverse else heavyL s (elems B most a)) (fun e he => hHa e (by split at he; exact List.mem_reverse.1 he; exact he))
 have hSb := wS_words (l := if k then (heavyL s (elems B most b)).reverse else heavyL s (elems B most b)) (fun e he => hHb e (by split at he; exact List.mem_reverse.1 he; exact he))
 have hTa := wT_words (great := g) hHa
 have hTb := wT_words (great := g) hHb
 have hFa := wF_words (elems B most a)
 have hFb := wF_words (elems B most b)
 have hsame : a = b → w3 (heavyL s (elems B most a)) = w3 (heavyL s (elems B most b)) ∧ wS (if k then (heavyL s (elems B most a)).reverse else heavyL s (elems B most a)) = wS (if k then (heavyL s (elems B most b)).reverse else heavyL s (elems B most b)) ∧ wT g (heavyL s (elems B most a)) = wT g (heavyL s (elems B most b)) ∧ wF (elems B most a) = wF (elems B most b) := by
  rintro rfl
  exact ⟨rfl, rfl, rfl, rfl⟩
 unfold cmpK
 have k1 : ∀ t, keyL B most ⟨1, s, k, g⟩ t = (w3 (heavyL s (elems B most t))).flatten := fun t => by simp [keyL, secs, joinS]
 have k2 : ∀ t, keyL B most ⟨2, s, k, g⟩ t = (w3 (heavyL s (elems B most t))).flatten ++ 0 :: 0 :: (wS (if k then (heavyL s (elems B most t)).reverse else heavyL s (elems B most t))).flatten := fun t => by simp [keyL, secs, joinS]
 have k3 : ∀ t, keyL B most ⟨3, s, k, g⟩ t = (w3 (heavyL s (elems B most t))).flatten ++ 0 :: 0 :: ((wS (if k then (heavyL s (elems B most t)).reverse else heavyL s (elems B most t))).flatten ++ 0 :: 0 :: ((wT g (heavyL s (elems B most t))).flatten ++ (if s then 0 :: 0 :: (wF (elems B most t)).flatten else []))) := fun t => by cases s <;> simp [keyL, secs, joinS]
 have k4 : ∀ t, keyL B most ⟨4, s, k, g⟩ t = (w3 (heavyL s (elems B most t))).flatten ++ 0 :: 0 :: ((wS (if k then (heavyL s (elems B most t)).reverse else heavyL s (elems B most t))).flatten ++ 0 :: 0 :: ((wT g (heavyL s (elems B most t))).flatten ++ 0 :: 0 :: (if s then (wF (elems B most t)).flatten ++ 0 :: 0 :: t else t))) := fun t => by cases s <;> simp [keyL, secs, joinS]
 have hn : ∀ n : Int, 1 ≤ n → n ≤ 3 → n = 1 ∨ n = 2 ∨ n = 3 := fun n h1 h2 => by omega
 have hd : ∀ (x u : List UInt8), x.head? = none ∨ x.head? = some 0 → (x ++ 0 :: u).head? = none ∨ (x ++ 0 :: u).head? = some 0 := fun x u h => by
  cases x with
  | nil => exact .inr rfl
  | cons c x => exact h
 rw [k4 a, k4 b]
 generalize hA3 : w3 (heavyL s (elems B most a)) = A3 at *
 generalize hB3 : w3 (heavyL s (elems B most b)) = B3 at *
 generalize hAS : wS (if k then (heavyL s (elems B most a)).reverse else heavyL s (elems B most a)) = AS at *
 generalize hBS : wS (if k then (heavyL s (elems B most b)).reverse else heavyL s (elems B most b)) = BS at *
 generalize hAT : wT g (heavyL s (elems B most a)) = AT at *
 generalize hBT : wT g (heavyL s (elems B most b)) = BT at *
 generalize hAF : wF (elems B most a) = AF at *
 generalize hBF : wF (elems B most b) = BF at *
 have K1a := k1 a; have K1b := k1 b; have K2a := k2 a; have K2b := k2 b; have K3a := k3 a; have K3b := k3 b; have K4a := k4 a; have K4b := k4 b
 rw [hA3] at K1a K2a K3a K4a; rw [hB3] at K1b K2b K3b K4b
 rw [hAS] at K2a K3a K4a; rw [hBS] at K2b K3b K4b
 rw [hAT] at K3a K4a; rw [hBT] at K3b K4b
 rw [hAF] at K3a K4a; rw [hBF] at K3b K4b
 by_cases e3 : A3 = B3
 ·by_cases eS : AS = BS
  ·by_cases eT : AT = BT
   ·subst e3 eS eT
    by_cases eF : AF = BF ∨ s = false
    ·have h4 : cmpB (A3.flatten ++ 0 :: 0 :: (AS.flatten ++ 0 :: 0 :: (AT.flatten ++ 0 :: 0 :: (if s then AF.flatten ++ 0 :: 0 :: a else a)))) (A3.flatten ++ 0 :: 0 :: (AS.flatten ++ 0 :: 0 :: (AT.flatten ++ 0 :: 0 :: (if s then BF.flatten ++ 0 :: 0 :: b else b)))) = cmpB a b := by
      rw [cmpB_pre]
      show cmpB (AS.flatten ++ _) (AS.flatten ++ _) = _
      rw [cmpB_pre]
      show cmpB (AT.flatten ++ _) (AT.flatten ++ _) = _
      rw [cmpB_pre]
      cases s with
      | false => rfl
      | true =>
       obtain rfl : AF = BF := by simpa using eF
       show cmpB (AF.flatten ++ _) (AF.flatten ++ _) = _
       rw [cmpB_pre]
       rfl
     refine ⟨fun n h1 h2 h0 => ?_, ?_⟩
     ·exfalso
      rcases hn n h1 h2 with rfl | rfl | rfl
      ·rw [K1a, K1b] at h0; exact h0 (cmpB_refl _)
      ·rw [K2a, K2b] at h0; exact h0 (cmpB_refl _)
      ·rw [K3a, K3b] at h0
       cases s with
       | false => exact h0 (cmpB_refl _)
       | true =>
        obtain rfl : AF = BF := by simpa using eF
        exact h0 (cmpB_refl _)
     ·rw [h4]
      exact ⟨cmpB_eq, fun e => by rw [e]; exact cmpB_refl _⟩
    ·obtain ⟨eG, rfl⟩ : AF ≠ BF ∧ s = true := ⟨fun e => eF (.inl e), by simpa using fun h => eF (.inr h)⟩
     have h4 : cmpB (A3.flatten ++ 0 :: 0 :: (AS.flatten ++ 0 :: 0 :: (AT.flatten ++ 0 :: 0 :: (if true then AF.flatten ++ 0 :: 0 :: a else a)))) (A3.flatten ++ 0 :: 0 :: (AS.flatten ++ 0 :: 0 :: (AT.flatten ++ 0 :: 0 :: (if true then BF.flatten ++ 0 :: 0 :: b else b)))) = cmpB AF.flatten BF.flatten ∧ cmpB AF.flatten BF.flatten ≠ 0 := by
      rw [cmpB_pre]
      show cmpB (AS.flatten ++ _) (AS.flatten ++ _) = _ ∧ _
      rw [cmpB_pre]
      show cmpB (AT.flatten ++ _) (AT.flatten ++ _) = _ ∧ _
      rw [cmpB_pre]
      exact sec_cmp (m := 2) (by omega) hFa hFb eG a b (fun h => by omega) (fun h => by omega)
     refine ⟨fun n h1 h2 h0 => ?_, ?_⟩
     ·rcases hn n h1 h2 with rfl | rfl | rfl
      ·rw [K1a, K1b] at h0; exact absurd (cmpB_refl _) h0
      ·rw [K2a, K2b] at h0; exact absurd (cmpB_refl _) h0
      ·rw [show (3 : Int) + 1 = 4 from rfl, K4a, K4b, K3a, K3b, h4.1, cmpB_pre]
       show _ = cmpB (AS.flatten ++ _) (AS.flatten ++ _)
       rw [cmpB_pre]
       show _ = cmpB (AT.flatten ++ _) (AT.flatten ++ _)
       rw [cmpB_pre]
       rfl
     ·rw [h4.1]
      exact ⟨fun e => absurd e h4.2, fun e => absurd (hsame e).2.2.2 eG⟩
   ·subst e3 eS
    have h9 := fun u v => sec_cmp (m := 1) (by omega) hTa hTb eT u v (fun h => by omega) (fun h => by omega)
    have h4 : cmpB (A3.flatten ++ 0 :: 0 :: (AS.flatten ++ 0 :: 0 :: (AT.flatten ++ 0 :: 0 :: (if s then AF.flatten ++ 0 :: 0 :: a else a)))) (A3.flatten ++ 0 :: 0 :: (AS.flatten ++ 0 :: 0 :: (BT.flatten ++ 0 :: 0 :: (if s then BF.flatten ++ 0 :: 0 :: b else b)))) = cmpB AT.flatten BT.flatten ∧ cmpB AT.flatten BT.flatten ≠ 0 := by
     rw [cmpB_pre]
     show cmpB (AS.flatten ++ _) (AS.flatten ++ _) = _ ∧ _
     rw [cmpB_pre]
     exact h9 _ _
    refine ⟨fun n h1 h2 h0 => ?_, ?_⟩
    ·rcases hn n h1 h2 with rfl | rfl | rfl
     ·rw [K1a, K1b] at h0; exact absurd (cmpB_refl _) h0
     ·rw [K2a, K2b] at h0; exact absurd (cmpB_refl _) h0
     ·rw [show (3 : Int) + 1 = 4 from rfl, K4a, K4b, K3a, K3b, h4.1, cmpB_pre]
      show _ = cmpB (AS.flatten ++ _) (AS.flatten ++ _)
      rw [cmpB_pre]
      cases s with
      | false =>
       show _ = cmpB (AT.flatten ++ []) (BT.flatten ++ [])
       rw [List.append_nil, List.append_nil]
      | true => exact (h9 _ _).1.symm
    ·rw [h4.1]
     exact ⟨fun e => absurd e h4.2, fun e => absurd (hsame e).2.2.1 eT⟩
  ·subst e3
   have h9 := fun u v => sec_cmp (m := 2) (by omega) hSa.1 hSb.1 eS u v (fun h => by omega) (fun h => by omega)
   refine ⟨fun n h1 h2 h0 => ?_, ?_⟩
   ·rcases hn n h1 h2 with rfl | rfl | rfl
    ·rw [K1a, K1b] at h0; exact absurd (cmpB_refl _) h0
    ·rw [show (2 : Int) + 1 = 3 from rfl, K3a, K3b, K2a, K2b, cmpB_pre, cmpB_pre]
     exact (h9 _ _).1
    ·rw [show (3 : Int) + 1 = 4 from rfl, K4a, K4b, K3a, K3b, cmpB_pre, cmpB_pre]
     exact (h9 _ _).1.trans (h9 _ _).1.symm
   ·rw [cmpB_pre]
    show cmpB (AS.flatten ++ _) (BS.flatten ++ _) = _ ↔ _
    rw [(h9 _ _).1]
    exact ⟨fun e => absurd e (h9 [] []).2, fun e => absurd (hsame e).2.1 eS⟩
 ·have h9 := fun u v => sec_cmp (m := 3) (by omega) h3a h3b e3 u v
  refine ⟨fun n h1 h2 h0 => ?_, ?_⟩
  ·rcases hn n h1 h2 with rfl | rfl | rfl
   ·rw [show (1 : Int) + 1 = 2 from rfl, K2a, K2b, K1a, K1b]
    exact (h9 _ _ (fun _ => hSa.2) (fun _ => hSb.2)).1
   ·rw [show (2 : Int) + 1 = 3 from rfl, K3a, K3b, K2a, K2b]
    exact (h9 _ _ (fun _ => hd _ _ hSa.2) (fun _ => hd _ _ hSb.2)).1.trans (h9 _ _ (fun _ => hSa.2) (fun _ => hSb.2)).1.symm
   ·rw [show (3 : Int) + 1 = 4 from rfl, K4a, K4b, K3a, K3b]
    exact (h9 _ _ (fun _ => hd _ _ hSa.2) (fun _ => hd _ _ hSb.2)).1.trans (h9 _ _ (fun _ => hd _ _ hSa.2) (fun _ => hd _ _ hSb.2)).1.symm
  ·rw [(h9 _ _ (fun _ => hd _ _ hSa.2) (fun _ => hd _ _ hSb.2)).1]
   exact ⟨fun e => absurd e (h9 [] [] (fun _ => .inl rfl) (fun _ => .inl rfl)).2, fun e => absurd (hsame e).1 e3⟩
end Go.Cl
end
