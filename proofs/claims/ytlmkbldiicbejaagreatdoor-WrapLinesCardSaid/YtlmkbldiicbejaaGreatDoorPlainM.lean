/-
  A row cut at a byte, in plain words. Ranges in order and put together; what a text of classes says. Plain. Plain facts on bytes that are read as runes: how many runes and units some bytes have, what a seam costs, where the edges are. Plain facts on the places of runes: where they begin, how many stand ahead of a place. Letters of a text, in plain Lean: where they begin, by the classes of the runes; texts put together. The letters of a text, in plain Lean; the columns that they take; texts put together. Columns rune by rune, in plain Lean; blanks in the place of tabs. Blanks in the place of tabs take the same columns, in plain Lean. The letters of a text as groups of its runes, in plain Lean; columns letter by letter and rune by rune. The column behind a text, letter by letter and rune by rune, in plain Lean. The runes of a text with blanks in the place of tabs, in plain Lean. How many blanks stand in the place of each tab, in plain Lean. A text cut at a bound, in plain Lean. What stands at the end of a text and is not to be seen, in plain Lean.
-/
import Derived.Lib.Split
import Derived.Lib.IndexMore
import Derived.Lib.Hide
import Derived.Lib.SlTrimSet
import Derived.Lib.DecodeN
import Derived.Lib.DecodeNEq
import Derived.Lib.TrimU
import Derived.Lib.SpaceUEq
section
namespace Go.Cl
open Go

/-- Cut at each byte c. -/
def splitC (c : UInt8) : List UInt8 → List UInt8 → List (List UInt8)
  | cur, [] => [cur]
  | cur, x :: t => if x = c then cur :: splitC c [] t else splitC c (cur ++ [x]) t
/-- Cut at the first byte c. -/
def cutC (c : UInt8) : List UInt8 → List UInt8 → List UInt8 × List UInt8
  | cur, [] => (cur, [])
  | cur, x :: t => if x = c then (cur, t) else cutC c (cur ++ [x]) t
theorem pre_one (c x : UInt8) (l : List UInt8) : [c].isPrefixOf (x :: l) = (c == x) := by simp [List.isPrefixOf]
theorem index_no (c : UInt8) : ∀ s : List UInt8, (∀ x ∈ s, x ≠ c) → Lib.index s [c] = -1
  | [], _ => rfl
  | x :: s, h => by
    have h1 := h x (List.mem_cons_self ..)
    have h2 := index_no c s (fun y hy => h y (List.mem_cons_of_mem _ hy))
    have hp : ¬ [c].isPrefixOf (x :: s) = true := by
      rw [pre_one]
      intro e
      exact h1 (beq_iff_eq.1 e).symm
    unfold Lib.index
    rw [if_neg hp, h2]
    rfl
theorem index_yes (c : UInt8) (b : List UInt8) : ∀ a : List UInt8, (∀ x ∈ a, x ≠ c) → Lib.index (a ++ c :: b) [c] = (a.length : Nat)
  | [], _ => by
    show Lib.index (c :: b) [c] = _
    unfold Lib.index
    rw [if_pos (by rw [pre_one]; exact beq_self_eq_true c)]
    rfl
  | x :: a, h => by
    have h1 := h x (List.mem_cons_self ..)
    have h2 := index_yes c b a (fun y hy => h y (List.mem_cons_of_mem _ hy))
    have hp : ¬ [c].isPrefixOf (x :: (a ++ c :: b)) = true := by
      rw [pre_one]
      intro e
      exact h1 (beq_iff_eq.1 e).symm
    show Lib.index (x :: (a ++ c :: b)) [c] = _
    unfold Lib.index
    rw [if_neg hp, h2, if_neg (by intro e; have := beq_iff_eq.1 e; omega)]
    simp
theorem splitC_pre (c : UInt8) (b : List UInt8) : ∀ (a cur : List UInt8), (∀ x ∈ a, x ≠ c) → splitC c cur (a ++ b) = splitC c (cur ++ a) b
  | [], cur, _ => by simp
  | x :: a, cur, h => by
    rw [List.cons_append, splitC, if_neg (h x (List.mem_cons_self ..)), splitC_pre c b a _ (fun y hy => h y (List.mem_cons_of_mem _ hy)), List.append_assoc]
    rfl
theorem cutC_pre (c : UInt8) (b : List UInt8) : ∀ (a cur : List UInt8), (∀ x ∈ a, x ≠ c) → cutC c cur (a ++ b) = cutC c (cur ++ a) b
  | [], cur, _ => by simp
  | x :: a, cur, h => by
    rw [List.cons_append, cutC, if_neg (h x (List.mem_cons_self ..)), cutC_pre c b a _ (fun y hy => h y (List.mem_cons_of_mem _ hy)), List.append_assoc]
    rfl
theorem parted_at (c : UInt8) : ∀ s : List UInt8, (∀ x ∈ s, x ≠ c) ∨ ∃ a b, s = a ++ c :: b ∧ ∀ x ∈ a, x ≠ c
  | [] => .inl (fun x h => by cases h)
  | x :: s => by
    by_cases h : x = c
    · exact .inr ⟨[], s, by rw [h]; rfl, fun y h => by cases h⟩
    · rcases parted_at c s with h1 | ⟨a, b, rfl, h1⟩
      · exact .inl (fun y hy => by
          rcases List.mem_cons.1 hy with rfl | hy
          · exact h
          · exact h1 y hy)
      · exact .inr ⟨x :: a, b, rfl, fun y hy => by
          rcases List.mem_cons.1 hy with rfl | hy
          · exact h
          · exact h1 y hy⟩
theorem split_C (c : UInt8) : ∀ (n : Nat) (s : List UInt8), s.length ≤ n → Lib.split s [c] = splitC c [] s := by
  intro n
  induction n with
  | zero =>
    intro s h
    obtain rfl : s = [] := List.length_eq_zero_iff.1 (by omega)
    have h1 := index_no c [] (fun x h => by cases h)
    unfold Lib.split
    rw [Lib.count_miss h1]
    rfl
  | succ n ih =>
    intro s h
    rcases parted_at c s with h1 | ⟨a, b, rfl, h1⟩
    · have h2 := splitC_pre c [] s [] h1
      rw [List.append_nil] at h2
      unfold Lib.split
      rw [Lib.count_miss (index_no c s h1), h2]
      rfl
    · have hi := index_yes c b a h1
      have hd : (a ++ c :: b).drop (a.length + [c].length) = b := by
        rw [show a ++ c :: b = (a ++ [c]) ++ b by simp, show a.length + [c].length = (a ++ [c]).length by simp, List.drop_left]
      have hc := Lib.count_hit (s := a ++ c :: b) (sub := [c]) (by simp) hi
      rw [hd] at hc
      have hb : b.length ≤ n := by
        rw [List.length_append, List.length_cons] at h
        omega
      have h3 := ih b hb
      unfold Lib.split at h3 ⊢
      rw [hc, Nat.add_comm, Lib.splitK, hi, if_neg (by intro e; have := beq_iff_eq.1 e; omega)]
      rw [show ((a.length : Nat) : Int).toNat = a.length from rfl, hd, h3, splitC_pre c _ a [] h1, List.nil_append, Nat.add_zero, List.take_left, splitC, if_pos rfl]
theorem cut_C (c : UInt8) (s : List UInt8) : (Lib.cut s [c]).1 = (cutC c [] s).1 ∧ (Lib.cut s [c]).2.1 = (cutC c [] s).2 := by
  rcases parted_at c s with h1 | ⟨a, b, rfl, h1⟩
  · have h2 := cutC_pre c [] s [] h1
    rw [List.append_nil, List.nil_append] at h2
    have hi := index_no c s h1
    unfold Lib.cut
    rw [hi, if_neg (by decide), h2]
    exact ⟨rfl, rfl⟩
  · have hi := index_yes c b a h1
    have hd : (a ++ c :: b).drop (a.length + [c].length) = b := by
      rw [show a ++ c :: b = (a ++ [c]) ++ b by simp, show a.length + [c].length = (a ++ [c]).length by simp, List.drop_left]
    unfold Lib.cut
    rw [hi, if_pos (by omega), show ((a.length : Nat) : Int).toNat = a.length from rfl, hd, cutC_pre c _ a [] h1, List.nil_append, List.take_left, cutC, if_pos rfl]
    exact ⟨rfl, rfl⟩
end Go.Cl
end

section
namespace Go.Proofs.YtlmkbldiicbejaaGreatDoor
open Go.Cl

/-- A row in order by a number of each. -/
def insK {α : Type} (f : α → Nat) (x : α) : List α → List α
  | [] => [x]
  | y :: l => if f x ≤ f y then x :: y :: l else y :: insK f x l
def srtK {α : Type} (f : α → Nat) : List α → List α
  | [] => []
  | x :: l => insK f x (srtK f l)
theorem insK_perm {α : Type} (f : α → Nat) (x : α) : ∀ l : List α, (insK f x l).Perm (x :: l)
  | [] => List.Perm.refl _
  | y :: l => by
    rw [insK]
    split
    · exact List.Perm.refl _
    · exact ((insK_perm f x l).cons y).trans (List.Perm.swap ..)
theorem srtK_perm {α : Type} (f : α → Nat) : ∀ l : List α, (srtK f l).Perm l
  | [] => List.Perm.refl _
  | x :: l => (insK_perm f x _).trans ((srtK_perm f l).cons x)
theorem insK_sorted {α : Type} (f : α → Nat) (x : α) : ∀ l : List α, l.Pairwise (fun a b => f a ≤ f b) → (insK f x l).Pairwise (fun a b => f a ≤ f b)
  | [], _ => List.pairwise_singleton _ _
  | y :: l, h => by
    obtain ⟨h1, h2⟩ := List.pairwise_cons.1 h
    rw [insK]
    split
    · rename_i hxy
      exact List.pairwise_cons.2 ⟨fun z hz => by
        rcases List.mem_cons.1 hz with rfl | hz
        · exact hxy
        · exact Nat.le_trans hxy (h1 z hz), h⟩
    · rename_i hxy
      refine List.pairwise_cons.2 ⟨fun z hz => ?_, insK_sorted f x l h2⟩
      rcases List.mem_cons.1 ((insK_perm f x l).mem_iff.1 hz) with rfl | hz
      · omega
      · exact h1 z hz
theorem srtK_sorted {α : Type} (f : α → Nat) : ∀ l : List α, (srtK f l).Pairwise (fun a b => f a ≤ f b)
  | [] => List.Pairwise.nil
  | x :: l => insK_sorted f x _ (srtK_sorted f l)
theorem srtK_len {α : Type} (f : α → Nat) (l : List α) : (srtK f l).length = l.length := (srtK_perm f l).length_eq
theorem srtK_mem {α : Type} (f : α → Nat) (l : List α) (x : α) : x ∈ srtK f l ↔ x ∈ l := (srtK_perm f l).mem_iff
/-- There is one order only where the numbers are apart. -/
theorem sorted_one {α : Type} (f : α → Nat) : ∀ a b : List α, a.Perm b → a.Pairwise (fun x y => f x ≤ f y) → b.Pairwise (fun x y => f x ≤ f y) → (b.map f).Nodup → a = b
  | [], b, hp, _, _, _ => (List.Perm.nil_eq hp)
  | x :: a, [], hp, _, _, _ => absurd hp.symm.nil_eq (by simp)
  | x :: a, y :: b, hp, ha, hb, hn => by
    obtain ⟨a1, a2⟩ := List.pairwise_cons.1 ha
    obtain ⟨b1, b2⟩ := List.pairwise_cons.1 hb
    rw [List.map_cons, List.nodup_cons] at hn
    have hxy : x = y := by
      have hx : x ∈ y :: b := hp.mem_iff.1 (List.mem_cons_self ..)
      rcases List.mem_cons.1 hx with h | h
      · exact h
      · have hy : y ∈ x :: a := hp.mem_iff.2 (List.mem_cons_self ..)
        rcases List.mem_cons.1 hy with h' | h'
        · exact h'.symm
        · exact absurd (List.mem_map.2 ⟨x, h, Nat.le_antisymm (a1 y h') (b1 x h)⟩) hn.1
    subst hxy
    rw [sorted_one f a b ((List.perm_cons x).1 hp) a2 b2 hn.2]
theorem srtK_one {α : Type} (f : α → Nat) {l l' : List α} (hp : l'.Perm l) (hs : l'.Pairwise (fun x y => f x ≤ f y)) (hn : (l.map f).Nodup) : l' = srtK f l :=
  sorted_one f _ _ (hp.trans (srtK_perm f l).symm) hs (srtK_sorted f l) (((srtK_perm f l).map f).nodup_iff.2 hn)

/-- Ranges put together where they touch. -/
def mrgR : Nat × Nat → List (Nat × Nat) → List (Nat × Nat)
  | c, [] => [c]
  | c, x :: l => if x.1 ≤ c.2 + 1 then mrgR (c.1, max c.2 x.2) l else c :: mrgR x l
def normS : List (Nat × Nat) → List (Nat × Nat)
  | [] => []
  | c :: t => mrgR c t
def normR (l : List (Nat × Nat)) : List (Nat × Nat) := normS (srtK (·.1) l)
/-- A range of runes. -/
def RgOk (x : Nat × Nat) : Prop := x.1 ≤ x.2 ∧ x.2 ≤ 1114111
/-- Ranges that may be put in order in one way. -/
structure RgsOk (l : List (Nat × Nat)) : Prop where
  ok : ∀ x ∈ l, RgOk x
  one : (l.map (·.1)).Nodup
  len : l.length ≤ 10000
theorem mrgR_ok : ∀ (l : List (Nat × Nat)) (c : Nat × Nat), RgOk c → (∀ x ∈ l, RgOk x) → ∀ x ∈ mrgR c l, RgOk x
  | [], c, hc, _, x, hx => by rw [mrgR, List.mem_singleton] at hx; exact hx ▸ hc
  | y :: l, c, hc, hl, x, hx => by
    have hy := hl y (by simp)
    have hl' : ∀ x ∈ l, RgOk x := fun z hz => hl z (by simp [hz])
    rw [mrgR] at hx
    split at hx
    · exact mrgR_ok l _ ⟨by have := hc.1; show c.1 ≤ max c.2 y.2; omega, by have := hc.2; have := hy.2; show max c.2 y.2 ≤ _; omega⟩ hl' x hx
    · rcases List.mem_cons.1 hx with rfl | hx
      · exact hc
      · exact mrgR_ok l _ hy hl' x hx
theorem mrgR_len : ∀ (l : List (Nat × Nat)) (c : Nat × Nat), (mrgR c l).length ≤ l.length + 1
  | [], _ => by simp [mrgR]
  | y :: l, c => by
    rw [mrgR]
    split
    · have := mrgR_len l (c.1, max c.2 y.2); simp; omega
    · have := mrgR_len l y; simp; omega
theorem normR_ok {l : List (Nat × Nat)} (h : ∀ x ∈ l, RgOk x) : ∀ x ∈ normR l, RgOk x := by
  unfold normR
  have h' : ∀ x ∈ srtK (·.1) l, RgOk x := fun x hx => h x ((srtK_mem _ _ _).1 hx)
  generalize srtK (·.1) l = s at *
  cases s with
  | nil => intro x hx; cases hx
  | cons c t => exact mrgR_ok t c (h' c (by simp)) (fun x hx => h' x (by simp [hx]))
theorem normR_len (l : List (Nat × Nat)) : (normR l).length ≤ l.length := by
  unfold normR
  have h' := srtK_len (·.1) l
  generalize srtK (·.1) l = s at *
  cases s with
  | nil => simp [normS]
  | cons c t => have := mrgR_len t c; simp [normS] at *; omega
/-- What is in no range. -/
def notG : Nat → List (Nat × Nat) → List (Nat × Nat)
  | n, [] => if n ≤ 1114111 then [(n, 1114111)] else []
  | n, x :: l => (if n < x.1 then [(n, x.1 - 1)] else []) ++ notG (x.2 + 1) l
def notR (l : List (Nat × Nat)) : List (Nat × Nat) := notG 0 (normR l)

/-- A number in hexadecimal digits. -/
def hexP (c : UInt8) : Bool := (decide (48 ≤ c.toNat) && decide (c.toNat ≤ 57)) || (decide (65 ≤ c.toNat) && decide (c.toNat ≤ 70))
def hexN (l : List UInt8) : Nat := l.foldl (fun n c => n * 16 + (if c.toNat < 58 then c.toNat - 48 else c.toNat - 55)) 0
/-- A rune by its number; what stands behind it. -/
def numP : List UInt8 → Option (Nat × List UInt8)
  | a :: b :: t => if a = 85 ∧ b = 43 ∧ 4 ≤ (t.takeWhile hexP).length ∧ (t.takeWhile hexP).length ≤ 6 ∧ hexN (t.takeWhile hexP) ≤ 1114111 then some (hexN (t.takeWhile hexP), t.dropWhile hexP) else none
  | _ => none
/-- A rune, or one and another. -/
def itemP (l : List UInt8) : Option ((Nat × Nat) × List UInt8) :=
  match numP l with
  | none => none
  | some (lo, r) =>
    if r.headD 32 = 45 then match numP r.tail with
      | none => none
      | some (hi, r2) => if lo ≤ hi ∧ r2.headD 32 = 32 then some ((lo, hi), r2) else none
    else if r.headD 32 = 32 then some ((lo, lo), r) else none
/-- The set of a spelling, as it stands. -/
def parseP : Nat → List UInt8 → Option (List (Nat × Nat))
  | 0, l => if l = [] then some [] else none
  | n + 1, l => if l = [] then some [] else if l.headD 0 = 32 then parseP n l.tail else match itemP l with
    | none => none
    | some (x, r) => (parseP n r).map (x :: ·)
/-- The least place of a byte. -/
def letB (c : UInt8) : Bool := (decide (65 ≤ c.toNat) && decide (c.toNat ≤ 90)) || (decide (97 ≤ c.toNat) && decide (c.toNat ≤ 122))
def partB (c : UInt8) : Bool := letB c || (decide (48 ≤ c.toNat) && decide (c.toNat ≤ 57)) || c == 95
/-- May a class be called so? -/
def nameB (l : List UInt8) : Bool := decide (1 ≤ l.length) && decide (l.length ≤ 32) && letB (l.headD 0) && l.all partB
def trimB (l : List UInt8) : List UInt8 := Lib.trimS l [32, 9]
/-- What a line says: ranges, and a name. -/
def lineP (l : List UInt8) : List (Nat × Nat) × List UInt8 := ((parseP (cutC 59 [] l).1.length (cutC 59 [] l).1).getD [], trimB (cutC 59 [] l).2)
def rgB (x : Nat × Nat) : Bool := decide (x.1 ≤ x.2) && decide (x.2 ≤ 1114111)
def ndB : List Nat → Bool
  | [] => true
  | x :: l => !(l.any fun y => y == x) && ndB l
theorem ndB_spec : ∀ {l : List Nat}, ndB l = true → l.Nodup
  | [], _ => List.nodup_nil
  | x :: l, h => by
    simp only [ndB, Bool.and_eq_true, Bool.not_eq_true', List.any_eq_false, beq_iff_eq] at h
    exact List.nodup_cons.2 ⟨fun hm => h.1 x hm rfl, ndB_spec h.2⟩
def othB : List UInt8 := [79, 116, 104, 101, 114]
/-- A line that is read. -/
structure LineOk (l : List UInt8) : Prop where
  len : l.length ≤ 60000
  asc : ∀ c ∈ l, c ≠ 39 ∧ c ≠ 35 ∧ c ≠ 9
  semi : (59 : UInt8) ∈ l
  rgs : parseP (cutC 59 [] l).1.length (cutC 59 [] l).1 = some (lineP l).1
  rok : RgsOk (lineP l).1
  rok2 : RgsOk (normR (lineP l).1)
  nam : nameB (lineP l).2 = true
  oth : (lineP l).2 ≠ othB
def rgsB (l : List (Nat × Nat)) : Bool := l.all rgB && ndB (l.map (·.1)) && decide (l.length ≤ 10000)
theorem rgsB_spec {l : List (Nat × Nat)} (h : rgsB l = true) : RgsOk l := by
  simp only [rgsB, Bool.and_eq_true, List.all_eq_true, decide_eq_true_eq, rgB] at h
  exact ⟨fun x hx => h.1.1 x hx, ndB_spec h.1.2, h.2⟩
def eqO (a : Option (List (Nat × Nat))) : Bool := a.isSome
def lineB (l : List UInt8) : Bool := decide (l.length ≤ 60000) && l.all (fun c => c != 39 && c != 35 && c != 9) && l.any (fun c => c == 59) && (parseP (cutC 59 [] l).1.length (cutC 59 [] l).1).isSome && rgsB (lineP l).1 && rgsB (normR (lineP l).1) && nameB (lineP l).2 && !((lineP l).2 == othB)
theorem lineB_spec {l : List UInt8} (h : lineB l = true) : LineOk l := by
  simp only [lineB, Bool.and_eq_true, List.all_eq_true, List.any_eq_true, decide_eq_true_eq, bne_iff_ne, beq_iff_eq, Bool.not_eq_true', beq_eq_false_iff_ne] at h
  obtain ⟨⟨⟨⟨⟨⟨⟨h1, h2⟩, h3⟩, h4⟩, h5⟩, h6⟩, h7⟩, h8⟩ := h
  refine ⟨h1, fun c hc => ⟨(h2 c hc).1.1, (h2 c hc).1.2, (h2 c hc).2⟩, ?_, ?_, rgsB_spec h5, rgsB_spec h6, h7, h8⟩
  · obtain ⟨x, hx, rfl⟩ := h3; exact hx
  · obtain ⟨x, hx⟩ := Option.isSome_iff_exists.1 h4
    unfold lineP
    rw [hx]
    rfl
/-- The lines of a text that say something. -/
def linesP (t : List UInt8) : List (List UInt8) := ((splitC 10 [] t).map trimB).filter (fun l => !l.isEmpty)
def dbP (t : List UInt8) : List (List (Nat × Nat) × List UInt8) := (linesP t).map lineP
/-- Have two sets no rune that both have? -/
def apartR (a b : List (Nat × Nat)) : Prop := ∀ x ∈ a, ∀ y ∈ b, x.2 < y.1 ∨ y.2 < x.1
def apartB (a b : List (Nat × Nat)) : Bool := a.all fun x => b.all fun y => decide (x.2 < y.1) || decide (y.2 < x.1)
theorem apartB_spec {a b : List (Nat × Nat)} (h : apartB a b = true) : apartR a b := by
  simp only [apartB, List.all_eq_true, Bool.or_eq_true, decide_eq_true_eq] at h
  exact h
def setsP (t : List UInt8) : List (List (Nat × Nat)) := (dbP t).map fun p => normR (normR p.1)
def namesP (t : List UInt8) : List (List UInt8) := othB :: (dbP t).map (·.2)
/-- Ranges with their classes. -/
def withC : Nat → List (List (Nat × Nat)) → List (Nat × Nat × Nat)
  | _, [] => []
  | c, s :: l => s.map (fun x => (x.1, x.2, c)) ++ withC (c + 1) l
theorem withC_app : ∀ (a b : List (List (Nat × Nat))) (c : Nat), withC c (a ++ b) = withC c a ++ withC (c + a.length) b
  | [], b, c => by simp [withC]
  | s :: a, b, c => by rw [List.cons_append, withC, withC, withC_app a b (c + 1), List.append_assoc, List.length_cons, show c + 1 + a.length = c + (a.length + 1) by omega]
def rangedP (t : List UInt8) : List (Nat × Nat × Nat) := srtK (·.1) (withC 1 (setsP t))
def pairsB {α : Type} (r : α → α → Bool) : List α → Bool
  | [] => true
  | x :: l => l.all (r x) && pairsB r l
theorem pairsB_spec {α : Type} {r : α → α → Bool} : ∀ {l : List α}, pairsB r l = true → l.Pairwise (fun a b => r a b = true)
  | [], _ => List.Pairwise.nil
  | x :: l, h => by
    simp only [pairsB, Bool.and_eq_true, List.all_eq_true] at h
    exact List.pairwise_cons.2 ⟨h.1, pairsB_spec h.2⟩
/-- A text of classes that is read. -/
structure TextOk (t : List UInt8) : Prop where
  len : t.length ≤ 65536
  lines : ∀ l ∈ linesP t, LineOk l
  few : (linesP t).length ≤ 60
  more : 1 ≤ (linesP t).length
  names : (namesP t).Nodup
  apart : (dbP t).Pairwise fun p q => apartR (normR (normR p.1)) (normR q.1)
  asc : ∀ c ∈ t, c ≠ 39 ∧ c ≠ 35
  all : RgsOk ((setsP t).flatten)
def ndL : List (List UInt8) → Bool
  | [] => true
  | x :: l => !(l.any fun y => y == x) && ndL l
theorem ndL_spec : ∀ {l : List (List UInt8)}, ndL l = true → l.Nodup
  | [], _ => List.nodup_nil
  | x :: l, h => by
    simp only [ndL, Bool.and_eq_true, Bool.not_eq_true', List.any_eq_false, beq_iff_eq] at h
    exact List.nodup_cons.2 ⟨fun hm => h.1 x hm rfl, ndL_spec h.2⟩
def textB (t : List UInt8) : Bool := decide (t.length ≤ 65536) && (linesP t).all lineB && decide ((linesP t).length ≤ 60) && decide (1 ≤ (linesP t).length) && ndL (namesP t) && pairsB (fun p q => apartB (normR (normR p.1)) (normR q.1)) (dbP t) && t.all (fun c => c != 39 && c != 35) && rgsB ((setsP t).flatten)
theorem textB_spec {t : List UInt8} (h : textB t = true) : TextOk t := by
  simp only [textB, Bool.and_eq_true, List.all_eq_true, decide_eq_true_eq] at h
  obtain ⟨⟨⟨⟨⟨⟨⟨h1, h2⟩, h3⟩, h4⟩, h5⟩, h6⟩, h8⟩, h7⟩ := h
  exact ⟨h1, fun l hl => lineB_spec (h2 l hl), h3, h4, ndL_spec h5, (pairsB_spec h6).imp fun h => apartB_spec h, fun c hc => by simpa using h8 c hc, rgsB_spec h7⟩
/-- A rune's class. -/
def getR : List (Nat × Nat × Nat) → Nat → Nat
  | [], _ => 0
  | x :: l, r => if x.2.1 < r then getR l r else if x.1 ≤ r then x.2.2 else 0
end Go.Proofs.YtlmkbldiicbejaaGreatDoor
end

section
namespace Go.Rp
open Go.Lib

/-- The rune at the head of some bytes, and its width. -/
def dec (l : List UInt8) : Nat × Nat := decodeN l.length (l.getD 0 0).toNat (l.getD 1 0).toNat (l.getD 2 0).toNat (l.getD 3 0).toNat
def wid (l : List UInt8) : Nat := (dec l).2
def run (l : List UInt8) : Nat := (dec l).1

theorem decN_cut (n m b0 b1 b2 b3 c1 c2 c3 : Nat) (hn : 1 ≤ n) (hm : n ≤ m) (h1 : 1 < n → c1 = b1) (h2 : 2 < n → c2 = b2) (h3 : 3 < n → c3 = b3)
    (hw : (decodeN m b0 b1 b2 b3).2 ≤ n) : decodeN n b0 c1 c2 c3 = decodeN m b0 b1 b2 b3 := by
  by_cases g1 : 1 < n
  · by_cases g2 : 2 < n
    · by_cases g3 : 3 < n
      · obtain rfl := h1 g1; obtain rfl := h2 g2; obtain rfl := h3 g3
        have e1 : 1 < m := by omega
        have e2 : 2 < m := by omega
        have e3 : 3 < m := by omega
        simp only [decodeN, g1, g2, g3, e1, e2, e3]
      · obtain rfl := h1 g1; obtain rfl := h2 g2
        have e1 : 1 < m := by omega
        have e2 : 2 < m := by omega
        revert hw
        simp only [decodeN, g1, g2, g3, e1, e2, true_and, false_and, and_false, if_false]
        repeat' split
        all_goals first | (intro _; rfl) | (intro hw; simp at hw; omega) | (exfalso; omega)
    · obtain rfl := h1 g1
      have e1 : 1 < m := by omega
      revert hw
      simp only [decodeN, g1, g2, e1, true_and, false_and, and_false, if_false]
      have g3 : ¬ 3 < n := by omega
      repeat' split
      all_goals first | (intro _; rfl) | (intro hw; simp at hw; omega) | (exfalso; omega)
  · revert hw
    have g2 : ¬ 2 < n := by omega
    have g3 : ¬ 3 < n := by omega
    simp only [decodeN, g1, g2, g3, false_and, and_false, if_false]
    repeat' split
    all_goals first | (intro _; rfl) | (intro hw; simp at hw; omega) | (exfalso; omega)

theorem decN_pos (n b0 b1 b2 b3 : Nat) : 1 ≤ (decodeN n b0 b1 b2 b3).2 ∧ (decodeN n b0 b1 b2 b3).2 ≤ 4 := by
  simp only [decodeN]
  repeat' split
  all_goals simp

theorem decN_le (n b0 b1 b2 b3 : Nat) (hn : 1 ≤ n) : (decodeN n b0 b1 b2 b3).2 ≤ n := by
  simp only [decodeN]
  repeat' split
  all_goals simp
  all_goals omega

theorem decN_cont (n b0 b1 b2 b3 : Nat) : (1 < (decodeN n b0 b1 b2 b3).2 → b1 / 64 = 2 ∧ 192 ≤ b0) ∧ (2 < (decodeN n b0 b1 b2 b3).2 → b2 / 64 = 2) ∧ (3 < (decodeN n b0 b1 b2 b3).2 → b3 / 64 = 2) := by
  simp only [decodeN]
  repeat' split
  all_goals simp
  all_goals omega

theorem decN_of_cont (n b0 b1 b2 b3 : Nat) (h : b0 / 64 = 2) : decodeN n b0 b1 b2 b3 = (65533, 1) := by
  simp only [decodeN]
  repeat' split
  all_goals first | rfl | (exfalso; omega)

theorem decN_four (n b0 b1 b2 b3 : Nat) (h0 : b0 < 256) : 65535 < (decodeN n b0 b1 b2 b3).1 ↔ (decodeN n b0 b1 b2 b3).2 = 4 := by
  simp only [decodeN]
  repeat' split
  all_goals simp
  all_goals omega

theorem decN_max (n b0 b1 b2 b3 : Nat) (h0 : b0 < 256) : (decodeN n b0 b1 b2 b3).1 ≤ 1114111 := by
  simp only [decodeN]
  repeat' split
  all_goals simp
  all_goals omega

theorem byte_lt (b : UInt8) : b.toNat < 256 := b.toNat_lt

theorem dec_at (s : ByteArray) (i : Nat) : Utf8.decode s i = dec (s.data.toList.drop i) := by
  rw [decode_at]
  unfold dec
  have g : ∀ k, s.get! (i + k) = (s.data.toList.drop i).getD k 0 := by
    intro k
    simp only [ByteArray.get!, List.getD_eq_getElem?_getD, List.getElem?_drop, Array.getElem?_toList, Array.getElem!_eq_getD, Array.getD_eq_getD_getElem?]
    rfl
  have g0 := g 0
  simp only [Nat.add_zero] at g0
  rw [g0, g 1, g 2, g 3]
  simp only [List.length_drop, Array.length_toList]
  rfl

theorem wid_pos (l : List UInt8) : 1 ≤ wid l := (decN_pos _ _ _ _ _).1
theorem wid_le4 (l : List UInt8) : wid l ≤ 4 := (decN_pos _ _ _ _ _).2
theorem wid_le (l : List UInt8) (h : l ≠ []) : wid l ≤ l.length := decN_le _ _ _ _ _ (by cases l <;> simp_all)
theorem run_four (l : List UInt8) : 65535 < run l ↔ wid l = 4 := decN_four _ _ _ _ _ (byte_lt _)
theorem run_max (l : List UInt8) : run l ≤ 1114111 := decN_max _ _ _ _ _ (byte_lt _)

def isCont (c : UInt8) : Prop := c.toNat / 64 = 2

theorem wid_cont (l : List UInt8) (j : Nat) (h0 : 0 < j) (h : j < wid l) : isCont (l.getD j 0) := by
  obtain ⟨g1, g2, g3⟩ := decN_cont l.length (l.getD 0 0).toNat (l.getD 1 0).toNat (l.getD 2 0).toNat (l.getD 3 0).toNat
  have h4 := wid_le4 l
  unfold isCont
  have hj : j = 1 ∨ j = 2 ∨ j = 3 := by omega
  rcases hj with rfl | rfl | rfl
  · exact (g1 (by exact h)).1
  · exact g2 (by exact h)
  · exact g3 (by exact h)

theorem dec_of_cont (l : List UInt8) (h : isCont (l.getD 0 0)) : dec l = (65533, 1) := decN_of_cont _ _ _ _ _ h

theorem wid_drop (l : List UInt8) (j : Nat) (h0 : 0 < j) (h : j < wid l) : wid (l.drop j) = 1 := by
  unfold wid
  rw [dec_of_cont]
  have := wid_cont l j h0 h
  simpa [List.getD_eq_getElem?_getD] using this

/-- Of some bytes, cut short: if the rune fits, it is the same. -/
theorem dec_cut (u b : List UInt8) (hu : u ≠ []) (h : wid (u ++ b) ≤ u.length) : dec u = dec (u ++ b) := by
  unfold dec
  have e : ∀ k, k < u.length → (u ++ b).getD k 0 = u.getD k 0 := by
    intro k hk
    simp [List.getD_eq_getElem?_getD, List.getElem?_append_left hk]
  have h0 : 0 < u.length := List.length_pos_iff.2 hu
  have := decN_cut u.length (u ++ b).length ((u ++ b).getD 0 0).toNat ((u ++ b).getD 1 0).toNat ((u ++ b).getD 2 0).toNat ((u ++ b).getD 3 0).toNat (u.getD 1 0).toNat (u.getD 2 0).toNat (u.getD 3 0).toNat (by omega) (by simp) (fun h => by rw [e _ h]) (fun h => by rw [e _ h]) (fun h => by rw [e _ h]) h
  rw [← this, e 0 h0]

theorem wid_cut (u b : List UInt8) (hu : u ≠ []) (h : wid (u ++ b) ≤ u.length) : wid u = wid (u ++ b) := by
  unfold wid; rw [dec_cut u b hu h]

theorem decN_ext (n m b0 b1 b2 b3 c1 c2 c3 : Nat) (hm : n ≤ m) (h1 : 1 < n → c1 = b1) (h2 : 2 < n → c2 = b2) (_h3 : 3 < n → c3 = b3)
    (hw : 1 < (decodeN n b0 c1 c2 c3).2) : (decodeN m b0 b1 b2 b3).2 ≤ n := by
  by_cases g1 : 1 < n
  · by_cases g2 : 2 < n
    · by_cases g3 : 3 < n
      · have := (decN_pos m b0 b1 b2 b3).2
        omega
      · obtain rfl := h1 g1; obtain rfl := h2 g2
        have e1 : 1 < m := by omega
        have e2 : 2 < m := by omega
        revert hw
        simp only [decodeN, g1, g2, g3, e1, e2, true_and, false_and, and_false, if_false]
        repeat' split
        all_goals first | (intro hw; simp at hw; done) | (intro hw; simp; omega) | (exfalso; omega)
    · obtain rfl := h1 g1
      have e1 : 1 < m := by omega
      revert hw
      simp only [decodeN, g1, g2, e1, true_and, false_and, and_false, if_false]
      have g3 : ¬ 3 < n := by omega
      repeat' split
      all_goals first | (intro hw; simp at hw; done) | (intro hw; simp; omega) | (exfalso; omega)
  · revert hw
    have g2 : ¬ 2 < n := by omega
    have g3 : ¬ 3 < n := by omega
    simp only [decodeN, g1, g2, g3, false_and, and_false, if_false]
    repeat' split
    all_goals first | (intro hw; simp at hw; done) | (exfalso; omega)

/-- If it does not fit, there are only faults. -/
theorem wid_cross (u b : List UInt8) (hu : u ≠ []) (h : u.length < wid (u ++ b)) : wid u = 1 := by
  have e : ∀ k, k < u.length → (u ++ b).getD k 0 = u.getD k 0 := by
    intro k hk
    simp [List.getD_eq_getElem?_getD, List.getElem?_append_left hk]
  have h0 : 0 < u.length := List.length_pos_iff.2 hu
  have hp := wid_pos u
  apply Decidable.byContradiction
  intro hne
  have hw : 1 < wid u := by omega
  have := decN_ext u.length (u ++ b).length ((u ++ b).getD 0 0).toNat ((u ++ b).getD 1 0).toNat ((u ++ b).getD 2 0).toNat ((u ++ b).getD 3 0).toNat (u.getD 1 0).toNat (u.getD 2 0).toNat (u.getD 3 0).toNat (by simp) (fun h => by rw [e _ h]) (fun h => by rw [e _ h]) (fun h => by rw [e _ h]) (by rw [e 0 h0]; exact hw)
  have h' : wid (u ++ b) ≤ u.length := this
  omega

/-- The rune hangs on four bytes alone. -/
theorem dec_take (u b c : List UInt8) (hu : u ≠ []) (h : b.take 3 = c.take 3) : dec (u ++ b) = dec (u ++ c) := by
  have key : ∀ d : List UInt8, dec (u ++ d) = dec (u ++ d.take 3) := by
    intro d
    have h0 : 0 < u.length := List.length_pos_iff.2 hu
    rw [← List.take_append_drop 3 d, ← List.append_assoc]
    by_cases hd : d.length ≤ 3
    · rw [List.drop_of_length_le hd]; simp [List.take_take]
    · refine (dec_cut _ _ (by simp [hu]) ?_).symm.trans (by simp)
      have := wid_le4 (u ++ List.take 3 d ++ List.drop 3 d)
      simp only [List.length_append, List.length_take]
      omega
  rw [key b, key c, h]

/-- A sum over the places of some bytes: what the rune that would begin there says. -/
def S (f : Nat → Nat) : List UInt8 → Nat
  | [] => 0
  | c :: r => f (wid (c :: r)) + S f r

/-- The same, where more bytes stand behind. -/
def P (f : Nat → Nat) (b : List UInt8) : List UInt8 → Nat
  | [] => 0
  | c :: r => f (wid (c :: r ++ b)) + P f b r

def tl (a : List UInt8) : List UInt8 := a.drop (a.length - 3)
def hd (a : List UInt8) : List UInt8 := a.take 3

theorem S_append (f : Nat → Nat) (a b : List UInt8) : S f (a ++ b) = P f b a + S f b := by
  induction a with
  | nil => simp [P]
  | cons c r ih => simp only [List.cons_append, S, P, ih]; omega
theorem S_eq_P (f : Nat → Nat) (a : List UInt8) : S f a = P f [] a := by
  have := S_append f a []
  simpa [S] using this
theorem P_take (f : Nat → Nat) (a b c : List UInt8) (h : b.take 3 = c.take 3) : P f b a = P f c a := by
  induction a with
  | nil => rfl
  | cons x r ih => simp only [P, ih]; unfold wid; rw [dec_take (x :: r) b c (by simp) h]
theorem tl_cons (c : UInt8) (r : List UInt8) (h : 3 ≤ r.length) : tl (c :: r) = tl r := by
  unfold tl
  rw [show (c :: r).length - 3 = (r.length - 3) + 1 from by simp; omega]
  simp
theorem tl_short (a : List UInt8) (h : a.length ≤ 3) : tl a = a := by
  unfold tl
  rw [show a.length - 3 = 0 from by omega]
  simp
theorem P_tail (f : Nat → Nat) (b : List UInt8) (a : List UInt8) : P f b a + P f [] (tl a) = P f [] a + P f b (tl a) := by
  induction a with
  | nil => simp [tl, P]
  | cons c r ih =>
    by_cases h : 3 ≤ r.length
    · rw [tl_cons c r h]
      have e : wid (c :: r ++ b) = wid (c :: r) := by
        refine (wid_cut (c :: r) b (by simp) ?_).symm
        have := wid_le4 (c :: r ++ b)
        simp only [List.length_cons]
        omega
      simp only [P, List.append_nil, e]
      omega
    · rw [tl_short _ (by simp; omega)]; omega
theorem take_hd (b : List UInt8) : (hd b).take 3 = b.take 3 := by simp [hd, List.take_take]
/-- What stands at the seam of two texts is told by three bytes on either side. -/
theorem S_seam (f : Nat → Nat) (a b : List UInt8) : S f (a ++ b) + S f (tl a) + S f (hd b) = S f a + S f b + S f (tl a ++ hd b) := by
  have h1 := P_tail f b a
  have h2 := P_take f (tl a) b (hd b) (take_hd b).symm
  rw [S_append f a b, S_append f (tl a) (hd b), S_eq_P f (tl a), S_eq_P f a]
  omega

/-- A rune's other bytes begin no rune: a sum in which they count nothing goes from rune to rune. -/
theorem S_skip (f : Nat → Nat) (h1 : f 1 = 0) (l : List UInt8) (hl : l ≠ []) : S f l = f (wid l) + S f (l.drop (wid l)) := by
  have key : ∀ k j : Nat, 0 < j → j + k = wid l → S f (l.drop j) = S f (l.drop (wid l)) := by
    intro k
    induction k with
    | zero => intro j _ hj; rw [← hj]; simp
    | succ k ih =>
      intro j h0 hj
      have hlt : j < l.length := by have := wid_le l hl; omega
      rw [List.drop_eq_getElem_cons hlt]
      simp only [S]
      rw [← List.drop_eq_getElem_cons hlt, wid_drop l j h0 (by omega), h1, ih (j + 1) (by omega) (by omega)]
      omega
  have hp := wid_pos l
  have := key (wid l - 1) 1 (by omega) (by omega)
  cases l with
  | nil => exact (hl rfl).elim
  | cons c r =>
    simp only [S]
    rw [← this]
    simp
def ex (w : Nat) : Nat := w - 1
def four (w : Nat) : Nat := if w = 4 then 1 else 0

theorem S_ex_le (n : Nat) : ∀ l : List UInt8, l.length ≤ n → S ex l ≤ l.length := by
  induction n with
  | zero => intro l hl; cases l with
    | nil => simp [S]
    | cons c r => simp at hl
  | succ n ih =>
    intro l hl
    by_cases h : l = []
    · subst h; simp [S]
    · have hp := wid_pos l
      have hw := wid_le l h
      rw [S_skip ex rfl l h]
      have := ih (l.drop (wid l)) (by simp; omega)
      simp only [List.length_drop] at this
      unfold ex at *
      omega
theorem S_ex (l : List UInt8) : S ex l ≤ l.length := S_ex_le l.length l (Nat.le_refl _)

/-- How many runes; how many units. -/
def runes (l : List UInt8) : Nat := l.length - S ex l
def units (l : List UInt8) : Nat := runes l + S four l

theorem S_four_le (l : List UInt8) : S four l ≤ l.length := by
  induction l with
  | nil => simp [S]
  | cons c r ih => simp only [S, List.length_cons]; unfold four at *; split <;> omega

/-- Is a place an edge? -/
def edge (l : List UInt8) (p : Nat) : Prop := ∀ j, j < p → j + wid (l.drop j) ≤ p

theorem P_cost (b a : List UInt8) : ∃ c, P ex b a = P ex [] a + c ∧ c ≤ 3 ∧ (c = 0 ↔ edge (a ++ b) a.length) := by
  induction a with
  | nil => exact ⟨0, by simp [P], by omega, by simp [edge]⟩
  | cons x r ih =>
    obtain ⟨c, h1, h2, h3⟩ := ih
    have hp := wid_pos (x :: r ++ b)
    have h4 := wid_le4 (x :: r ++ b)
    by_cases hw : wid (x :: r ++ b) ≤ (x :: r).length
    · refine ⟨c, ?_, h2, h3.trans ?_⟩
      · simp only [P, List.append_nil, h1, wid_cut (x :: r) b (by simp) hw]; omega
      · constructor
        · intro h j hj
          cases j with
          | zero => simpa using hw
          | succ j => have := h j (by simp at hj; omega); simp at *; omega
        · intro h j hj
          have := h (j + 1) (by simp; omega)
          simp at *; omega
    · have hw' : (x :: r).length < wid (x :: r ++ b) := by omega
      have e1 := wid_cross (x :: r) b (by simp) hw'
      have hc : c = 0 := h3.2 (fun j hj => by
        have := wid_drop (x :: r ++ b) (j + 1) (by omega) (by simp at hw' ⊢; omega)
        simp at this
        rw [this]; omega)
      subst hc
      refine ⟨wid (x :: r ++ b) - 1, ?_, by omega, ?_⟩
      · simp only [P, List.append_nil, h1, e1]; unfold ex; omega
      · constructor
        · intro h
          rw [List.length_cons] at hw'
          omega
        · intro h
          have := h 0 (by simp)
          simp at this hw'; omega

/-- What a seam costs. -/
theorem runes_cost (a b : List UInt8) : ∃ c, runes a + runes b = runes (a ++ b) + c ∧ c ≤ 3 ∧ (c = 0 ↔ edge (a ++ b) a.length) := by
  obtain ⟨c, h1, h2, h3⟩ := P_cost b a
  refine ⟨c, ?_, h2, h3⟩
  have ha := S_ex a
  have hb := S_ex b
  have hab := S_ex (a ++ b)
  have e := S_append ex a b
  rw [h1, ← S_eq_P] at e
  unfold runes
  simp only [List.length_append] at *
  omega

theorem tl_hd_len (a b : List UInt8) : (tl a ++ hd b).length = (tl a).length + (hd b).length := by simp

theorem runes_seam (a b : List UInt8) : runes (a ++ b) + runes (tl a) + runes (hd b) = runes a + runes b + runes (tl a ++ hd b) := by
  have h := S_seam ex a b
  have h1 := S_ex a; have h2 := S_ex b; have h3 := S_ex (a ++ b); have h4 := S_ex (tl a); have h5 := S_ex (hd b); have h6 := S_ex (tl a ++ hd b)
  unfold runes
  simp only [List.length_append] at *
  omega
theorem units_seam (a b : List UInt8) : units (a ++ b) + units (tl a) + units (hd b) = units a + units b + units (tl a ++ hd b) := by
  have h := S_seam four a b
  have h' := runes_seam a b
  unfold units
  omega

/-- The places of the runes: the rune, where it begins, where it ends. -/
def marks : Nat → List UInt8 → Nat → List (Nat × Nat × Nat)
  | 0, _, _ => []
  | n + 1, l, p => if l = [] then [] else (run l, p, p + wid l) :: marks n (l.drop (wid l)) (p + wid l)

theorem marks_edge (n : Nat) : ∀ (l : List UInt8) (p : Nat), l.length ≤ n → ∀ q, (∃ m ∈ marks n l p, m.2.1 = q) ↔ (p ≤ q ∧ q < p + l.length ∧ edge l (q - p)) := by
  induction n with
  | zero =>
    intro l p hl q
    have : l = [] := List.length_eq_zero_iff.1 (by omega)
    subst this
    simp [marks]
    omega
  | succ n ih =>
    intro l p hl q
    unfold marks
    by_cases h : l = []
    · subst h; simp; omega
    · rw [if_neg h]
      have hp := wid_pos l
      have hw := wid_le l h
      have hi := ih (l.drop (wid l)) (p + wid l) (by simp; omega) q
      simp only [List.length_drop] at hi
      constructor
      · rintro ⟨m, hm, rfl⟩
        simp only [List.mem_cons] at hm
        rcases hm with rfl | hm
        · refine ⟨Nat.le_refl _, by have := List.length_pos_iff.2 h; simp; omega, ?_⟩
          intro j hj; simp at hj
        · obtain ⟨g1, g2, g3⟩ := hi.1 ⟨m, hm, rfl⟩
          refine ⟨by omega, by omega, ?_⟩
          intro j hj
          by_cases hj2 : wid l ≤ j
          · have := g3 (j - wid l) (by omega)
            rw [List.drop_drop, show wid l + (j - wid l) = j from by omega] at this
            omega
          · by_cases hj0 : j = 0
            · subst hj0; simp; omega
            · rw [wid_drop l j (by omega) (by omega)]; omega
      · rintro ⟨g1, g2, g3⟩
        by_cases hq : q = p
        · subst hq; exact ⟨_, List.mem_cons_self, rfl⟩
        · have h0 := g3 0 (by omega)
          simp at h0
          obtain ⟨m, hm, e⟩ := hi.2 ⟨by omega, by omega, fun j hj => by
            have := g3 (wid l + j) (by omega)
            rw [List.drop_drop]
            omega⟩
          exact ⟨m, List.mem_cons_of_mem _ hm, e⟩

end Go.Rp
end

section
namespace Go.Rp

theorem edge_zero (l : List UInt8) : edge l 0 := fun j hj => by omega
theorem edge_end (l : List UInt8) : edge l l.length := fun j hj => by
  have := wid_le (l.drop j) (by intro e; have := congrArg List.length e; simp at this; omega)
  simp at this
  omega
theorem dec_takes (l : List UInt8) (m : Nat) (h : 4 ≤ m ∨ l.length ≤ m) : dec (l.take m) = dec l := by
  by_cases hl : l.length ≤ m
  · rw [List.take_of_length_le hl]
  · have hm : 4 ≤ m := by omega
    match l, hl with
    | [], hl => simp at hl
    | c :: r, hl =>
      obtain ⟨k, rfl⟩ : ∃ k, m = k + 1 := ⟨m - 1, by omega⟩
      rw [List.take_succ_cons]
      have := dec_take [c] (r.take k) r (by simp) (by rw [List.take_take, Nat.min_eq_left (by omega)])
      simpa using this
theorem wid_takes (l : List UInt8) (m : Nat) (h : 4 ≤ m ∨ l.length ≤ m) : wid (l.take m) = wid l := by unfold wid; rw [dec_takes l m h]

open Classical in
/-- The greatest edge up to a place. -/
noncomputable def eb (l : List UInt8) : Nat → Nat
  | 0 => 0
  | k + 1 => if edge l (k + 1) then k + 1 else eb l k
theorem eb_le (l : List UInt8) : ∀ k, eb l k ≤ k
  | 0 => Nat.le_refl _
  | k + 1 => by
    unfold eb
    split
    · omega
    · have := eb_le l k; omega
theorem eb_edge (l : List UInt8) : ∀ k, edge l (eb l k)
  | 0 => edge_zero l
  | k + 1 => by
    unfold eb
    split
    · assumption
    · exact eb_edge l k
theorem eb_of (l : List UInt8) (k : Nat) (h : edge l k) : eb l k = k := by
  cases k with
  | zero => rfl
  | succ k => unfold eb; rw [if_pos h]
theorem eb_not (l : List UInt8) (k : Nat) (h : ¬ edge l (k + 1)) : eb l (k + 1) = eb l k := by
  conv => lhs; unfold eb
  rw [if_neg h]
theorem eb_mono (l : List UInt8) (a b : Nat) (h : a ≤ b) : eb l a ≤ eb l b := by
  induction b with
  | zero =>
    obtain rfl : a = 0 := by omega
    exact Nat.le_refl _
  | succ b ih =>
    by_cases ha : a = b + 1
    · subst ha; exact Nat.le_refl _
    · have := ih (by omega)
      by_cases he : edge l (b + 1)
      · rw [eb_of l _ he]
        have := eb_le l a
        omega
      · rw [eb_not l b he]; exact this

theorem take_ne (l : List UInt8) (e : Nat) (he : 0 < e) (h : l ≠ []) : l.take e ≠ [] := by
  obtain ⟨c, r, rfl⟩ := List.exists_cons_of_ne_nil h
  obtain ⟨k, rfl⟩ : ∃ k, e = k + 1 := ⟨e - 1, by omega⟩
  simp
theorem wid_head (l : List UInt8) (e : Nat) (h : l ≠ []) (hw : wid l ≤ e) : dec (l.take e) = dec l := by
  by_cases hl : l.length ≤ e
  · rw [List.take_of_length_le hl]
  · have h0 := wid_pos l
    have := dec_cut (l.take e) (l.drop e) (take_ne l e (by omega) h) (by rw [List.take_append_drop, List.length_take]; omega)
    rw [List.take_append_drop] at this
    exact this
theorem marks_fuel (n : Nat) : ∀ (m : Nat) (l : List UInt8) (p : Nat), l.length ≤ n → l.length ≤ m → marks n l p = marks m l p := by
  induction n with
  | zero =>
    intro m l p hn _
    obtain rfl : l = [] := List.length_eq_zero_iff.1 (by omega)
    cases m <;> simp [marks]
  | succ n ih =>
    intro m l p hn hm
    by_cases h : l = []
    · subst h; cases m <;> simp [marks]
    · have hp := wid_pos l
      have hl := List.length_pos_iff.2 h
      obtain ⟨m', rfl⟩ : ∃ m', m = m' + 1 := ⟨m - 1, by omega⟩
      simp only [marks, h, if_false]
      rw [ih m' _ _ (by simp; omega) (by simp; omega)]
/-- At an edge the list of the runes falls apart. -/
theorem marks_split (n : Nat) : ∀ (l : List UInt8) (p e : Nat), l.length ≤ n → e ≤ l.length → edge l e → marks n l p = marks n (l.take e) p ++ marks n (l.drop e) (p + e) := by
  induction n with
  | zero => intro l p e hn he _; simp [marks]
  | succ n ih =>
    intro l p e hn he hedge
    by_cases h : l = []
    · subst h; simp [marks]
    · by_cases h0 : e = 0
      · subst h0; simp [marks]
      · have hp := wid_pos l
        have hw : wid l ≤ e := by have := hedge 0 (by omega); simpa using this
        have hd := wid_head l e h hw
        have hwd : wid (l.take e) = wid l := by unfold wid; rw [hd]
        have hrd : run (l.take e) = run l := by unfold run; rw [hd]
        have hi := ih (l.drop (wid l)) (p + wid l) (e - wid l) (by simp; omega) (by simp; omega) (fun j hj => by
          have := hedge (wid l + j) (by omega)
          rw [List.drop_drop]
          omega)
        have e1 : marks (n + 1) l p = (run l, p, p + wid l) :: marks n (l.drop (wid l)) (p + wid l) := by simp [marks, h]
        have e2 : marks (n + 1) (l.take e) p = (run l, p, p + wid l) :: marks n ((l.take e).drop (wid l)) (p + wid l) := by
          simp only [marks, take_ne l e (by omega) h, if_false, hwd, hrd]
        rw [e1, e2, hi, List.cons_append, List.drop_take, List.drop_drop, show wid l + (e - wid l) = e from by omega, show p + wid l + (e - wid l) = p + e from by omega]
        congr 2
        exact marks_fuel n (n + 1) _ _ (by simp; omega) (by simp; omega)
theorem runes_skip (l : List UInt8) (h : l ≠ []) : runes l = runes (l.drop (wid l)) + 1 := by
  have h1 := S_skip ex rfl l h
  have h2 := S_ex (l.drop (wid l))
  have h3 := wid_le l h
  have h4 := wid_pos l
  unfold runes
  simp only [List.length_drop, ex] at *
  omega
theorem units_skip (l : List UInt8) (h : l ≠ []) : units l = units (l.drop (wid l)) + (if 65535 < run l then 2 else 1) := by
  have h1 := S_skip four rfl l h
  have h2 := runes_skip l h
  have h3 := run_four l
  unfold units
  rw [h1, h2]
  unfold four
  by_cases h4 : wid l = 4
  · rw [if_pos h4, if_pos (h3.2 h4)]; omega
  · rw [if_neg h4, if_neg (fun h5 => h4 (h3.1 h5))]; omega
/-- How many units a list of runes has. -/
def unitsOf (M : List (Nat × Nat × Nat)) : Nat := (M.map (fun m => if 65535 < m.1 then 2 else 1)).sum
theorem unitsOf_append (a b : List (Nat × Nat × Nat)) : unitsOf (a ++ b) = unitsOf a + unitsOf b := by simp [unitsOf]
theorem unitsOf_ge (a : List (Nat × Nat × Nat)) : a.length ≤ unitsOf a ∧ unitsOf a ≤ 2 * a.length := by
  induction a with
  | nil => simp [unitsOf]
  | cons x r ih =>
    have : unitsOf (x :: r) = (if 65535 < x.1 then 2 else 1) + unitsOf r := by simp [unitsOf]
    rw [this, List.length_cons]
    split <;> omega
theorem marks_runes (n : Nat) : ∀ (l : List UInt8) (p : Nat), l.length ≤ n → (marks n l p).length = runes l ∧ unitsOf (marks n l p) = units l := by
  induction n with
  | zero =>
    intro l p hn
    obtain rfl : l = [] := List.length_eq_zero_iff.1 (by omega)
    exact ⟨rfl, rfl⟩
  | succ n ih =>
    intro l p hn
    by_cases h : l = []
    · subst h; exact ⟨rfl, rfl⟩
    · have hp := wid_pos l
      have hl := List.length_pos_iff.2 h
      obtain ⟨i1, i2⟩ := ih (l.drop (wid l)) (p + wid l) (by simp; omega)
      have e1 : marks (n + 1) l p = (run l, p, p + wid l) :: marks n (l.drop (wid l)) (p + wid l) := by simp [marks, h]
      rw [e1, runes_skip l h, units_skip l h]
      refine ⟨by simp [i1], ?_⟩
      have : unitsOf ((run l, p, p + wid l) :: marks n (l.drop (wid l)) (p + wid l)) = (if 65535 < run l then 2 else 1) + unitsOf (marks n (l.drop (wid l)) (p + wid l)) := by simp [unitsOf]
      rw [this, i2]
      omega
/-- Each rune of the list: what it is, where it ends; what stands ahead of it. -/
theorem marks_get (n : Nat) : ∀ (l : List UInt8) (p i : Nat), l.length ≤ n → ∀ h : i < (marks n l p).length,
    ∃ q, (marks n l p)[i] = (run (l.drop q), p + q, p + q + wid (l.drop q)) ∧ q < l.length ∧ edge l q ∧ (marks n l p).take i = marks n (l.take q) p := by
  induction n with
  | zero => intro l p i hn h; simp [marks] at h
  | succ n ih =>
    intro l p i hn h
    by_cases h0 : l = []
    · subst h0; simp [marks] at h
    · have hp := wid_pos l
      have hw := wid_le l h0
      have hl := List.length_pos_iff.2 h0
      have e1 : marks (n + 1) l p = (run l, p, p + wid l) :: marks n (l.drop (wid l)) (p + wid l) := by simp [marks, h0]
      cases i with
      | zero => exact ⟨0, by simp [e1], hl, edge_zero l, by simp [marks]⟩
      | succ i =>
        simp only [e1, List.length_cons] at h
        obtain ⟨q, g1, g2, g3, g4⟩ := ih (l.drop (wid l)) (p + wid l) i (by simp; omega) (by omega)
        have hedge : edge l (wid l + q) := by
          intro j hj
          by_cases hj2 : wid l ≤ j
          · have := g3 (j - wid l) (by omega)
            rw [List.drop_drop, show wid l + (j - wid l) = j from by omega] at this
            omega
          · by_cases hj0 : j = 0
            · subst hj0; simp
            · rw [wid_drop l j (by omega) (by omega)]; omega
        simp only [List.length_drop] at g2
        refine ⟨wid l + q, ?_, by omega, hedge, ?_⟩
        · simp only [e1, List.getElem_cons_succ]
          rw [g1, List.drop_drop]
          simp only [Nat.add_assoc]
        · rw [e1, List.take_succ_cons, g4]
          have hd := wid_head l (wid l + q) h0 (by omega)
          have hwd : wid (l.take (wid l + q)) = wid l := congrArg Prod.snd hd
          have hrd : run (l.take (wid l + q)) = run l := congrArg Prod.fst hd
          simp only [marks, take_ne l (wid l + q) (by omega) h0, if_false, hwd, hrd]
          rw [List.drop_take, show wid l + q - wid l = q from by omega]

/-- How many runes stand ahead of a place, or of the rune in which it is. -/
noncomputable def gR (l : List UInt8) (k : Nat) : Nat := runes (l.take (eb l k))
noncomputable def gU (l : List UInt8) (k : Nat) : Nat := units (l.take (eb l k))
/-- Where a rune begins; behind the last: the end. -/
def pl (l : List UInt8) (i : Nat) : Nat := match (marks l.length l 0)[i]? with
  | some m => m.2.1
  | none => l.length
theorem edges_le (l : List UInt8) (a b : Nat) (ha : edge l a) (_hb : edge l b) (h : a ≤ b) (hl : b ≤ l.length) :
    runes (l.take a) + (b - a) ≥ runes (l.take b) ∧ runes (l.take a) ≤ runes (l.take b) ∧ units (l.take a) ≤ units (l.take b) ∧ (a < b → runes (l.take a) < runes (l.take b) ∧ units (l.take a) < units (l.take b)) := by
  have hab : edge (l.take b) a := by
    intro j hj
    have h1 := ha j hj
    have h2 := wid_head (l.drop j) (b - j) (by intro e; have := congrArg List.length e; simp at this; omega) (by omega)
    rw [List.drop_take]
    unfold wid at *
    rw [h2]
    exact h1
  have hs := marks_split (l.take b).length (l.take b) 0 a (Nat.le_refl _) (by simp; omega) hab
  rw [List.take_take, Nat.min_eq_left h] at hs
  have m1 := marks_runes (l.take b).length (l.take b) 0 (Nat.le_refl _)
  have m2 := marks_runes (l.take b).length (l.take a) 0 (by simp; omega)
  have m3 := marks_runes (l.take b).length ((l.take b).drop a) (0 + a) (by simp)
  rw [hs, List.length_append, unitsOf_append, m2.1, m2.2, m3.1, m3.2] at m1
  have hr : runes ((l.take b).drop a) ≤ b - a := by
    unfold runes
    simp
    omega
  have hr2 : a < b → 0 < runes ((l.take b).drop a) ∧ 0 < units ((l.take b).drop a) := by
    intro hlt
    have hne : (l.take b).drop a ≠ [] := by
      intro e
      have := congrArg List.length e
      simp at this
      omega
    have h1 := runes_skip _ hne
    have h2 : runes ((l.take b).drop a) ≤ units ((l.take b).drop a) := by unfold units; omega
    omega
  refine ⟨by omega, by omega, by omega, fun hlt => ?_⟩
  have := hr2 hlt
  omega
theorem pl_edge (l : List UInt8) (i : Nat) : edge l (pl l i) ∧ pl l i ≤ l.length ∧ (i ≤ (marks l.length l 0).length → runes (l.take (pl l i)) = i ∧ (marks l.length l 0).take i = marks l.length (l.take (pl l i)) 0) := by
  unfold pl
  by_cases h : i < (marks l.length l 0).length
  · obtain ⟨q, g1, g2, g3, g4⟩ := marks_get l.length l 0 i (Nat.le_refl _) h
    rw [List.getElem?_eq_getElem h, g1]
    simp only [Nat.zero_add]
    refine ⟨g3, by omega, fun _ => ⟨?_, g4⟩⟩
    have := (marks_runes l.length (l.take q) 0 (by simp; omega)).1
    rw [← g4, List.length_take] at this
    omega
  · rw [List.getElem?_eq_none (by omega)]
    refine ⟨edge_end l, Nat.le_refl _, fun hi => ?_⟩
    obtain rfl : i = (marks l.length l 0).length := by omega
    simp only [List.take_length]
    exact ⟨(marks_runes l.length l 0 (Nat.le_refl _)).1.symm, trivial⟩
theorem gR_pl (l : List UInt8) (i : Nat) (h : i ≤ (marks l.length l 0).length) : gR l (pl l i) = i := by
  unfold gR
  rw [eb_of l _ (pl_edge l i).1]
  exact ((pl_edge l i).2.2 h).1
theorem gU_pl (l : List UInt8) (i : Nat) (h : i ≤ (marks l.length l 0).length) : gU l (pl l i) = unitsOf ((marks l.length l 0).take i) := by
  unfold gU
  rw [eb_of l _ (pl_edge l i).1, ((pl_edge l i).2.2 h).2]
  exact ((marks_runes l.length _ 0 (by simp; omega)).2).symm
theorem gR_mono (l : List UInt8) (a b : Nat) (h : a ≤ b) (hb : b ≤ l.length) : gR l a ≤ gR l b ∧ gU l a ≤ gU l b := by
  have := edges_le l (eb l a) (eb l b) (eb_edge l a) (eb_edge l b) (eb_mono l a b h) (by have := eb_le l b; omega)
  exact ⟨this.2.1, this.2.2.1⟩
theorem gR_low (l : List UInt8) (i k : Nat) (_h : i ≤ (marks l.length l 0).length) (hk : k < pl l i) : gR l k < gR l (pl l i) ∧ gU l k < gU l (pl l i) := by
  have h1 := eb_le l k
  have h2 := pl_edge l i
  have h3 := eb_of l _ h2.1
  have := edges_le l (eb l k) (pl l i) (eb_edge l k) h2.1 (by omega) h2.2.1
  unfold gR gU
  rw [h3]
  exact this.2.2.2 (by omega)
/-- Every edge is where a rune begins, or the end. -/
theorem edge_pl (l : List UInt8) (k : Nat) (h : edge l k) (hk : k ≤ l.length) : pl l (gR l k) = k ∧ gR l k ≤ (marks l.length l 0).length := by
  have hall := (marks_runes l.length l 0 (Nat.le_refl _)).1
  have hg : gR l k ≤ (marks l.length l 0).length := by
    have := edges_le l k l.length h (edge_end l) hk (Nat.le_refl _)
    rw [List.take_length] at this
    unfold gR
    rw [eb_of l k h, hall]
    exact this.2.1
  refine ⟨?_, hg⟩
  have h1 := gR_pl l _ hg
  have h2 := pl_edge l (gR l k)
  have h3 := eb_of l _ h2.1
  have h4 : gR l (pl l (gR l k)) = runes (l.take (pl l (gR l k))) := by show runes (l.take (eb l (pl l (gR l k)))) = _; rw [h3]
  have h5 : gR l k = runes (l.take k) := by conv => lhs; unfold gR; rw [eb_of l k h]
  rcases Nat.lt_trichotomy (pl l (gR l k)) k with hlt | heq | hgt
  · have := (edges_le l _ k h2.1 h (by omega) hk).2.2.2 hlt
    omega
  · exact heq
  · have := (edges_le l k _ h h2.1 (by omega) h2.2.1).2.2.2 hgt
    omega
theorem gR_all (l : List UInt8) : gR l l.length = (marks l.length l 0).length ∧ gU l l.length = unitsOf (marks l.length l 0) := by
  unfold gR gU
  rw [eb_of l _ (edge_end l), List.take_length]
  exact ⟨(marks_runes l.length l 0 (Nat.le_refl _)).1.symm, (marks_runes l.length l 0 (Nat.le_refl _)).2.symm⟩
/-- The runes that end up to a place. -/
theorem marks_upto (l : List UInt8) (k : Nat) (hk : k ≤ l.length) : (marks l.length l 0).filter (fun m => decide (m.2.2 ≤ k)) = marks l.length (l.take (eb l k)) 0 := by
  have hle := eb_le l k
  have hs := marks_split l.length l 0 (eb l k) (Nat.le_refl _) (by omega) (eb_edge l k)
  rw [hs, List.filter_append]
  have f1 : (marks l.length (l.take (eb l k)) 0).filter (fun m => decide (m.2.2 ≤ k)) = marks l.length (l.take (eb l k)) 0 := by
    rw [List.filter_eq_self]
    intro m hm
    obtain ⟨i, hi, rfl⟩ := List.getElem_of_mem hm
    obtain ⟨q, g1, g2, g3, g4⟩ := marks_get l.length (l.take (eb l k)) 0 i (by simp; omega) hi
    rw [g1]
    have := wid_le ((l.take (eb l k)).drop q) (by intro e; have := congrArg List.length e; simp at this; simp at g2; omega)
    simp only [List.length_drop, List.length_take] at this g2
    simp only [decide_eq_true_eq]
    omega
  have f2 : (marks l.length (l.drop (eb l k)) (0 + eb l k)).filter (fun m => decide (m.2.2 ≤ k)) = [] := by
    rw [List.filter_eq_nil_iff]
    intro m hm
    obtain ⟨i, hi, rfl⟩ := List.getElem_of_mem hm
    obtain ⟨q, g1, g2, g3, g4⟩ := marks_get l.length (l.drop (eb l k)) (0 + eb l k) i (by simp) hi
    rw [g1]
    simp only [List.length_drop] at g2
    simp only [decide_eq_true_eq]
    intro hle2
    -- its end is an edge of the whole, up to the place
    have hend : edge l (eb l k + q + wid ((l.drop (eb l k)).drop q)) := by
      have hq : edge l (eb l k + q) := by
        intro j hj
        by_cases hj2 : eb l k ≤ j
        · have := g3 (j - eb l k) (by omega)
          rw [List.drop_drop, show eb l k + (j - eb l k) = j from by omega] at this
          omega
        · have := eb_edge l k j (by omega)
          omega
      intro j hj
      by_cases hj2 : j < eb l k + q
      · have := hq j hj2; omega
      · by_cases hj3 : j = eb l k + q
        · subst hj3
          rw [List.drop_drop]
          exact Nat.le_refl _
        · have := wid_drop ((l.drop (eb l k)).drop q) (j - (eb l k + q)) (by omega) (by omega)
          rw [List.drop_drop, List.drop_drop, show eb l k + (q + (j - (eb l k + q))) = j from by omega] at this
          rw [this]
          omega
    have hp := wid_pos ((l.drop (eb l k)).drop q)
    have := eb_mono l _ k (show eb l k + q + wid ((l.drop (eb l k)).drop q) ≤ k by omega)
    rw [eb_of l _ hend] at this
    omega
  rw [f1, f2, List.append_nil]
end Go.Rp
end

section
namespace Go.Gr
open Go.Rp

def endsC (x : Nat) : Bool := x == 1 || x == 2 || x == 3
/-- Are two classes side by side never parted? -/
def joinsC (x y : Nat) : Bool :=
  if x = 1 ∧ y = 2 then true else if endsC x || endsC y then false
  else if y = 4 ∨ y = 5 ∨ y = 6 ∨ x = 7 then true
  else if x = 8 then (y == 8 || y == 9 || y == 11)
  else if x = 9 ∨ x = 11 then (y == 9 || y == 10)
  else (x == 10 && y == 10)
/-- What is kept of what stands ahead: the last class; a picture right ahead; and a joiner behind it; flags right ahead. -/
structure G where
  c : Nat
  pic : Bool
  join : Bool
  fl : Nat
def G.next (st : G) (y : Nat) : G := ⟨y, y == 12 || (st.pic && y == 4), st.pic && y == 5, if y = 13 then st.fl + 1 else 0⟩
def G.same (st : G) (y : Nat) : Bool := joinsC st.c y || (st.join && y == 12) || (y == 13 && st.fl % 2 == 1)
def G.first (y : Nat) : G := ⟨y, y == 12, false, if y = 13 then 1 else 0⟩
/-- Where letters begin, behind what is kept. -/
def bnd (cl : Nat → Nat) : G → List (Nat × Nat × Nat) → List Nat
  | _, [] => []
  | st, m :: ms => (if st.same (cl m.1) then [] else [m.2.1]) ++ bnd cl (st.next (cl m.1)) ms
def bndAll (cl : Nat → Nat) : List (Nat × Nat × Nat) → List Nat
  | [] => []
  | m :: ms => m.2.1 :: bnd cl (G.first (cl m.1)) ms
/-- The bounds of a text. -/
def bounds (cl : Nat → Nat) (l : List UInt8) : List Nat := if l = [] then [] else bndAll cl (marks l.length l 0) ++ [l.length]

def G.run (cl : Nat → Nat) (st : G) (ms : List (Nat × Nat × Nat)) : G := ms.foldl (fun s m => s.next (cl m.1)) st
theorem bnd_append (cl : Nat → Nat) : ∀ (A B : List (Nat × Nat × Nat)) (st : G), bnd cl st (A ++ B) = bnd cl st A ++ bnd cl (st.run cl A) B
  | [], _, _ => rfl
  | m :: A, B, st => by
    rw [List.cons_append, bnd, bnd, bnd_append cl A B, List.append_assoc]
    rfl
/-- What tells apart what may follow. -/
def G.like (a b : G) : Prop := a.c = b.c ∧ a.pic = b.pic ∧ a.join = b.join ∧ a.fl % 2 = b.fl % 2
theorem like_next {a b : G} (h : a.like b) (y : Nat) : (a.next y).like (b.next y) := by
  obtain ⟨h1, h2, h3, h4⟩ := h
  refine ⟨rfl, by simp [G.next, h2], by simp [G.next, h2], ?_⟩
  unfold G.next
  dsimp only
  split <;> omega
theorem like_same {a b : G} (h : a.like b) (y : Nat) : a.same y = b.same y := by
  obtain ⟨h1, h2, h3, h4⟩ := h
  unfold G.same
  rw [h1, h3, h4]
theorem bnd_like (cl : Nat → Nat) : ∀ (ms : List (Nat × Nat × Nat)) (a b : G), a.like b → bnd cl a ms = bnd cl b ms
  | [], _, _, _ => rfl
  | m :: ms, a, b, h => by
    rw [bnd, bnd, like_same h, bnd_like cl ms _ _ (like_next h _)]
theorem bnd_shift (cl : Nat → Nat) (e : Nat) : ∀ (ms : List (Nat × Nat × Nat)) (st : G), bnd cl st (ms.map fun m => (m.1, m.2.1 + e, m.2.2 + e)) = (bnd cl st ms).map (· + e)
  | [], _ => rfl
  | m :: ms, st => by
    rw [List.map_cons, bnd, bnd, List.map_append, bnd_shift cl e ms]
    congr 1
    dsimp only
    split <;> rfl
theorem marks_shift (e : Nat) : ∀ (n : Nat) (l : List UInt8) (p : Nat), marks n l (p + e) = (marks n l p).map fun m => (m.1, m.2.1 + e, m.2.2 + e)
  | 0, _, _ => rfl
  | n + 1, l, p => by
    unfold marks
    split
    · rfl
    · rw [List.map_cons, show p + e + wid l = p + wid l + e by omega, marks_shift e n]
/-- A picture right ahead: no end, and all that extends it belongs to it. -/
def G.ok (st : G) : Prop := (st.pic = true → st.c = 12 ∨ st.c = 4)
theorem ok_first (y : Nat) : (G.first y).ok := fun h => .inl (by simpa [G.first] using h)
theorem ok_next (st : G) (y : Nat) : (st.next y).ok := fun h => by
  simp [G.next] at h
  rcases h with h | h
  · exact .inl h
  · exact .inr h.2
theorem ok_run (cl : Nat → Nat) : ∀ (ms : List (Nat × Nat × Nat)) (st : G), st.ok → (st.run cl ms).ok
  | [], _, h => h
  | _ :: ms, st, _ => ok_run cl ms _ (ok_next st _)
/-- Where a letter begins, nothing ahead of it has a part in what follows. -/
theorem next_like {st : G} (h : st.ok) {y : Nat} (hs : st.same y = false) : (st.next y).like (G.first y) := by
  unfold G.same at hs
  simp only [Bool.or_eq_false_iff, Bool.and_eq_false_imp] at hs
  obtain ⟨⟨hj, _⟩, hf⟩ := hs
  have hp : y = 4 ∨ y = 5 → st.pic = false := by
    intro hy
    cases hpic : st.pic with
    | false => rfl
    | true =>
      exfalso
      have hc := h hpic
      rcases hc with hc | hc <;> rcases hy with hy | hy <;> rw [hc, hy] at hj <;> exact absurd hj (by decide)
  refine ⟨rfl, ?_, ?_, ?_⟩
  · show (y == 12 || (st.pic && y == 4)) = (y == 12)
    by_cases h4 : y = 4
    · rw [hp (.inl h4)]; simp
    · simp [h4]
  · show (st.pic && y == 5) = false
    by_cases h5 : y = 5
    · rw [hp (.inr h5)]; simp
    · simp [h5]
  · show (if y = 13 then st.fl + 1 else 0) % 2 = (if y = 13 then 1 else 0) % 2
    by_cases h13 : y = 13
    · have := hf (by simp [h13])
      simp at this
      rw [if_pos h13, if_pos h13]
      omega
    · rw [if_neg h13, if_neg h13]
theorem bnd_mem (cl : Nat → Nat) : ∀ (ms : List (Nat × Nat × Nat)) (st : G) (q : Nat), q ∈ bnd cl st ms → ∃ m ∈ ms, m.2.1 = q
  | [], _, _, h => by simp [bnd] at h
  | m :: ms, st, q, h => by
    rw [bnd, List.mem_append] at h
    rcases h with h | h
    · split at h
      · simp at h
      · exact ⟨m, by simp, (by simpa using (List.mem_singleton.1 h).symm)⟩
    · obtain ⟨x, hx, e⟩ := bnd_mem cl ms _ q h
      exact ⟨x, by simp [hx], e⟩
theorem marks_place (n : Nat) (l : List UInt8) (p : Nat) (hl : l.length ≤ n) {m : Nat × Nat × Nat} (h : m ∈ marks n l p) : p ≤ m.2.1 ∧ m.2.1 < p + l.length := by
  have := (marks_edge n l p hl m.2.1).1 ⟨m, h, rfl⟩
  exact ⟨this.1, this.2.1⟩
theorem bndAll_mem (cl : Nat → Nat) {ms : List (Nat × Nat × Nat)} {q : Nat} (h : q ∈ bndAll cl ms) : ∃ m ∈ ms, m.2.1 = q := by
  cases ms with
  | nil => simp [bndAll] at h
  | cons m ms =>
    rw [bndAll, List.mem_cons] at h
    rcases h with h | h
    · exact ⟨m, by simp, h.symm⟩
    · obtain ⟨x, hx, e⟩ := bnd_mem cl ms _ q h
      exact ⟨x, by simp [hx], e⟩
/-- The bounds of two texts put together, where a letter begins at the seam. -/
theorem bounds_app (cl : Nat → Nat) (s t : List UInt8) (hs : s ≠ []) (ht : t ≠ []) (h : s.length ∈ bounds cl (s ++ t)) :
    bounds cl (s ++ t) = (bounds cl s).dropLast ++ (bounds cl t).map (· + s.length) := by
  have h0 := List.length_pos_iff.2 hs
  have h1 := List.length_pos_iff.2 ht
  have hst : s ++ t ≠ [] := by simp [hs]
  unfold bounds at h ⊢
  rw [if_neg hst] at h ⊢
  rw [if_neg hs, if_neg ht]
  have hm : s.length ∈ bndAll cl (marks (s ++ t).length (s ++ t) 0) := by
    rcases List.mem_append.1 h with h | h
    · exact h
    · simp at h; exact absurd h ht
  obtain ⟨m, hm1, hm2⟩ := bndAll_mem cl hm
  have hedge := ((marks_edge (s ++ t).length (s ++ t) 0 (Nat.le_refl _) s.length).1 ⟨m, hm1, hm2⟩).2.2
  have hsp := marks_split (s ++ t).length (s ++ t) 0 s.length (Nat.le_refl _) (by simp) hedge
  rw [List.take_left', List.drop_left'] at hsp
  · rw [marks_fuel _ s.length s 0 (by simp) (Nat.le_refl _), marks_fuel _ t.length t _ (by simp) (Nat.le_refl _), marks_shift] at hsp
    rw [hsp] at hm ⊢
    have hsl : ∀ m ∈ marks s.length s 0, m.2.1 < s.length := fun m hm => by
      have := (marks_place s.length s 0 (Nat.le_refl _) hm).2
      omega
    have htl : ∀ m ∈ marks t.length t 0, m.2.1 < t.length := fun m hm => by
      have := (marks_place t.length t 0 (Nat.le_refl _) hm).2
      omega
    rw [List.dropLast_concat]
    obtain ⟨a, A, hA⟩ : ∃ a A, marks s.length s 0 = a :: A := by
      obtain ⟨k, hk⟩ : ∃ k, s.length = k + 1 := ⟨s.length - 1, by omega⟩
      rw [hk, marks, if_neg hs]
      exact ⟨_, _, rfl⟩
    obtain ⟨b, B, hB, hb0, hBp⟩ : ∃ b B, marks t.length t 0 = b :: B ∧ b.2.1 = 0 ∧ ∀ m ∈ B, 0 < m.2.1 := by
      obtain ⟨k, hk⟩ : ∃ k, t.length = k + 1 := ⟨t.length - 1, by omega⟩
      rw [hk, marks, if_neg ht]
      refine ⟨_, _, rfl, rfl, fun m hm => ?_⟩
      have := (marks_place k (t.drop (wid t)) (0 + wid t) (by have := wid_pos t; simp; omega) hm).1
      have := wid_pos t
      omega
    rw [hA] at hsl hm ⊢
    rw [hB] at htl hm ⊢
    have hok := ok_run cl A _ (ok_first (cl a.1))
    rw [List.map_cons, List.cons_append, bndAll, bnd_append, bnd] at hm
    have hns : ((G.first (cl a.1)).run cl A).same (cl b.1) = false := by
      cases hsm : ((G.first (cl a.1)).run cl A).same (cl b.1) with
      | false => rfl
      | true =>
        exfalso
        rw [hsm, if_pos rfl, List.nil_append, List.mem_cons, List.mem_append] at hm
        rcases hm with hm | hm | hm
        · have := hsl a (by simp); omega
        · obtain ⟨x, hx, e⟩ := bnd_mem cl _ _ _ hm
          have := hsl x (by simp [hx]); omega
        · obtain ⟨x, hx, e⟩ := bnd_mem cl _ _ _ hm
          obtain ⟨y, hy, rfl⟩ := List.mem_map.1 hx
          have := hBp y hy
          simp only at e
          omega
    rw [List.map_cons, List.cons_append, bndAll, bnd_append, bnd, hns, if_neg (by simp), bnd_like cl _ _ _ (next_like hok hns), bnd_shift, bndAll, bndAll]
    simp [hb0, Nat.add_comm]
  · rfl
  · rfl
end Go.Gr
end

section
namespace Go.Gr
open Go.Rp

/-- Neighbours. -/
def pairsOf : List Nat → List (Nat × Nat)
  | a :: b :: r => (a, b) :: pairsOf (b :: r)
  | _ => []
theorem pairsOf_split : ∀ (A B : List Nat) (e : Nat), pairsOf (A ++ e :: B) = pairsOf (A ++ [e]) ++ pairsOf (e :: B)
  | [], _, _ => by simp [pairsOf]
  | [a], B, e => by simp [pairsOf]
  | a :: b :: A, B, e => by
    have h := pairsOf_split (b :: A) B e
    simp only [List.cons_append] at h
    simp only [List.cons_append, pairsOf, h]
theorem pairsOf_shift (e : Nat) : ∀ l : List Nat, pairsOf (l.map (· + e)) = (pairsOf l).map fun p => (p.1 + e, p.2 + e)
  | [] => rfl
  | [_] => rfl
  | a :: b :: r => by
    have h := pairsOf_shift e (b :: r)
    simp only [List.map_cons] at h
    simp only [List.map_cons, pairsOf, h]
theorem pairsOf_mem : ∀ (l : List Nat) (p : Nat × Nat), p ∈ pairsOf l → p.1 ∈ l ∧ p.2 ∈ l
  | [], p, h => by simp [pairsOf] at h
  | [_], p, h => by simp [pairsOf] at h
  | a :: b :: r, p, h => by
    simp only [pairsOf, List.mem_cons] at h
    rcases h with rfl | h
    · simp
    · have := pairsOf_mem (b :: r) p h
      exact ⟨List.mem_cons_of_mem _ this.1, List.mem_cons_of_mem _ this.2⟩
/-- The letters. -/
def letters (cl : Nat → Nat) (l : List UInt8) : List (List UInt8) := (pairsOf (bounds cl l)).map fun p => (l.take p.2).drop p.1
theorem bounds_le (cl : Nat → Nat) (l : List UInt8) : ∀ q ∈ bounds cl l, q ≤ l.length := by
  intro q hq
  unfold bounds at hq
  split at hq
  · simp at hq
  · rcases List.mem_append.1 hq with h | h
    · obtain ⟨m, hm, rfl⟩ := bndAll_mem cl h
      have := (marks_place l.length l 0 (Nat.le_refl _) hm).2
      omega
    · simp at h; omega
theorem bounds_head (cl : Nat → Nat) (l : List UInt8) (h : l ≠ []) : ∃ B, bounds cl l = 0 :: B := by
  unfold bounds
  rw [if_neg h]
  obtain ⟨k, hk⟩ : ∃ k, l.length = k + 1 := ⟨l.length - 1, by have := List.length_pos_iff.2 h; omega⟩
  rw [hk, marks, if_neg h, bndAll]
  exact ⟨_, rfl⟩
theorem bounds_last (cl : Nat → Nat) (l : List UInt8) (h : l ≠ []) : bounds cl l = (bounds cl l).dropLast ++ [l.length] := by
  unfold bounds
  rw [if_neg h, List.dropLast_concat]
/-- The letters of two texts put together, where a letter begins at the seam. -/
theorem letters_app (cl : Nat → Nat) (s t : List UInt8) (h : s = [] ∨ t = [] ∨ s.length ∈ bounds cl (s ++ t)) : letters cl (s ++ t) = letters cl s ++ letters cl t := by
  have hnil : letters cl [] = [] := by simp [letters, bounds, pairsOf]
  by_cases hs : s = []
  · subst hs; rw [hnil]; rfl
  · by_cases ht : t = []
    · subst ht; rw [hnil, List.append_nil, List.append_nil]
    · have hb := bounds_app cl s t hs ht ((h.resolve_left hs).resolve_left ht)
      obtain ⟨B, hB⟩ := bounds_head cl t ht
      unfold letters
      rw [hb, hB, List.map_cons, Nat.zero_add, pairsOf_split, ← bounds_last cl s hs, List.map_append]
      congr 1
      · refine List.map_congr_left fun p hp => ?_
        have h2 := bounds_le cl s _ (pairsOf_mem _ _ hp).2
        rw [List.take_append_of_le_length h2]
      · rw [show s.length :: List.map (fun x => x + s.length) B = (0 :: B).map (· + s.length) by simp, pairsOf_shift, List.map_map]
        refine List.map_congr_left fun p _ => ?_
        show ((s ++ t).take (p.2 + s.length)).drop (p.1 + s.length) = (t.take p.2).drop p.1
        rw [Nat.add_comm p.2, List.take_append, List.take_of_length_le (by omega : s.length ≤ s.length + p.2), show s.length + p.2 - s.length = p.2 by omega, Nat.add_comm p.1, ← List.drop_drop, List.drop_left']
        rfl
/-- The column behind a letter: lw its cells, en: does it end a line? -/
def behindC (lw : List UInt8 → Nat) (en : List UInt8 → Bool) (tab col : Nat) (l : List UInt8) : Nat :=
  if en l then 0 else if l.headD 0 = 9 then col - col % tab + tab else col + lw l
/-- The column behind a text. -/
def textC (lw : List UInt8 → Nat) (en : List UInt8 → Bool) (tab col : Nat) (ls : List (List UInt8)) : Nat := ls.foldl (behindC lw en tab) col
theorem textC_app (lw : List UInt8 → Nat) (en : List UInt8 → Bool) (tab col : Nat) (a b : List (List UInt8)) : textC lw en tab col (a ++ b) = textC lw en tab (textC lw en tab col a) b := List.foldl_append ..
theorem behindC_le (lw : List UInt8 → Nat) (en : List UInt8 → Bool) (tab col : Nat) (l : List UInt8) (h : lw l ≤ 2) : behindC lw en tab col l ≤ col + tab + 2 := by
  unfold behindC
  split
  · omega
  · split <;> omega
theorem textC_le (lw : List UInt8 → Nat) (en : List UInt8 → Bool) (tab : Nat) : ∀ (ls : List (List UInt8)) (col : Nat), (∀ l ∈ ls, lw l ≤ 2) → textC lw en tab col ls ≤ col + (tab + 2) * ls.length
  | [], col, _ => by simp [textC]
  | l :: ls, col, h => by
    have h1 := behindC_le lw en tab col l (h l (by simp))
    have h2 := textC_le lw en tab ls (behindC lw en tab col l) (fun x hx => h x (by simp [hx]))
    rw [List.length_cons, Nat.mul_add, Nat.mul_one]
    show textC lw en tab (behindC lw en tab col l) ls ≤ _
    omega
end Go.Gr
end

section
namespace Go.Gr

/-- What is asked of runes: the class, the cells. -/
structure Cell where
  cl : Nat → Nat
  wd : Nat → Nat
  tab : Nat
def endR (r : Nat) : Bool := (decide (10 ≤ r) && decide (r ≤ 13)) || r == 133 || r == 8232 || r == 8233
/-- The cells of a letter of some runes, from a rune on: i is how many stand ahead, n the most so far. -/
def lwGo (k : Cell) (kind : Nat) : Nat → Nat → List Nat → Nat
  | _, n, [] => n
  | i, n, r :: rs => lwGo k kind (i + 1) (if (i = 1 ∧ kind = 13 ∧ k.cl r = 13) ∨ (r = 65039 ∧ kind = 12) then 2 else max n (k.wd r)) rs
def lwR (k : Cell) (l : List Nat) : Nat := lwGo k (k.cl (l.headD 0)) 0 0 l
def behindR (k : Cell) (col : Nat) (l : List Nat) : Nat :=
  if endR (l.headD 0) then 0 else if l.headD 0 = 9 then col - col % k.tab + k.tab else col + lwR k l
/-- What stands ahead: the letter under way, and the column ahead of it. -/
structure W where
  g : G
  col : Nat
  cur : List Nat
def W.val (k : Cell) (w : W) : Nat := behindR k w.col w.cur
def W.next (k : Cell) (w : W) (r : Nat) : W :=
  if w.g.same (k.cl r) then ⟨w.g.next (k.cl r), w.col, w.cur ++ [r]⟩ else ⟨w.g.next (k.cl r), w.val k, [r]⟩
/-- Blanks in the place of tabs. -/
def plainGo (k : Cell) : W → List Nat → List Nat
  | _, [] => []
  | w, r :: rs => (if r = 9 then List.replicate (k.tab - w.val k % k.tab) 32 else [r]) ++ plainGo k (w.next k r) rs
structure Cell.Ok (k : Cell) : Prop where
  tab : 1 ≤ k.tab
  zero : ∀ r, k.cl r = 4 ∨ k.cl r = 5 ∨ k.cl r = 7 → k.wd r = 0
  b0 : k.cl 32 = 0
  b1 : k.wd 32 = 1
  t3 : k.cl 9 = 3
  ends : ∀ r, endR r = true → endsC (k.cl r) = true
/-- A letter of which only the widest rune counts. -/
def soft (k : Cell) (l : List Nat) : Prop := l ≠ [] ∧ k.cl (l.headD 0) ≠ 12 ∧ k.cl (l.headD 0) ≠ 13 ∧ endsC (k.cl (l.headD 0)) = false
theorem lwGo_soft (k : Cell) {kind : Nat} (h1 : kind ≠ 12) (h2 : kind ≠ 13) : ∀ (l : List Nat) (i n : Nat), lwGo k kind i n l = l.foldl (fun n r => max n (k.wd r)) n
  | [], _, _ => rfl
  | r :: l, i, n => by
    rw [lwGo, if_neg (by rintro (h | h); exact h2 h.2.1; exact h1 h.2), lwGo_soft k h1 h2 l]
    rfl
theorem val_soft {k : Cell} (ok : k.Ok) {col : Nat} {l : List Nat} (h : soft k l) : behindR k col l = col + l.foldl (fun n r => max n (k.wd r)) 0 := by
  obtain ⟨_, h1, h2, h3⟩ := h
  unfold behindR lwR
  rw [lwGo_soft k h1 h2]
  have he : endR (l.headD 0) = false := by
    cases e : endR (l.headD 0) with
    | false => rfl
    | true => rw [ok.ends _ e] at h3; exact absurd h3 (by simp)
  have ht : l.headD 0 ≠ 9 := fun e => by rw [e, ok.t3] at h3; exact absurd h3 (by decide)
  rw [if_neg (by rw [he]; simp), if_neg ht]
theorem soft_app {k : Cell} {l : List Nat} (h : soft k l) (x : Nat) : soft k (l ++ [x]) := by
  obtain ⟨h0, h1⟩ := h
  cases l with
  | nil => exact absurd rfl h0
  | cons a l => exact ⟨by simp, h1⟩
theorem val_app {k : Cell} (ok : k.Ok) {col : Nat} {l : List Nat} (h : soft k l) {x : Nat} (hx : k.wd x = 0) : behindR k col (l ++ [x]) = behindR k col l := by
  rw [val_soft ok (soft_app h x), val_soft ok h, List.foldl_append]
  simp [hx]
theorem soft_one {k : Cell} {x : Nat} (h1 : k.cl x ≠ 12) (h2 : k.cl x ≠ 13) (h3 : endsC (k.cl x) = false) : soft k [x] := ⟨by simp, h1, h2, h3⟩
theorem val_one {k : Cell} (ok : k.Ok) {col x : Nat} (h1 : k.cl x ≠ 12) (h2 : k.cl x ≠ 13) (h3 : endsC (k.cl x) = false) : behindR k col [x] = col + k.wd x := by
  rw [val_soft ok (soft_one h1 h2 h3)]
  simp
/-- Nothing is kept of pictures and flags. -/
def still (g : G) : Prop := g.pic = false ∧ g.join = false ∧ g.fl = 0
theorem same_still {g : G} (h : still g) (y : Nat) : g.same y = joinsC g.c y := by
  obtain ⟨_, h2, h3⟩ := h
  simp [G.same, h2, h3]
theorem next_still {g : G} (h : still g) (y : Nat) : g.next y = G.first y := by
  obtain ⟨h1, _, h3⟩ := h
  simp [G.next, G.first, h1, h3]
/-- A blank in a letter of its own. -/
theorem blank_new {k : Cell} (ok : k.Ok) {w : W} (h : w.g.same 0 = false) : w.next k 32 = ⟨w.g.next 0, w.val k, [32]⟩ ∧ (w.next k 32).val k = w.val k + 1 := by
  have e : w.next k 32 = ⟨w.g.next 0, w.val k, [32]⟩ := by
    unfold W.next
    rw [ok.b0, h]
    simp
  refine ⟨e, ?_⟩
  rw [e]
  show behindR k (w.val k) [32] = _
  rw [val_one ok (by rw [ok.b0]; decide) (by rw [ok.b0]; decide) (by rw [ok.b0]; decide), ok.b1]
/-- A letter that a blank ends. -/
def blanked (k : Cell) (w : W) : Prop := w.g = ⟨0, false, false, 0⟩ ∧ soft k w.cur
theorem blanks {k : Cell} (ok : k.Ok) : ∀ (n : Nat) (w : W), blanked k w → blanked k ((List.replicate n 32).foldl (W.next k) w) ∧ ((List.replicate n 32).foldl (W.next k) w).val k = w.val k + n
  | 0, _, h => ⟨h, rfl⟩
  | n + 1, w, h => by
    obtain ⟨e, hv⟩ := blank_new ok (w := w) (by rw [h.1]; decide)
    have hb : blanked k (w.next k 32) := by
      rw [e, h.1]
      exact ⟨rfl, soft_one (by rw [ok.b0]; decide) (by rw [ok.b0]; decide) (by rw [ok.b0]; decide)⟩
    have := blanks ok n _ hb
    rw [List.replicate_succ, List.foldl_cons]
    exact ⟨this.1, by rw [this.2, hv]; omega⟩
end Go.Gr
end

section
namespace Go.Gr

theorem joins3 (y : Nat) : joinsC 3 y = false := by
  unfold joinsC
  rw [if_neg (by omega)]
  simp [endsC]
theorem joinsTo3 (x : Nat) : joinsC x 3 = false := by
  unfold joinsC
  rw [if_neg (by omega)]
  simp [endsC]
theorem joins0 (y : Nat) (h6 : y ≠ 6) : joinsC 0 y = (y == 4 || y == 5) := by
  unfold joinsC endsC
  rw [if_neg (by omega)]
  by_cases h4 : y = 4
  · subst h4; rfl
  · by_cases h5 : y = 5
    · subst h5; rfl
    · simp [h4, h5, h6]
theorem joins45 (x y : Nat) (hx : x = 4 ∨ x = 5) (h6 : y ≠ 6) : joinsC x y = (y == 4 || y == 5) := by
  unfold joinsC endsC
  rw [if_neg (by omega)]
  by_cases h4 : y = 4
  · subst h4; rcases hx with rfl | rfl <;> rfl
  · by_cases h5 : y = 5
    · subst h5; rcases hx with rfl | rfl <;> rfl
    · rcases hx with rfl | rfl <;> simp [h4, h5, h6]
theorem joinsTo0 (x : Nat) : joinsC x 0 = true → x = 7 := by
  unfold joinsC endsC
  intro h
  rw [if_neg (by omega)] at h
  split at h
  · exact absurd h (by simp)
  · split at h
    · omega
    · split at h
      · simp at h
      · split at h
        · simp at h
        · simp at h
theorem joinsTo7 (x : Nat) : joinsC x 7 = true → x = 7 := by
  unfold joinsC endsC
  intro h
  rw [if_neg (by omega)] at h
  split at h
  · exact absurd h (by simp)
  · split at h
    · omega
    · split at h
      · simp at h
      · split at h
        · simp at h
        · simp at h
/-- A letter that ends in a rune that draws the next one has only such runes. -/
def Inv (k : Cell) (w : W) : Prop := w.cur ≠ [] ∧ (w.g.c = 7 → ∀ x ∈ w.cur, k.cl x = 7)
theorem inv_next {k : Cell} {w : W} (h : Inv k w) (r : Nat) : Inv k (w.next k r) := by
  unfold W.next
  split
  · rename_i hs
    refine ⟨by simp, fun h7 x hx => ?_⟩
    have h7' : k.cl r = 7 := h7
    have hw : w.g.c = 7 := by
      rw [h7'] at hs
      refine joinsTo7 _ ?_
      simpa [G.same] using hs
    rcases List.mem_append.1 hx with hx | hx
    · exact h.2 hw x hx
    · rw [List.mem_singleton.1 hx]; exact h7'
  · refine ⟨by simp, fun h7 x hx => ?_⟩
    rw [List.mem_singleton.1 hx]; exact h7
theorem inv_soft {k : Cell} {w : W} (h : Inv k w) (h7 : w.g.c = 7) : soft k w.cur := by
  obtain ⟨h0, h1⟩ := h
  have hx : k.cl (w.cur.headD 0) = 7 := by
    cases hc : w.cur with
    | nil => exact absurd hc h0
    | cons a l => exact h1 h7 a (by rw [hc]; simp)
  exact ⟨h0, by rw [hx]; decide, by rw [hx]; decide, by rw [hx]; decide⟩
/-- The column behind where only the widest rune counts, when one more rune takes one cell and all others none. -/
theorem val_blank {k : Cell} (ok : k.Ok) {col : Nat} {l : List Nat} (h : soft k l) (h7 : ∀ x ∈ l, k.cl x = 7) : behindR k col (l ++ [32]) = behindR k col l + 1 := by
  have hz : ∀ (l : List Nat) (n : Nat), (∀ x ∈ l, k.cl x = 7) → l.foldl (fun n r => max n (k.wd r)) n = n := by
    intro l
    induction l with
    | nil => intro n _; rfl
    | cons a l ih =>
      intro n hl
      rw [List.foldl_cons, ok.zero a (.inr (.inr (hl a (by simp)))), Nat.max_zero]
      exact ih n (fun x hx => hl x (by simp [hx]))
  rw [val_soft ok (soft_app h 32), val_soft ok h, List.foldl_append, hz l 0 h7]
  simp [ok.b1]
/-- What blanks in the place of a tab leave. -/
theorem tab_blanks {k : Cell} (ok : k.Ok) {w : W} (hg : w.g.c = 7 → soft k w.cur ∧ ∀ x ∈ w.cur, k.cl x = 7) {n : Nat} (hn : 1 ≤ n) :
    blanked k ((List.replicate n 32).foldl (W.next k) w) ∧ ((List.replicate n 32).foldl (W.next k) w).val k = w.val k + n := by
  obtain ⟨m, rfl⟩ : ∃ m, n = m + 1 := ⟨n - 1, by omega⟩
  rw [List.replicate_succ, List.foldl_cons]
  have hfirst : blanked k (w.next k 32) ∧ (w.next k 32).val k = w.val k + 1 := by
    have hgn : w.g.next 0 = ⟨0, false, false, 0⟩ := by simp [G.next]
    cases hs : w.g.same 0 with
    | false =>
      obtain ⟨e, hv⟩ := blank_new ok hs
      refine ⟨?_, hv⟩
      rw [e]
      exact ⟨hgn, soft_one (by rw [ok.b0]; decide) (by rw [ok.b0]; decide) (by rw [ok.b0]; decide)⟩
    | true =>
      have h7 : w.g.c = 7 := joinsTo0 _ (by simpa [G.same] using hs)
      obtain ⟨g1, g2⟩ := hg h7
      have e : w.next k 32 = ⟨w.g.next 0, w.col, w.cur ++ [32]⟩ := by
        unfold W.next
        rw [ok.b0, hs]
        simp
      rw [e]
      exact ⟨⟨hgn, soft_app g1 32⟩, val_blank ok g1 g2⟩
  have := blanks ok m _ hfirst.1
  exact ⟨this.1, by rw [this.2, hfirst.2]; omega⟩
/-- Behind a tab, and behind blanks in its place. -/
structure Soft (k : Cell) (w v : W) : Prop where
  val : w.val k = v.val k
  sw : still w.g
  sv : still v.g
  cs : (w.g.c = 3 ∧ v.g.c = 0) ∨ ((w.g.c = 4 ∨ w.g.c = 5) ∧ v.g.c = w.g.c ∧ soft k w.cur)
  v : soft k v.cur
def Rel (k : Cell) (w v : W) : Prop := (w = v ∧ Inv k w) ∨ Soft k w v
theorem rel_val {k : Cell} {w v : W} (h : Rel k w v) : w.val k = v.val k := by
  rcases h with ⟨rfl, _⟩ | h
  · rfl
  · exact h.val
theorem rel_c7 {k : Cell} {w v : W} (h : Rel k w v) : v.g.c = 7 → soft k v.cur ∧ ∀ x ∈ v.cur, k.cl x = 7 := by
  intro h7
  rcases h with ⟨rfl, hi⟩ | h
  · exact ⟨inv_soft hi h7, hi.2 h7⟩
  · exfalso
    rcases h.cs with ⟨_, e⟩ | ⟨e, e2, _⟩ <;> omega
theorem still_first {y : Nat} (h : y ≠ 12) (h2 : y ≠ 13) : still (G.first y) := ⟨by simp [G.first, h], rfl, by simp [G.first, h2]⟩
/-- A tab begins a letter. -/
theorem tab_next {k : Cell} (ok : k.Ok) (w : W) : w.next k 9 = ⟨w.g.next 3, w.val k, [9]⟩ ∧ (w.next k 9).val k = w.val k + (k.tab - w.val k % k.tab) := by
  have hs : w.g.same 3 = false := by simp [G.same, joinsTo3]
  have e : w.next k 9 = ⟨w.g.next 3, w.val k, [9]⟩ := by
    unfold W.next
    rw [ok.t3, hs]
    simp
  refine ⟨e, ?_⟩
  rw [e]
  show behindR k (w.val k) [9] = _
  unfold behindR
  have h9 : ([9] : List Nat).headD 0 = 9 := rfl
  rw [h9, if_neg (by decide), if_pos rfl]
  have h1 := Nat.mod_lt (w.val k) ok.tab
  have h2 := Nat.mod_le (w.val k) k.tab
  omega
theorem rel_tab {k : Cell} (ok : k.Ok) {w v : W} (h : Rel k w v) :
    Rel k (w.next k 9) ((List.replicate (k.tab - w.val k % k.tab) 32).foldl (W.next k) v) := by
  have h1 := Nat.mod_lt (w.val k) ok.tab
  obtain ⟨e, hv⟩ := tab_next ok w
  obtain ⟨⟨b1, b2⟩, b3⟩ := tab_blanks ok (rel_c7 h) (n := k.tab - w.val k % k.tab) (by omega)
  refine .inr ⟨by rw [hv, b3, rel_val h], ?_, ?_, ?_, b2⟩
  · rw [e]
    exact ⟨by simp [G.next], by simp [G.next], by simp [G.next]⟩
  · rw [b1]; exact ⟨rfl, rfl, rfl⟩
  · rw [e, b1]; exact .inl ⟨rfl, rfl⟩
theorem rel_next {k : Cell} (ok : k.Ok) {w v : W} (h : Rel k w v) {r : Nat} (h6 : k.cl r ≠ 6) : Rel k (w.next k r) (v.next k r) := by
  rcases h with ⟨rfl, hi⟩ | h
  · exact .inl ⟨rfl, inv_next hi r⟩
  · have hsv : v.g.same (k.cl r) = (k.cl r == 4 || k.cl r == 5) := by
      rw [same_still h.sv]
      rcases h.cs with ⟨_, e⟩ | ⟨e, e2, _⟩
      · rw [e]; exact joins0 _ h6
      · rw [e2]; exact joins45 _ _ e h6
    cases h45 : (k.cl r == 4 || k.cl r == 5) with
    | false =>
      rw [h45] at hsv
      have hsw : w.g.same (k.cl r) = false := by
        rw [same_still h.sw]
        rcases h.cs with ⟨e, _⟩ | ⟨e, _, _⟩
        · rw [e]; exact joins3 _
        · rw [joins45 _ _ e h6]; exact h45
      refine .inl ?_
      have ew : w.next k r = ⟨G.first (k.cl r), w.val k, [r]⟩ := by unfold W.next; rw [hsw, next_still h.sw]; simp
      have ev : v.next k r = ⟨G.first (k.cl r), v.val k, [r]⟩ := by unfold W.next; rw [hsv, next_still h.sv]; simp
      rw [ew, ev, h.val]
      refine ⟨rfl, by simp, fun h7 x hx => ?_⟩
      rw [List.mem_singleton.1 hx]; exact h7
    | true =>
      rw [h45] at hsv
      have hr : k.cl r = 4 ∨ k.cl r = 5 := by simpa using h45
      have hz : k.wd r = 0 := ok.zero r (by omega)
      have ev : v.next k r = ⟨G.first (k.cl r), v.col, v.cur ++ [r]⟩ := by unfold W.next; rw [hsv, next_still h.sv]; simp
      have vv : (v.next k r).val k = v.val k := by rw [ev]; exact val_app ok h.v hz
      have hst : still (G.first (k.cl r)) := still_first (by omega) (by omega)
      have hne : endsC (k.cl r) = false := by rcases hr with e | e <;> rw [e] <;> rfl
      rcases h.cs with ⟨e, _⟩ | ⟨e, _, hw⟩
      · have ew : w.next k r = ⟨G.first (k.cl r), w.val k, [r]⟩ := by
          unfold W.next
          rw [same_still h.sw, e, joins3, next_still h.sw]
          simp
        have wv : (w.next k r).val k = w.val k := by
          rw [ew]
          show behindR k (w.val k) [r] = _
          rw [val_one ok (by omega) (by omega) hne, hz, Nat.add_zero]
        refine .inr ⟨by rw [wv, vv, h.val], by rw [ew]; exact hst, by rw [ev]; exact hst, ?_, by rw [ev]; exact soft_app h.v r⟩
        rw [ew, ev]
        exact .inr ⟨hr, rfl, soft_one (by omega) (by omega) hne⟩
      · have ew : w.next k r = ⟨G.first (k.cl r), w.col, w.cur ++ [r]⟩ := by
          unfold W.next
          rw [same_still h.sw, joins45 _ _ e h6, h45, next_still h.sw]
          simp
        have wv : (w.next k r).val k = w.val k := by rw [ew]; exact val_app ok hw hz
        refine .inr ⟨by rw [wv, vv, h.val], by rw [ew]; exact hst, by rw [ev]; exact hst, ?_, by rw [ev]; exact soft_app h.v r⟩
        rw [ew, ev]
        exact .inr ⟨hr, rfl, soft_app hw r⟩
theorem rel_plain {k : Cell} (ok : k.Ok) : ∀ (rs : List Nat) (w v : W), Rel k w v → (∀ r ∈ rs, k.cl r ≠ 6) → Rel k (rs.foldl (W.next k) w) ((plainGo k w rs).foldl (W.next k) v)
  | [], _, _, h, _ => h
  | r :: rs, w, v, h, h6 => by
    rw [plainGo, List.foldl_append, List.foldl_cons]
    refine rel_plain ok rs _ _ ?_ (fun x hx => h6 x (by simp [hx]))
    split
    · rename_i e
      subst e
      exact rel_tab ok h
    · exact rel_next ok h (h6 r (by simp))
/-- Blanks in the place of tabs take the same columns. -/
theorem val_plain {k : Cell} (ok : k.Ok) (rs : List Nat) (w : W) (hi : Inv k w) (h6 : ∀ r ∈ rs, k.cl r ≠ 6) : ((plainGo k w rs).foldl (W.next k) w).val k = (rs.foldl (W.next k) w).val k :=
  (rel_val (rel_plain ok rs w w (.inl ⟨rfl, hi⟩) h6)).symm
end Go.Gr
end

section
namespace Go.Gr
open Go.Rp

/-- The runes of a text. -/
def runesOf (l : List UInt8) : List Nat := (marks l.length l 0).map (·.1)
theorem runesOf_nil : runesOf [] = [] := rfl
theorem runesOf_step (l : List UInt8) (h : l ≠ []) : runesOf l = Rp.run l :: runesOf (l.drop (wid l)) := by
  have hp := wid_pos l
  have hw := wid_le l h
  obtain ⟨m, hm⟩ : ∃ m, l.length = m + 1 := ⟨l.length - 1, by omega⟩
  unfold runesOf
  rw [hm, marks, if_neg h, List.map_cons, marks_fuel m (l.drop (wid l)).length _ _ (by simp; omega) (Nat.le_refl _), marks_shift (wid l) _ _ 0, List.map_map]
  rfl
theorem edge_take {l : List UInt8} {e m : Nat} (h : edge l e) (he : e ≤ m) (hm : m ≤ l.length) : edge (l.take m) e := by
  intro j hj
  have h1 := h j hj
  have hne : l.drop j ≠ [] := by intro e2; have := congrArg List.length e2; simp at this; omega
  have h2 := wid_head (l.drop j) (m - j) hne (by omega)
  have h3 : (l.take m).drop j = (l.drop j).take (m - j) := by rw [List.drop_take]
  rw [h3]
  unfold wid at h1 ⊢
  rw [h2]
  exact h1
theorem runesOf_split {l : List UInt8} {e : Nat} (he : e ≤ l.length) (h : edge l e) : runesOf l = runesOf (l.take e) ++ runesOf (l.drop e) := by
  unfold runesOf
  rw [marks_split l.length l 0 e (Nat.le_refl _) he h, List.map_append, marks_fuel l.length (l.take e).length (l.take e) 0 (by simp; omega) (Nat.le_refl _),
    marks_fuel l.length (l.drop e).length (l.drop e) _ (by simp) (Nat.le_refl _), marks_shift e _ _ 0, List.map_map]
  rfl
theorem edge_next {l : List UInt8} {e : Nat} (h : edge l e) (he : e < l.length) : edge l (e + wid (l.drop e)) := by
  intro j hj
  by_cases h1 : j < e
  · have := h j h1; omega
  · by_cases h2 : j = e
    · subst h2; omega
    · have h3 := wid_drop (l.drop e) (j - e) (by omega) (by omega)
      rw [List.drop_drop, show e + (j - e) = j by omega] at h3
      omega
/-- One rune more. -/
theorem runesOf_more {l : List UInt8} {e : Nat} (h : edge l e) (he : e < l.length) : runesOf (l.take (e + wid (l.drop e))) = runesOf (l.take e) ++ [Rp.run (l.drop e)] := by
  have hne : l.drop e ≠ [] := by intro e2; have := congrArg List.length e2; simp at this; omega
  have hw := wid_le (l.drop e) hne
  have hp := wid_pos (l.drop e)
  rw [List.length_drop] at hw
  have h1 := runesOf_split (l := l.take (e + wid (l.drop e))) (e := e) (by simp; omega) (edge_take h (by omega) (by omega))
  rw [h1, List.take_take, Nat.min_eq_left (by omega), List.drop_take, show e + wid (l.drop e) - e = wid (l.drop e) by omega]
  congr 1
  have h2 := wid_head (l.drop e) (wid (l.drop e)) hne (Nat.le_refl _)
  have h3 : (l.drop e).take (wid (l.drop e)) ≠ [] := by intro e2; have := congrArg List.length e2; simp at this; omega
  have hw2 : wid ((l.drop e).take (wid (l.drop e))) = wid (l.drop e) := by
    show (dec _).2 = _
    rw [h2]
    rfl
  rw [runesOf_step _ h3, hw2]
  have hr : Rp.run ((l.drop e).take (wid (l.drop e))) = Rp.run (l.drop e) := by
    show (dec _).1 = _
    rw [h2]
    rfl
  have h4 : ((l.drop e).take (wid (l.drop e))).drop (wid (l.drop e)) = [] := List.drop_eq_nil_of_le (by rw [List.length_take]; omega)
  rw [hr, h4, runesOf_nil]
/-- The runes in groups: a letter each. -/
def groups (cl : Nat → Nat) : G → List Nat → List Nat → List (List Nat)
  | _, cur, [] => [cur]
  | st, cur, r :: rs => if st.same (cl r) then groups cl (st.next (cl r)) (cur ++ [r]) rs else cur :: groups cl (st.next (cl r)) [r] rs
theorem run_groups (k : Cell) : ∀ (rs : List Nat) (w : W), (rs.foldl (W.next k) w).val k = (groups k.cl w.g w.cur rs).foldl (behindR k) w.col
  | [], _ => rfl
  | r :: rs, w => by
    rw [List.foldl_cons, run_groups k rs, groups]
    unfold W.next
    split
    · rfl
    · rw [List.foldl_cons]
      rfl
/-- The letters' runes are the groups. -/
theorem groups_bnd (cl : Nat → Nat) (l : List UInt8) : ∀ (n : Nat) (st : G) (a p : Nat), l.length - p ≤ n → a < p → p ≤ l.length → edge l a → edge l p →
    (pairsOf (a :: bnd cl st (marks (l.drop p).length (l.drop p) p) ++ [l.length])).map (fun q => runesOf ((l.take q.2).drop q.1)) = groups cl st (runesOf ((l.take p).drop a)) (runesOf (l.drop p)) := by
  intro n
  induction n with
  | zero =>
    intro st a p hn hap hp ha hpe
    obtain rfl : p = l.length := by omega
    simp [marks, bnd, pairsOf, runesOf_nil, groups]
  | succ n ih =>
    intro st a p hn hap hp ha hpe
    by_cases hlt : p < l.length
    · have hne : l.drop p ≠ [] := by intro e2; have := congrArg List.length e2; simp at this; omega
      have hw := wid_le (l.drop p) hne
      have hwp := wid_pos (l.drop p)
      rw [List.length_drop] at hw
      have hnx := edge_next hpe hlt
      have hm : marks (l.drop p).length (l.drop p) p = (Rp.run (l.drop p), p, p + wid (l.drop p)) :: marks (l.drop (p + wid (l.drop p))).length (l.drop (p + wid (l.drop p))) (p + wid (l.drop p)) := by
        obtain ⟨m, hm⟩ : ∃ m, (l.drop p).length = m + 1 := ⟨(l.drop p).length - 1, by simp; omega⟩
        have hl2 := hm
        rw [List.length_drop] at hl2
        rw [hm, marks, if_neg hne, List.drop_drop, marks_fuel m (l.drop (p + wid (l.drop p))).length _ _ (by simp; omega) (Nat.le_refl _)]
      have hda : edge (l.drop a) (p - a) := by
        intro j hj
        have := hpe (a + j) (by omega)
        rw [List.drop_drop]
        omega
      rw [hm, bnd, runesOf_step _ hne, groups, List.drop_drop]
      dsimp only
      split
      · rw [List.nil_append, ih _ a (p + wid (l.drop p)) (by omega) (by omega) (by omega) ha hnx]
        congr 1
        have h1 := runesOf_more (l := l.drop a) (e := p - a) hda (by simp; omega)
        rw [List.drop_drop, show a + (p - a) = p by omega] at h1
        rw [List.drop_take, List.drop_take, show p + wid (l.drop p) - a = p - a + wid (l.drop p) by omega]
        exact h1
      · have hi := ih (st.next (cl (Rp.run (l.drop p)))) p (p + wid (l.drop p)) (by omega) (by omega) (by omega) hpe hnx
        rw [List.cons_append, List.cons_append, List.cons_append, List.nil_append, pairsOf, List.map_cons]
        rw [List.cons_append] at hi
        rw [hi]
        congr 2
        have h1 := runesOf_more (l := l.drop p) (e := 0) (edge_zero _) (by simp; omega)
        rw [List.drop_zero, List.take_zero, runesOf_nil, List.nil_append, Nat.zero_add] at h1
        rw [List.drop_take, show p + wid (l.drop p) - p = wid (l.drop p) by omega]
        exact h1
    · exact ih st a p (by omega) hap hp ha hpe
/-- The runes of each letter of a text. -/
theorem letters_groups (cl : Nat → Nat) (l : List UInt8) (h : l ≠ []) :
    (letters cl l).map runesOf = groups cl (G.first (cl (Rp.run l))) [Rp.run l] (runesOf (l.drop (wid l))) := by
  have hw := wid_le l h
  have hp := wid_pos l
  have hnx := edge_next (l := l) (edge_zero l) (by omega)
  rw [List.drop_zero, Nat.zero_add] at hnx
  have hg := groups_bnd cl l l.length (G.first (cl (Rp.run l))) 0 (wid l) (by omega) (by omega) hw (edge_zero l) hnx
  have h1 := runesOf_more (l := l) (e := 0) (edge_zero _) (by omega)
  rw [List.drop_zero, List.take_zero, runesOf_nil, List.nil_append, Nat.zero_add] at h1
  rw [List.drop_zero, h1] at hg
  rw [← hg]
  unfold letters bounds
  rw [if_neg h, List.map_map]
  have hb : bndAll cl (marks l.length l 0) = 0 :: bnd cl (G.first (cl (Rp.run l))) (marks (l.drop (wid l)).length (l.drop (wid l)) (wid l)) := by
    obtain ⟨m, hm⟩ : ∃ m, l.length = m + 1 := ⟨l.length - 1, by omega⟩
    rw [hm, marks, if_neg h, bndAll, Nat.zero_add, marks_fuel m (l.drop (wid l)).length _ _ (by simp; omega) (Nat.le_refl _)]
  rw [hb]
  rfl
end Go.Gr
end

section
namespace Go.Gr
open Go.Rp

theorem foldl_map_behind (k : Cell) (en : List UInt8 → Bool) (lw : List UInt8 → Nat) : ∀ (ls : List (List UInt8)) (col : Nat),
    (∀ l ∈ ls, ∀ c, behindC lw en k.tab c l = behindR k c (runesOf l)) → textC lw en k.tab col ls = (ls.map runesOf).foldl (behindR k) col
  | [], _, _ => rfl
  | l :: ls, col, h => by
    rw [List.map_cons, List.foldl_cons, ← h l (by simp) col]
    exact foldl_map_behind k en lw ls _ (fun x hx c => h x (by simp [hx]) c)
theorem decN_small {n b0 b1 b2 b3 r : Nat} (hr : r < 128) : (Go.Lib.decodeN n b0 b1 b2 b3).1 = r ↔ b0 = r := by
  unfold Go.Lib.decodeN
  split
  · exact Iff.rfl
  · constructor
    · intro h
      exfalso
      split at h
      · split at h
        · dsimp only at h; omega
        · dsimp only at h; omega
      · split at h
        · split at h
          · dsimp only at h; omega
          · dsimp only at h; omega
        · split at h
          · split at h
            · dsimp only at h; omega
            · dsimp only at h; omega
          · dsimp only at h; omega
    · intro h; omega
/-- The first rune of a text is a tab where its first byte is one. -/
theorem head_tab (l : List UInt8) (h : l ≠ []) : l.headD 0 = 9 ↔ (runesOf l).headD 0 = 9 := by
  rw [runesOf_step l h]
  cases l with
  | nil => exact absurd rfl h
  | cons a l =>
    show a = 9 ↔ (dec (a :: l)).1 = 9
    unfold dec
    rw [decN_small (by omega)]
    show a = 9 ↔ a.toNat = 9
    constructor
    · rintro rfl; rfl
    · intro e; exact UInt8.toNat_inj.1 e
def lwT (k : Cell) (l : List UInt8) : Nat := lwR k (runesOf l)
def enT (l : List UInt8) : Bool := endR ((runesOf l).headD 0)
theorem behind_runes (k : Cell) (c : Nat) (l : List UInt8) (h : l ≠ []) : behindC (lwT k) enT k.tab c l = behindR k c (runesOf l) := by
  unfold behindC behindR lwT enT
  have := head_tab l h
  by_cases h1 : endR ((runesOf l).headD 0) = true
  · rw [if_pos h1, if_pos h1]
  · rw [if_neg h1, if_neg h1]
    by_cases h2 : l.headD 0 = 9
    · rw [if_pos h2, if_pos (this.1 h2)]
    · rw [if_neg h2, if_neg (fun e => h2 (this.2 e))]
/-- No letter is empty. -/
theorem letters_ne (cl : Nat → Nat) (l : List UInt8) : ∀ x ∈ letters cl l, x ≠ [] := by
  intro x hx e
  subst e
  by_cases h : l = []
  · subst h; simp [letters, bounds, pairsOf] at hx
  · have hm : ([] : List Nat) ∈ (letters cl l).map runesOf := List.mem_map.2 ⟨[], hx, rfl⟩
    rw [letters_groups cl l h] at hm
    have key : ∀ (rs : List Nat) (st : G) (cur : List Nat), cur ≠ [] → [] ∉ groups cl st cur rs := by
      intro rs
      induction rs with
      | nil => intro st cur hc hm; simp [groups] at hm; exact hc hm
      | cons r rs ih =>
        intro st cur hc hm
        rw [groups] at hm
        split at hm
        · exact ih _ _ (by simp) hm
        · rw [List.mem_cons] at hm
          rcases hm with hm | hm
          · exact hc hm.symm
          · exact ih _ _ (by simp) hm
    exact key _ _ _ (by simp) hm
/-- The column behind a text, rune by rune. -/
def textR (k : Cell) (col : Nat) : List Nat → Nat
  | [] => col
  | r :: rs => (rs.foldl (W.next k) ⟨G.first (k.cl r), col, [r]⟩).val k
theorem textC_runes (k : Cell) (col : Nat) (l : List UInt8) : textC (lwT k) enT k.tab col (letters k.cl l) = textR k col (runesOf l) := by
  rw [foldl_map_behind k enT (lwT k) _ col (fun x hx c => behind_runes k c x (letters_ne k.cl l x hx))]
  by_cases h : l = []
  · subst h; rfl
  · rw [letters_groups k.cl l h, runesOf_step l h, textR, run_groups]
/-- A text with blanks in the place of tabs. -/
def plainR (k : Cell) (col : Nat) : List Nat → List Nat
  | [] => []
  | r :: rs => (if r = 9 then List.replicate (k.tab - col % k.tab) 32 else [r]) ++ plainGo k ⟨G.first (k.cl r), col, [r]⟩ rs
theorem textR_plain {k : Cell} (ok : k.Ok) (col : Nat) (rs : List Nat) (h6 : ∀ r ∈ rs, k.cl r ≠ 6) : textR k col (plainR k col rs) = textR k col rs := by
  cases rs with
  | nil => rfl
  | cons r rs =>
    rw [plainR]
    by_cases h9 : r = 9
    · subst h9
      have h1 := Nat.mod_lt col ok.tab
      have h2 := Nat.mod_le col k.tab
      obtain ⟨n, hn⟩ : ∃ n, k.tab - col % k.tab = n + 1 := ⟨k.tab - col % k.tab - 1, by omega⟩
      rw [if_pos rfl, hn, List.replicate_succ, List.cons_append, textR, textR, List.foldl_append, ok.b0, ok.t3]
      have hb : blanked k ⟨G.first 0, col, [32]⟩ := ⟨by simp [G.first], soft_one (by rw [ok.b0]; decide) (by rw [ok.b0]; decide) (by rw [ok.b0]; decide)⟩
      obtain ⟨⟨b1, b2⟩, b3⟩ := blanks ok n _ hb
      have hv : W.val k ⟨G.first 0, col, [32]⟩ = col + 1 := by
        show behindR k col [32] = _
        rw [val_one ok (by rw [ok.b0]; decide) (by rw [ok.b0]; decide) (by rw [ok.b0]; decide), ok.b1]
      have ht : W.val k ⟨G.first 3, col, [9]⟩ = col + (n + 1) := by
        show behindR k col [9] = _
        unfold behindR
        have e9 : ([9] : List Nat).headD 0 = 9 := rfl
        rw [e9, if_neg (by decide), if_pos rfl]
        omega
      refine (rel_val (rel_plain ok rs _ _ (.inr ⟨?_, ?_, ?_, ?_, b2⟩) (fun x hx => h6 x (by simp [hx])))).symm
      · rw [ht, b3, hv]; omega
      · exact ⟨by simp [G.first], rfl, by simp [G.first]⟩
      · rw [b1]; exact ⟨rfl, rfl, rfl⟩
      · rw [b1]; exact .inl ⟨rfl, rfl⟩
    · rw [if_neg h9, List.cons_append, List.nil_append, textR, textR]
      exact val_plain ok rs _ ⟨by simp, fun h7 x hx => by rw [List.mem_singleton.1 hx]; exact h7⟩ (fun x hx => h6 x (by simp [hx]))
end Go.Gr
end

section
namespace Go.Gr
open Go.Rp

/-- Blanks in the place of the bytes 9: so many as the numbers say. -/
def fB : List Nat → List UInt8 → List UInt8
  | _, [] => []
  | ns, c :: l => if c = 9 then List.replicate (ns.headD 1) 32 ++ fB ns.tail l else c :: fB ns l
def fR : List Nat → List Nat → List Nat
  | _, [] => []
  | ns, r :: l => if r = 9 then List.replicate (ns.headD 1) 32 ++ fR ns.tail l else r :: fR ns l
theorem dec_seam (u b : List UInt8) (hu : u ≠ []) (hb : ∀ c r, b = c :: r → ¬ isCont c) : dec (u ++ b) = dec u := by
  refine (dec_cut u b hu ?_).symm
  by_cases h : wid (u ++ b) ≤ u.length
  · exact h
  · exfalso
    have h0 := List.length_pos_iff.2 hu
    have h1 := wid_cont (u ++ b) u.length h0 (by omega)
    have h2 := wid_le (u ++ b) (by simp [hu])
    cases b with
    | nil => simp at h2 h; omega
    | cons c r =>
      have h3 : (u ++ c :: r).getD u.length 0 = c := by simp [List.getD_eq_getElem?_getD]
      rw [h3] at h1
      exact hb c r rfl h1
theorem no9 (ns : List Nat) : ∀ (p b : List UInt8), 9 ∉ p → fB ns (p ++ b) = p ++ fB ns b
  | [], _, _ => rfl
  | c :: p, b, h => by
    have h1 : c ≠ 9 := fun e => h (by simp [e])
    rw [List.cons_append, fB, if_neg h1, no9 ns p b (fun e => h (by simp [e]))]
    rfl
theorem split9 : ∀ l : List UInt8, 9 ∉ l ∨ ∃ p a, l = p ++ 9 :: a ∧ 9 ∉ p
  | [] => .inl (by simp)
  | c :: l => by
    by_cases h : c = 9
    · exact .inr ⟨[], l, by rw [h]; rfl, by simp⟩
    · rcases split9 l with h1 | ⟨p, a, e, h1⟩
      · exact .inl (by simp [h1, Ne.symm h])
      · exact .inr ⟨c :: p, a, by rw [e]; rfl, by simp [h1, Ne.symm h]⟩
theorem cont9 : ¬ isCont 9 := by unfold isCont; decide
theorem cont32 : ¬ isCont 32 := by unfold isCont; decide
/-- The first rune of a text that begins with no tab stays. -/
theorem dec_fB (ns : List Nat) (hns : ∀ n ∈ ns, 1 ≤ n) (l : List UInt8) (h : l ≠ []) (h9 : l.headD 0 ≠ 9) : dec (fB ns l) = dec l := by
  rcases split9 l with h1 | ⟨p, a, rfl, h1⟩
  · have := no9 ns l [] h1
    rw [List.append_nil] at this
    rw [this, fB, List.append_nil]
  · have hp : p ≠ [] := by rintro rfl; exact h9 rfl
    rw [no9 ns p _ h1, dec_seam p (9 :: a) hp (fun c r e => by obtain ⟨rfl, -⟩ := List.cons.inj e; exact cont9)]
    refine dec_seam p _ hp (fun c r e => ?_)
    rw [fB, if_pos rfl] at e
    have hn : 1 ≤ ns.headD 1 := by cases ns with
      | nil => exact Nat.le_refl _
      | cons n ns => exact hns n (by simp)
    obtain ⟨m, hm⟩ : ∃ m, ns.headD 1 = m + 1 := ⟨ns.headD 1 - 1, by omega⟩
    rw [hm, List.replicate_succ, List.cons_append] at e
    obtain ⟨rfl, -⟩ := List.cons.inj e
    exact cont32
theorem runesOf_blanks (l : List UInt8) : ∀ n : Nat, runesOf (List.replicate n 32 ++ l) = List.replicate n 32 ++ runesOf l
  | 0 => rfl
  | n + 1 => by
    have hd : ∀ x : List UInt8, dec (32 :: x) = (32, 1) := fun x => by
      unfold dec Go.Lib.decodeN
      rw [if_pos (by show (32 : UInt8).toNat < 128; decide)]
      rfl
    rw [List.replicate_succ, List.cons_append, runesOf_step _ (by simp)]
    have h1 : Rp.run (32 :: (List.replicate n 32 ++ l)) = 32 := by unfold Rp.run; rw [hd]
    have h2 : wid (32 :: (List.replicate n 32 ++ l)) = 1 := by unfold wid; rw [hd]
    rw [h1, h2, List.drop_one, List.tail_cons, runesOf_blanks l n]
    rfl
theorem runesOf_fB : ∀ (n : Nat) (ns : List Nat) (l : List UInt8), l.length ≤ n → (∀ n ∈ ns, 1 ≤ n) → runesOf (fB ns l) = fR ns (runesOf l)
  | 0, ns, l, hl, _ => by
    obtain rfl : l = [] := List.length_eq_zero_iff.1 (by omega)
    rfl
  | n + 1, ns, l, hl, hns => by
    cases l with
    | nil => rfl
    | cons c l =>
      by_cases h9 : c = 9
      · subst h9
        have hd : dec (9 :: l) = (9, 1) := by
          unfold dec Go.Lib.decodeN
          rw [if_pos (by show (9 : UInt8).toNat < 128; decide)]
          rfl
        have h1 : Rp.run (9 :: l) = 9 := by unfold Rp.run; rw [hd]
        have h2 : wid (9 :: l) = 1 := by unfold wid; rw [hd]
        rw [runesOf_step (9 :: l) (by simp), h1, h2, List.drop_one, List.tail_cons, fB, if_pos rfl, fR, if_pos rfl, runesOf_blanks]
        rw [runesOf_fB n ns.tail l (by simp at hl; omega) (fun n hn => hns n (List.mem_of_mem_tail hn))]
      · have hne : c :: l ≠ [] := by simp
        have hdec := dec_fB ns hns (c :: l) hne h9
        have hw := wid_le (c :: l) hne
        have hp := wid_pos (c :: l)
        have hf : fB ns (c :: l) ≠ [] := by rw [fB, if_neg h9]; simp
        have h9r : Rp.run (c :: l) ≠ 9 := fun e => h9 ((head_tab (c :: l) hne).2 (by rw [runesOf_step _ hne]; exact e))
        have hin : 9 ∉ (c :: l).take (wid (c :: l)) := by
          intro hm
          obtain ⟨j, hj, e⟩ := List.mem_iff_getElem.1 hm
          rw [List.length_take] at hj
          rw [List.getElem_take] at e
          by_cases h0 : j = 0
          · subst h0; exact h9 e
          · have := wid_cont (c :: l) j (by omega) (by omega)
            rw [List.getD_eq_getElem?_getD, List.getElem?_eq_getElem (by omega)] at this
            simp only [Option.getD_some] at this
            rw [e] at this
            exact cont9 this
        have hsp := no9 ns _ ((c :: l).drop (wid (c :: l))) hin
        rw [List.take_append_drop] at hsp
        have hwf : wid (fB ns (c :: l)) = wid (c :: l) := by unfold wid; rw [hdec]
        have hrf : Rp.run (fB ns (c :: l)) = Rp.run (c :: l) := by unfold Rp.run; rw [hdec]
        rw [runesOf_step _ hf, hwf, hrf, runesOf_step _ hne, fR, if_neg h9r]
        congr 1
        rw [hsp, List.drop_left' (by rw [List.length_take]; omega)]
        exact runesOf_fB n ns _ (by rw [List.length_drop]; simp only [List.length_cons] at hl ⊢; omega) hns
end Go.Gr
end

section
namespace Go.Gr
open Go.Rp

/-- How many blanks each tab becomes, rune by rune. -/
def cGo (k : Cell) : W → List Nat → List Nat
  | _, [] => []
  | w, r :: rs => (if r = 9 then [k.tab - w.val k % k.tab] else []) ++ cGo k (w.next k r) rs
theorem plainGo_fR (k : Cell) : ∀ (rs : List Nat) (w : W), plainGo k w rs = fR (cGo k w rs) rs
  | [], _ => rfl
  | r :: rs, w => by
    rw [plainGo, cGo, plainGo_fR k rs]
    by_cases h : r = 9
    · rw [if_pos h, if_pos h, fR, if_pos h]; rfl
    · rw [if_neg h, if_neg h, fR, if_neg h]; rfl
/-- The same of a whole text. -/
def cAll (k : Cell) (col : Nat) : List Nat → List Nat
  | [] => []
  | r :: rs => (if r = 9 then [k.tab - col % k.tab] else []) ++ cGo k ⟨G.first (k.cl r), col, [r]⟩ rs
theorem plainR_fR (k : Cell) (col : Nat) : ∀ rs : List Nat, plainR k col rs = fR (cAll k col rs) rs
  | [] => rfl
  | r :: rs => by
    rw [plainR, cAll, plainGo_fR]
    by_cases h : r = 9
    · rw [if_pos h, if_pos h, fR, if_pos h]; rfl
    · rw [if_neg h, if_neg h, fR, if_neg h]; rfl
theorem cGo_pos {k : Cell} (ok : k.Ok) : ∀ (rs : List Nat) (w : W), ∀ n ∈ cGo k w rs, 1 ≤ n
  | [], _, n, h => by simp [cGo] at h
  | r :: rs, w, n, h => by
    rw [cGo, List.mem_append] at h
    rcases h with h | h
    · split at h
      · have := Nat.mod_lt (w.val k) ok.tab
        rw [List.mem_singleton.1 h]
        omega
      · simp at h
    · exact cGo_pos ok rs _ n h
theorem cAll_pos {k : Cell} (ok : k.Ok) (col : Nat) (rs : List Nat) : ∀ n ∈ cAll k col rs, 1 ≤ n := by
  intro n h
  cases rs with
  | nil => simp [cAll] at h
  | cons r rs =>
    rw [cAll, List.mem_append] at h
    rcases h with h | h
    · split at h
      · have := Nat.mod_lt col ok.tab
        rw [List.mem_singleton.1 h]
        omega
      · simp at h
    · exact cGo_pos ok rs _ n h
/-- A text without tabs is as wide. -/
theorem text_plain {k : Cell} (ok : k.Ok) (col : Nat) (l : List UInt8) (h6 : ∀ r ∈ runesOf l, k.cl r ≠ 6) :
    textC (lwT k) enT k.tab col (letters k.cl (fB (cAll k col (runesOf l)) l)) = textC (lwT k) enT k.tab col (letters k.cl l) := by
  rw [textC_runes, textC_runes, runesOf_fB l.length _ l (Nat.le_refl _) (cAll_pos ok col _), ← plainR_fR, textR_plain ok col _ h6]
end Go.Gr
end

section
namespace Go.Gr
open Go.Rp

/-- A text cut where a letter begins. -/
theorem letters_cut (cl : Nat → Nat) (s : List UInt8) {q : Nat} (h : q ∈ bounds cl s) : letters cl s = letters cl (s.take q) ++ letters cl (s.drop q) := by
  have hq := bounds_le cl s q h
  have := letters_app cl (s.take q) (s.drop q) (.inr (.inr (by rw [List.take_append_drop, List.length_take, Nat.min_eq_left hq]; exact h)))
  rwa [List.take_append_drop] at this
theorem bnd_sub (cl : Nat → Nat) : ∀ (ms : List (Nat × Nat × Nat)) (st : G), (bnd cl st ms).Sublist (ms.map (·.2.1))
  | [], _ => List.Sublist.refl _
  | m :: ms, st => by
    rw [bnd, List.map_cons]
    split
    · exact (bnd_sub cl ms _).cons _
    · exact (bnd_sub cl ms _).cons_cons _
theorem marks_rise : ∀ (n : Nat) (l : List UInt8) (p : Nat), l.length ≤ n → ((marks n l p).map (·.2.1)).Pairwise (· ≤ ·)
  | 0, _, _, _ => by simp [marks]
  | n + 1, l, p, hl => by
    unfold marks
    split
    · simp
    · rename_i h
      have hp := wid_pos l
      have hw := wid_le l h
      rw [List.map_cons, List.pairwise_cons]
      refine ⟨fun q hq => ?_, marks_rise n _ _ (by simp; omega)⟩
      obtain ⟨m, hm, rfl⟩ := List.mem_map.1 hq
      have := (marks_place n _ _ (by simp; omega) hm).1
      dsimp only
      omega
theorem bounds_rise (cl : Nat → Nat) (l : List UInt8) : (bounds cl l).Pairwise (· ≤ ·) := by
  have hle := bounds_le cl l
  unfold bounds at hle ⊢
  split
  · simp
  · rename_i h
    rw [if_neg h] at hle
    rw [List.pairwise_append]
    refine ⟨?_, by simp, fun a ha b hb => by rw [List.mem_singleton.1 hb]; exact hle a (by simp [ha])⟩
    have hr := marks_rise l.length l 0 (Nat.le_refl _)
    cases hm : marks l.length l 0 with
    | nil => simp [bndAll]
    | cons m ms =>
      rw [hm, List.map_cons] at hr
      exact hr.sublist ((bnd_sub cl ms _).cons_cons _)
/-- The letters make the text. -/
theorem letters_flat (cl : Nat → Nat) : ∀ (n : Nat) (s : List UInt8), s.length ≤ n → (letters cl s).flatten = s := by
  intro n s _
  by_cases h : s = []
  · subst h; rfl
  · have key : ∀ (l : List Nat) (a : Nat), (a :: l).Pairwise (· ≤ ·) → (∀ q ∈ a :: l, q ≤ s.length) → ((pairsOf (a :: l)).map fun p => (s.take p.2).drop p.1).flatten = (s.take ((a :: l).getLastD 0)).drop a := by
      intro l
      induction l with
      | nil => intro a _ _; simp [pairsOf]
      | cons b l ih =>
        intro a hp hle
        rw [List.pairwise_cons] at hp
        have hab := hp.1 b (by simp)
        have hi := ih b hp.2 (fun q hq => hle q (by simp [hq]))
        rw [pairsOf, List.map_cons, List.flatten_cons, hi]
        have hlast : b ≤ (b :: l).getLastD 0 := by
          rw [List.getLastD_cons]
          cases hl : l with
          | nil => simp
          | cons c l' =>
            have h1 : (c :: l').getLastD b ∈ c :: l' := by
              rw [List.getLastD_eq_getLast?, List.getLast?_eq_some_getLast (by simp)]
              simp
            rw [← hl] at h1 ⊢
            exact (List.pairwise_cons.1 hp.2).1 _ h1
        have e : (a :: b :: l).getLastD 0 = (b :: l).getLastD 0 := by simp
        rw [e]
        generalize (b :: l).getLastD 0 = z at hlast ⊢
        rw [List.drop_take, List.drop_take, List.drop_take, show z - a = (b - a) + (z - b) by omega, List.take_add, List.drop_drop, show a + (b - a) = b by omega]
    obtain ⟨B, hB⟩ := bounds_head cl s h
    have hr := bounds_rise cl s
    have hle := bounds_le cl s
    have hl := bounds_last cl s h
    have hz : (bounds cl s).getLastD 0 = s.length := by rw [hl, List.getLastD_concat]
    unfold letters
    rw [hB] at hr hle hz ⊢
    rw [key B 0 hr hle, hz, List.take_length, List.drop_zero]
end Go.Gr
end

section
namespace Go.Gr
open Go.Rp Go.Lib

theorem decN_ok (n m b0 b1 b2 b3 c1 c2 c3 : Nat) (hr : (decodeN n b0 b1 b2 b3).1 ≠ 65533) (hm : (decodeN n b0 b1 b2 b3).2 ≤ m)
    (h1 : 1 < (decodeN n b0 b1 b2 b3).2 → c1 = b1) (h2 : 2 < (decodeN n b0 b1 b2 b3).2 → c2 = b2) (h3 : 3 < (decodeN n b0 b1 b2 b3).2 → c3 = b3) : decodeN m b0 c1 c2 c3 = decodeN n b0 b1 b2 b3 := by
  by_cases a : b0 < 128
  · unfold decodeN
    rw [if_pos a, if_pos a]
  · by_cases b : b0 / 32 = 6 ∧ (1 < n ∧ b1 / 64 = 2)
    · have e : decodeN n b0 b1 b2 b3 = (if b0 % 32 * 64 + b1 % 64 ≥ 128 then (b0 % 32 * 64 + b1 % 64, 2) else (65533, 1)) := by
        rw [decodeN, if_neg a, if_pos b]
      by_cases c : b0 % 32 * 64 + b1 % 64 ≥ 128
      · rw [if_pos c] at e
        rw [e] at hm h1 ⊢
        obtain rfl := h1 (by simp)
        rw [decodeN, if_neg a, if_pos ⟨b.1, by simp only at hm; omega, b.2.2⟩, if_pos c]
      · rw [if_neg c] at e
        rw [e] at hr
        exact absurd rfl hr
    · by_cases b2' : b0 / 16 = 14 ∧ (1 < n ∧ b1 / 64 = 2) ∧ (2 < n ∧ b2 / 64 = 2)
      · have e : decodeN n b0 b1 b2 b3 = (if b0 % 16 * 4096 + b1 % 64 * 64 + b2 % 64 ≥ 2048 ∧ (b0 % 16 * 4096 + b1 % 64 * 64 + b2 % 64 < 55296 ∨ (57344 ≤ b0 % 16 * 4096 + b1 % 64 * 64 + b2 % 64 ∧ b0 % 16 * 4096 + b1 % 64 * 64 + b2 % 64 ≤ 1114111))
            then (b0 % 16 * 4096 + b1 % 64 * 64 + b2 % 64, 3) else (65533, 1)) := by
          rw [decodeN, if_neg a, if_neg b, if_pos b2']
        by_cases c : b0 % 16 * 4096 + b1 % 64 * 64 + b2 % 64 ≥ 2048 ∧ (b0 % 16 * 4096 + b1 % 64 * 64 + b2 % 64 < 55296 ∨ (57344 ≤ b0 % 16 * 4096 + b1 % 64 * 64 + b2 % 64 ∧ b0 % 16 * 4096 + b1 % 64 * 64 + b2 % 64 ≤ 1114111))
        · rw [if_pos c] at e
          rw [e] at hm h1 h2 ⊢
          obtain rfl := h1 (by simp)
          obtain rfl := h2 (by simp)
          simp only at hm
          rw [decodeN, if_neg a, if_neg (by omega), if_pos ⟨b2'.1, ⟨by omega, b2'.2.1.2⟩, ⟨by omega, b2'.2.2.2⟩⟩, if_pos c]
        · rw [if_neg c] at e
          rw [e] at hr
          exact absurd rfl hr
      · by_cases b3' : b0 / 8 = 30 ∧ (1 < n ∧ b1 / 64 = 2) ∧ (2 < n ∧ b2 / 64 = 2) ∧ (3 < n ∧ b3 / 64 = 2)
        · have e : decodeN n b0 b1 b2 b3 = (if b0 % 8 * 262144 + b1 % 64 * 4096 + b2 % 64 * 64 + b3 % 64 ≥ 65536 ∧ (b0 % 8 * 262144 + b1 % 64 * 4096 + b2 % 64 * 64 + b3 % 64 < 55296 ∨ (57344 ≤ b0 % 8 * 262144 + b1 % 64 * 4096 + b2 % 64 * 64 + b3 % 64 ∧ b0 % 8 * 262144 + b1 % 64 * 4096 + b2 % 64 * 64 + b3 % 64 ≤ 1114111))
              then (b0 % 8 * 262144 + b1 % 64 * 4096 + b2 % 64 * 64 + b3 % 64, 4) else (65533, 1)) := by
            rw [decodeN, if_neg a, if_neg b, if_neg b2', if_pos b3']
          by_cases c : b0 % 8 * 262144 + b1 % 64 * 4096 + b2 % 64 * 64 + b3 % 64 ≥ 65536 ∧ (b0 % 8 * 262144 + b1 % 64 * 4096 + b2 % 64 * 64 + b3 % 64 < 55296 ∨ (57344 ≤ b0 % 8 * 262144 + b1 % 64 * 4096 + b2 % 64 * 64 + b3 % 64 ∧ b0 % 8 * 262144 + b1 % 64 * 4096 + b2 % 64 * 64 + b3 % 64 ≤ 1114111))
          · rw [if_pos c] at e
            rw [e] at hm h1 h2 h3 ⊢
            obtain rfl := h1 (by simp)
            obtain rfl := h2 (by simp)
            obtain rfl := h3 (by simp)
            simp only at hm
            rw [decodeN, if_neg a, if_neg (by omega), if_neg (by omega), if_pos ⟨b3'.1, ⟨by omega, b3'.2.1.2⟩, ⟨by omega, b3'.2.2.1.2⟩, ⟨by omega, b3'.2.2.2.2⟩⟩, if_pos c]
          · rw [if_neg c] at e
            rw [e] at hr
            exact absurd rfl hr
        · exfalso
          apply hr
          rw [decodeN, if_neg a, if_neg b, if_neg b2', if_neg b3']
/-- A whole rune stays what it is, whatever stands behind it. -/
theorem dec_more (x t : List UInt8) (h : (dec x).2 = x.length) (hr : (dec x).1 ≠ 65533) : dec (x ++ t) = dec x := by
  have h0 : 0 < x.length := by
    have := wid_pos x
    unfold wid at this
    omega
  have hg : ∀ j, j < x.length → (x ++ t).getD j 0 = x.getD j 0 := fun j hj => by
    rw [List.getD_eq_getElem?_getD, List.getD_eq_getElem?_getD, List.getElem?_append_left hj]
  unfold dec at h hr ⊢
  rw [hg 0 h0]
  refine decN_ok _ _ _ _ _ _ _ _ _ hr (by rw [h, List.length_append]; omega) (fun h1 => ?_) (fun h1 => ?_) (fun h1 => ?_)
  · rw [h] at h1; rw [hg 1 h1]
  · rw [h] at h1; rw [hg 2 h1]
  · rw [h] at h1; rw [hg 3 h1]
theorem decodeL_dec (l : List UInt8) : decodeL l = dec l := by
  unfold decodeL
  rw [dec_at]
  rfl
/-- The last rune, where it is no fault, is what its own bytes say. -/
theorem last_dec (l : List UInt8) (hne : l ≠ []) (hr : (decodeLastL l).1 ≠ 65533) : dec (l.drop (l.length - (decodeLastL l).2)) = decodeLastL l ∧ (l.drop (l.length - (decodeLastL l).2)).length = (decodeLastL l).2 := by
  have hl := List.length_pos_iff.2 hne
  unfold decodeLastL at hr ⊢
  rw [if_neg hne] at hr ⊢
  by_cases ha : (l.getD (l.length - 1) 0).toNat < 128
  · rw [if_pos ha] at hr ⊢
    dsimp only at hr ⊢
    rw [drop_last1 l hl]
    refine ⟨?_, rfl⟩
    show decodeN 1 (l.getD (l.length - 1) 0).toNat _ _ _ = _
    rw [decodeN, if_pos ha]
  · rw [if_neg ha] at hr ⊢
    dsimp only at hr ⊢
    by_cases hw : lastStart l + (decodeL (l.drop (lastStart l))).2 = l.length
    · rw [if_pos hw]
      rw [show l.length - (decodeL (l.drop (lastStart l))).2 = lastStart l by omega]
      exact ⟨(decodeL_dec _).symm, by rw [List.length_drop]; omega⟩
    · rw [if_neg hw] at hr
      exact absurd rfl hr
/-- Where what is to be seen ends: runes for which ok says yes are passed over from the end. -/
def trailL (ok : Nat → Bool) : Nat → List UInt8 → Nat
  | 0, l => l.length
  | f + 1, l => if l = [] then 0 else if ok (decodeLastL l).1 = true then trailL ok f (l.take (l.length - (decodeLastL l).2)) else l.length
theorem trailL_le (ok : Nat → Bool) : ∀ f l, trailL ok f l ≤ l.length
  | 0, _ => Nat.le_refl _
  | f + 1, l => by
    rw [trailL]
    split
    · exact Nat.zero_le _
    · split
      · have := trailL_le ok f (l.take (l.length - (decodeLastL l).2))
        rw [List.length_take] at this
        omega
      · exact Nat.le_refl _
theorem trailL_rest (ok : Nat → Bool) (hok : ok 65533 = false) : ∀ (f : Nat) (l t : List UInt8), (∀ r ∈ runesOf t, ok r = true) → ∀ r ∈ runesOf ((l ++ t).drop (trailL ok f l)), ok r = true
  | 0, l, t, h => by
    rw [trailL, List.drop_left]
    exact h
  | f + 1, l, t, h => by
    rw [trailL]
    split
    · rename_i e
      subst e
      exact h
    · rename_i hne
      split
      · rename_i hk
        have hr : (decodeLastL l).1 ≠ 65533 := fun e => by rw [e, hok] at hk; cases hk
        obtain ⟨h1, h2⟩ := last_dec l hne hr
        have hx : l = l.take (l.length - (decodeLastL l).2) ++ l.drop (l.length - (decodeLastL l).2) := (List.take_append_drop _ _).symm
        have hm := dec_more (l.drop (l.length - (decodeLastL l).2)) t (by rw [h1, h2]) (by rw [h1]; exact hr)
        have hw := wid_pos (l.drop (l.length - (decodeLastL l).2))
        unfold wid at hw
        rw [h1] at hw
        have hxn : l.drop (l.length - (decodeLastL l).2) ≠ [] := fun e => by
          rw [e] at h2
          simp only [List.length_nil] at h2
          omega
        have ih := trailL_rest ok hok f (l.take (l.length - (decodeLastL l).2)) (l.drop (l.length - (decodeLastL l).2) ++ t) (fun r hr2 => by
          rw [runesOf_step _ (by simp [hxn])] at hr2
          have e1 : Rp.run (l.drop (l.length - (decodeLastL l).2) ++ t) = (decodeLastL l).1 := by unfold Rp.run; rw [hm, h1]
          have e2 : wid (l.drop (l.length - (decodeLastL l).2) ++ t) = (l.drop (l.length - (decodeLastL l).2)).length := by unfold wid; rw [hm, h1, h2]
          rw [e1, e2, List.drop_left] at hr2
          rcases List.mem_cons.1 hr2 with rfl | hr2
          · exact hk
          · exact h r hr2)
        rw [← List.append_assoc, ← hx] at ih
        exact ih
      · rw [List.drop_left]
        exact h
/-- What is passed over are such runes. -/
theorem trail_runes (ok : Nat → Bool) (hok : ok 65533 = false) (l : List UInt8) (f : Nat) : ∀ r ∈ runesOf (l.drop (trailL ok f l)), ok r = true := by
  have := trailL_rest ok hok f l [] (by simp [runesOf_nil])
  rwa [List.append_nil] at this
end Go.Gr
end
