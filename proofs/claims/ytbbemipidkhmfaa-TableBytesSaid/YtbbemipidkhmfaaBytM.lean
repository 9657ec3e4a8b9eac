/-
  Bytes as a table, in plain words: a table's bytes are read as the table, and as no other.
-/
import Derived.Test.YtbbemipidkhmfaaWalkP
import Derived.Test.YtbbemipidkhmfaaRefM
namespace Go.Proofs.Ytbbemipidkhmfaa
section
open Go.RowKit

theorem numB_ne (n : Nat) : numB n ≠ [] := by
  by_cases h : n < 128
  · rw [numB_small h]; simp
  · rw [numB_great h]; simp
/-- Numbers are read in one way. -/
theorem numB_inj : ∀ (a b : Nat) (s t : List Int), numB a ++ s = numB b ++ t → a = b ∧ s = t := by
  intro a
  induction a using Nat.strongRecOn with
  | ind a ih =>
    intro b s t h
    by_cases ha : a < 128
    · by_cases hb : b < 128
      · rw [numB_small ha, numB_small hb] at h
        simp only [List.cons_append, List.nil_append, List.cons.injEq] at h
        exact ⟨by omega, h.2⟩
      · rw [numB_small ha, numB_great hb] at h
        simp only [List.cons_append, List.nil_append, List.cons.injEq] at h
        omega
    · by_cases hb : b < 128
      · rw [numB_great ha, numB_small hb] at h
        simp only [List.cons_append, List.nil_append, List.cons.injEq] at h
        omega
      · rw [numB_great ha, numB_great hb] at h
        simp only [List.cons_append, List.cons.injEq] at h
        obtain ⟨h1, h2⟩ := h
        obtain ⟨h3, h4⟩ := ih (a / 128) (by omega) (b / 128) s t h2
        exact ⟨by omega, h4⟩
/-- The last byte of a number that has several is none of nothing. -/
theorem numGo_numB : ∀ (k i : Nat) (m : Nat) (n : Int) (t : List Int), m < 128 ^ (k + 1) → (0 < i → 0 < m) → numGo (k + 1) i n (numB m ++ t) false = (n + (m : Int) * 128 ^ i, t, false)
  | 0, i, m, n, t, h, hi => by
    have hm : m < 128 := by simpa using h
    rw [numB_small hm, numGo]
    simp only [List.cons_append, List.nil_append, List.headD_cons, List.tail_cons, List.isEmpty_cons, Bool.or_false]
    rw [if_pos (by omega), Int.emod_eq_of_lt (by omega) (by omega)]
    congr 2
    by_cases h0 : 0 < i
    · have := hi h0
      simp
      omega
    · simp [h0]
  | k + 1, i, m, n, t, h, hi => by
    by_cases hm : m < 128
    · rw [numB_small hm, numGo]
      simp only [List.cons_append, List.nil_append, List.headD_cons, List.tail_cons, List.isEmpty_cons, Bool.or_false]
      rw [if_pos (by omega), Int.emod_eq_of_lt (by omega) (by omega)]
      congr 2
      by_cases h0 : 0 < i
      · have := hi h0
        simp
        omega
      · simp [h0]
    · rw [numB_great hm, numGo]
      simp only [List.cons_append, List.headD_cons, List.tail_cons, List.isEmpty_cons, Bool.or_false]
      rw [if_neg (by omega), numGo_numB k (i + 1) (m / 128) _ t (by rw [Nat.pow_succ] at h; omega) (by omega)]
      congr 1
      have e : (((m % 128 + 128 : Nat) : Int) % 128) = ((m % 128 : Nat) : Int) := by omega
      rw [e, Int.pow_succ, Int.add_assoc]
      congr 1
      have e2 : (m : Int) = ((m % 128 : Nat) : Int) + ((m / 128 : Nat) : Int) * 128 := by omega
      conv => rhs; rw [e2]
      rw [Int.add_mul, Int.mul_assoc, Int.mul_comm 128 (128 ^ i)]
theorem numR_numB {m : Nat} (h : m < 268435456) (t : List Int) : numR (numB m ++ t) false = ((m : Int), t, false) := by
  have := numGo_numB 3 0 m 0 t h (by omega)
  unfold numR
  rw [this]
  simp
theorem NF.asc {rest : Int} : ∀ {L : List Rng} {p : Int}, NF rest L → (∀ x ∈ L.head?, p ≤ x.lo) → p ≤ 1114112 → Asc p L
  | [], p, _, _, h => h
  | x :: t, p, ⟨h1, h2, h3, h4⟩, hp, _ => ⟨hp x rfl, h1.2.1, h1.2.2.1, h1.2.2.2.1, h1.2.2.2.2, h4.asc (fun y hy => by have := (h3 y hy).1; omega) (by have := h1.2.2.1; omega)⟩
theorem NF.asc0 {rest : Int} {L : List Rng} (h : NF rest L) : Asc 0 L := by
  cases L with
  | nil => show (0 : Int) ≤ 1114112; omega
  | cons x t => exact h.asc (fun y hy => by simp at hy; subst hy; exact h.1.1) (by omega)
theorem ldGo_rgB : ∀ (L : List Rng) (p : Int) (o : List Rng) (t : List Int), 0 ≤ p → Asc p L → ldGo L.length p o (rgB p L ++ t) false = some (o ++ L, t, false)
  | [], p, o, t, _, _ => by simp [ldGo, rgB]
  | x :: L, p, o, t, h0, ⟨h1, h2, h3, h4, h5, h6⟩ => by
    rw [List.length_cons, ldGo, if_neg (by simp)]
    have e1 : numR (rgB p (x :: L) ++ t) false = (((x.lo - p).toNat : Int), numB (x.hi - x.lo).toNat ++ (x.cl :: (rgB (x.hi + 1) L ++ t)), false) := by
      rw [rgB]
      simp only [List.append_assoc, List.cons_append]
      exact numR_numB (by omega) _
    have e2 := numR_numB (m := (x.hi - x.lo).toNat) (by omega) (x.cl :: (rgB (x.hi + 1) L ++ t))
    simp only [e1, e2, List.headD_cons, List.tail_cons, List.isEmpty_cons, Bool.or_false]
    rw [if_neg (by omega)]
    have e3 : p + ((x.lo - p).toNat : Int) = x.lo := by omega
    have e4 : p + ((x.lo - p).toNat : Int) + ((x.hi - x.lo).toNat : Int) = x.hi := by omega
    rw [e4, e3, ldGo_rgB L (x.hi + 1) _ t (by omega) h6]
    simp
/-- A table's bytes are read. -/
theorem load_bytes {rest : Int} {L : List Rng} (h : NF rest L) : loadOf (bytesOf rest L) = some (L, rest) := by
  have hl : L.length ≤ 1114112 := by
    have h1 := h.all
    have h2 := h1.1.le
    have h3 := List.length_filter_le (fun x => !(x.cl == rest)) (allGo rest 0 L)
    rw [h1.2] at h3
    omega
  have e1 := numR_numB (m := L.length) (by omega) (rgB 0 L)
  have e2 := ldGo_rgB L 0 [] [] (by omega) h.asc0
  rw [List.append_nil] at e2
  unfold loadOf bytesOf
  simp only [List.tail_cons, List.isEmpty_cons, e1, Int.toNat_natCast, e2, List.headD_cons]
  simp
/-- Whose bytes these are. -/
def GoodB (b : List Int) (L : List Rng) : Prop := NF (b.headD 0) L ∧ b = bytesOf (b.headD 0) L
theorem GoodB.uniq {b : List Int} {L M : List Rng} (h : GoodB b L) (k : GoodB b M) : L = M := by
  have e1 := load_bytes h.1
  have e2 := load_bytes k.1
  rw [← h.2] at e1
  rw [← k.2, e1] at e2
  simpa using e2
/-- What Load tells, by whose bytes these are. -/
theorem tells_good {b : List Int} {L : List Rng} {w' : World} {e : Ending} (h : GoodB b L) (ht : tellsB b w' e) : ∃ T, e = .returned (.tuple #[T, .int .i64 0]) ∧ IsTb w' T (b.headD 0) (clsOf L (b.headD 0)) := by
  have hb : loadOf b = some (L, b.headD 0) := by
    conv => lhs; rw [h.2]
    exact load_bytes h.1
  rcases ht with ⟨rfl, (hn | ⟨l, R, h1, h2, h3, h4⟩)⟩ | ⟨T, l, R, rfl, h1, h2, h3, h4, h5⟩
  · rw [hb] at hn; cases hn
  · rw [hb] at h1
    simp only [Option.some.injEq, Prod.mk.injEq, and_true] at h1
    subst h1
    exfalso
    apply h4
    obtain ⟨a1, a2⟩ := h.1.all
    rw [h3.unique a1, a2]
    exact h.2.symm
  · rw [hb] at h1
    simp only [Option.some.injEq, Prod.mk.injEq, and_true] at h1
    subst h1
    exact ⟨T, rfl, h5⟩
theorem tells_bad {b : List Int} {w' : World} {e : Ending} (hb : 0 ≤ b.headD 0 ∧ b.headD 0 ≤ 255) (h : ∀ L, ¬ GoodB b L) (ht : tellsB b w' e) : e = .returned (.tuple #[.pointer none, .int .i64 31]) := by
  rcases ht with ⟨rfl, _⟩ | ⟨T, l, R, rfl, h1, h2, h3, h4, h5⟩
  · rfl
  · exfalso
    have hf : ∀ r, 0 ≤ r → r ≤ 1114111 → 0 ≤ clsOf l (b.headD 0) r ∧ clsOf l (b.headD 0) r ≤ 255 := fun r _ _ => clsOf_range h2.ok hb.1 hb.2
    exact h _ ⟨(RunsFrom.nf hf (by omega) h3).1, h4.symm⟩
/-- Where the ranges so far end. -/
def nextOf (o : List Rng) : Int := match o.getLast? with
  | none => 0
  | some y => y.hi + 1
theorem nextOf_snoc (o : List Rng) (x : Rng) : nextOf (o ++ [x]) = x.hi + 1 := by simp [nextOf]
theorem rgB_append : ∀ (o t : List Rng) (p : Int), rgB p (o ++ t) = rgB p o ++ rgB (match o.getLast? with | none => p | some y => y.hi + 1) t
  | [], t, p => by simp [rgB]
  | [x], t, p => by simp [rgB]
  | x :: y :: o, t, p => by
    obtain ⟨z, hz⟩ : ∃ z, (y :: o).getLast? = some z := by
      cases h : (y :: o).getLast? with
      | none => simp at h
      | some z => exact ⟨z, rfl⟩
    have e : ∀ l : List Rng, rgB p (x :: l) = numB (x.lo - p).toNat ++ (numB (x.hi - x.lo).toNat ++ (x.cl :: rgB (x.hi + 1) l)) := fun l => rfl
    rw [List.cons_append, e, e, rgB_append (y :: o) t (x.hi + 1), List.getLast?_cons_cons, hz]
    simp only [List.append_assoc, List.cons_append]
theorem rgB_next (o t : List Rng) : rgB 0 (o ++ t) = rgB 0 o ++ rgB (nextOf o) t := rgB_append o t 0
end
section
open Go.RowKit

theorem NF.left {rest : Int} {b : List Rng} : ∀ {a : List Rng}, NF rest (a ++ b) → NF rest a
  | [], _ => trivial
  | x :: t, ⟨h1, h2, h3, h4⟩ => by
    refine ⟨h1, h2, fun y hy => h3 y ?_, NF.left h4⟩
    cases t with
    | nil => simp at hy
    | cons z t => simpa using hy
/-- The next range's bytes. -/
theorem good_next {b : List Int} {L o : List Rng} {m i at_ : Nat} (h : GoodB b L) (hp : b.take at_ = b.headD 0 :: (numB m ++ rgB 0 o)) (hL : L.length = m ∧ L.take i = o) (hi : i < m) :
    ∃ x t, b.drop at_ = numB (x.lo - nextOf o).toNat ++ (numB (x.hi - x.lo).toNat ++ (x.cl :: rgB (x.hi + 1) t)) ∧ Ok1 x ∧ x.cl ≠ b.headD 0 ∧ nextOf o ≤ x.lo ∧ L.take (i + 1) = o ++ [x] ∧ ∀ y ∈ o.getLast?, y.hi + 1 = x.lo → y.cl ≠ x.cl := by
  obtain ⟨hl, ht⟩ := hL
  have hiL : i < L.length := by omega
  have hdr := List.drop_eq_getElem_cons hiL
  have htk := List.take_succ_eq_append_getElem hiL
  obtain ⟨x, hx⟩ : ∃ x, L[i] = x := ⟨_, rfl⟩
  rw [hx] at hdr htk
  rw [ht] at htk
  have hLe : L = o ++ x :: L.drop (i + 1) := by rw [← hdr, ← ht, List.take_append_drop]
  have hnf := h.1
  rw [hLe] at hnf
  have hnf1 : NF (b.headD 0) (o ++ [x]) := by
    have : o ++ x :: L.drop (i + 1) = (o ++ [x]) ++ L.drop (i + 1) := by simp
    rw [this] at hnf
    exact hnf.left
  obtain ⟨hok, hcl⟩ := hnf1.ok x (by simp)
  have hini := hnf1.init.2
  have hd : b.drop at_ = rgB (nextOf o) (x :: L.drop (i + 1)) := by
    have e1 : b = b.take at_ ++ b.drop at_ := (List.take_append_drop _ _).symm
    have e2 : b = b.headD 0 :: (numB L.length ++ rgB 0 L) := h.2
    have e3 : rgB 0 L = rgB 0 o ++ rgB (nextOf o) (x :: L.drop (i + 1)) := by
      conv => lhs; rw [hLe]
      exact rgB_next _ _
    rw [hp] at e1
    rw [hl, e3] at e2
    have e4 := e1.symm.trans e2
    simp only [List.cons_append, List.append_assoc, List.cons.injEq, true_and] at e4
    exact List.append_cancel_left (List.append_cancel_left e4)
  refine ⟨x, L.drop (i + 1), by rw [hd, rgB], hok, hcl, ?_, htk, fun y hy => (hini y hy).2⟩
  unfold nextOf
  cases hg : o.getLast? with
  | none => exact hok.1
  | some y => have := (hini y (by rw [hg]; rfl)).1; show y.hi + 1 ≤ x.lo; omega
/-- All of them have been read. -/
theorem good_end {b : List Int} {L o : List Rng} {m i at_ : Nat} (h : GoodB b L) (hp : b.take at_ = b.headD 0 :: (numB m ++ rgB 0 o)) (hL : L.length = m ∧ L.take i = o) (hi : m ≤ i) : b.length ≤ at_ := by
  obtain ⟨hl, ht⟩ := hL
  rw [List.take_of_length_le (by omega)] at ht
  have e1 : b = b.take at_ ++ b.drop at_ := (List.take_append_drop _ _).symm
  have e2 : b = b.headD 0 :: (numB L.length ++ rgB 0 L) := h.2
  rw [hp] at e1
  rw [hl, ht] at e2
  have e4 := e1.symm.trans e2
  have e5 := congrArg List.length e4
  rw [List.length_append, List.length_drop] at e5
  omega
theorem good_of {b : List Int} {o : List Rng} {m : Nat} (hp : b.take b.length = b.headD 0 :: (numB m ++ rgB 0 o)) (hn : NF (b.headD 0) o) (hl : o.length = m) : GoodB b o := by
  rw [List.take_length] at hp
  refine ⟨hn, ?_⟩
  rw [← hl] at hp
  exact hp
theorem take_add {b : List Int} {a k : Nat} {p q s : List Int} (h : b.take a = p) (hd : b.drop a = q ++ s) (hk : q.length = k) : b.take (a + k) = p ++ q ∧ b.drop (a + k) = s := by
  refine ⟨?_, ?_⟩
  · rw [List.take_add, h, hd, ← hk, List.take_left']
    rfl
  · rw [← List.drop_drop, hd, ← hk, List.drop_left']
    rfl
end
end Go.Proofs.Ytbbemipidkhmfaa
