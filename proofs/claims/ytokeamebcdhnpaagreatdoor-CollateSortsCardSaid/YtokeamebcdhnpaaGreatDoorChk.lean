/-
 The tables are as they should be: what is checked of each line, and what follows for each rune.
-/
import Derived.Test.YtokeamebcdhnpaaGreatDoorWalkIJ
import Derived.Test.YtokeamebcdhnpaaGreatDoorPlainM
namespace Go.Proofs.YtokeamebcdhnpaaGreatDoor
open Go.RowKit Go.Rp Go.Shelf Go.Maps Go.Nm

def entN (ws : List (List UInt8)) : Nat × List Nat := (hexV (ws.headD []), ws.tail.map hexV)
def up (l : List Nat) : List Int := l.map fun n => ((n : Nat) : Int)
noncomputable def AN : List (Nat × List Nat) := (wordsC textA.data.toList).map entN
noncomputable def KN : List (Nat × List Nat) := (wordsC textK.data.toList).map entN
theorem apartT_up : apartT = AN.map fun e => (((e.1 : Nat) : Int), up e.2) := by
 unfold apartT AN
 rw [List.map_map]
 refine List.map_congr_left fun ws _ => ?_
 show entOf ws = ((((entN ws).1 : Nat) : Int), up (entN ws).2)
 unfold entOf entN up
 simp only [List.map_map]
 rfl
theorem alsoT_up : alsoT = KN.map fun e => (((e.1 : Nat) : Int), up e.2) := by
 unfold alsoT KN
 rw [List.map_map]
 refine List.map_congr_left fun ws _ => ?_
 show entOf ws = ((((entN ws).1 : Nat) : Int), up (entN ws).2)
 unfold entOf entN up
 simp only [List.map_map]
 rfl
def bk (L : List (Nat × List Nat)) : List (List (Nat × List Nat)) := (List.range 64).map fun i => L.filter fun e => Nat.beq (e.1 % 64) i
def lookN (L : List (Nat × List Nat)) (x : Nat) : Option (List Nat) := (L.find? fun e => Nat.beq e.1 x).map (·.2)
def lookB (B : List (List (Nat × List Nat))) (x : Nat) : Option (List Nat) := lookN (B.getD (x % 64) []) x
theorem beq_iff {a b : Nat} : Nat.beq a b = true ↔ a = b := ⟨Nat.eq_of_beq_eq_true, fun h => by subst h; exact Nat.beq_refl a⟩
theorem lookB_bk (L : List (Nat × List Nat)) (x : Nat) : lookB (bk L) x = lookN L x := by
 have h : (bk L).getD (x % 64) [] = L.filter fun e => Nat.beq (e.1 % 64) (x % 64) := by
  unfold bk
  rw [List.getD_eq_getElem?_getD, List.getElem?_map, List.getElem?_range (Nat.mod_lt _ (by decide))]
  rfl
 unfold lookB lookN
 rw [h, List.find?_filter]
 congr 2
 funext e
 by_cases hb : Nat.beq e.1 x = true
 ·have := beq_iff.1 hb
  simp [this]
 ·simp only [Bool.not_eq_true] at hb
  simp [hb]
theorem lookE_up (L : List (Nat × List Nat)) (x : Nat) : lookE (L.map fun e => (((e.1 : Nat) : Int), up e.2)) (x : Nat) = (lookN L x).map up := by
 unfold lookE lookN
 induction L with
 | nil => rfl
 | cons e t ih =>
  rw [List.map_cons, List.find?_cons, List.find?_cons]
  by_cases h : e.1 = x
  ·have h1 : ((((e.1 : Nat) : Int), up e.2).1 == ((x : Nat) : Int)) = true := by simp [h]
   rw [h1, beq_iff.2 h]
   rfl
  ·have h1 : ((((e.1 : Nat) : Int), up e.2).1 == ((x : Nat) : Int)) = false := by simp; omega
   have h2 : Nat.beq e.1 x = false := by
    cases hb : Nat.beq e.1 x with
    | false => rfl
    | true => exact absurd (beq_iff.1 hb) h
   rw [h1, h2]
   exact ih
theorem lookE_neg (L : List (Nat × List Nat)) {x : Int} (hx : x < 0) : lookE (L.map fun e => (((e.1 : Nat) : Int), up e.2)) x = none := by
 cases h : lookE (L.map fun e => (((e.1 : Nat) : Int), up e.2)) x with
 | none => rfl
 | some l =>
  obtain ⟨e, _, he⟩ := List.mem_map.1 (lookE_mem h)
  have := congrArg Prod.fst he
  simp only at this
  omega
def sylN (r : Nat) : List Nat := (4352 + (r - 44032) / 588) :: (4449 + (r - 44032) % 588 / 28) :: (bif Nat.beq ((r - 44032) % 28) 0 then [] else [4519 + (r - 44032) % 28])
theorem sylE_up {r : Nat} (h : 44032 ≤ r) : sylE (r : Nat) = up (sylN r) := by
 obtain ⟨n, rfl⟩ : ∃ n, r = 44032 + n := ⟨r - 44032, by omega⟩
 have e : ((44032 + n : Nat) : Int) - 44032 = (n : Nat) := by omega
 unfold sylE sylN up
 rw [e, Nat.add_sub_cancel_left]
 by_cases hn : n % 28 = 0
 ·have h1 : ((n : Nat) : Int) % 28 = 0 := by omega
  rw [if_pos h1, beq_iff.2 hn]
  simp
 ·have h1 : ¬ ((n : Nat) : Int) % 28 = 0 := by omega
  have h2 : Nat.beq (n % 28) 0 = false := by
   cases hb : Nat.beq (n % 28) 0 with
   | false => rfl
   | true => exact absurd (beq_iff.1 hb) hn
  rw [if_neg h1, h2]
  simp
def sylB (r : Nat) : Bool := Nat.ble 44032 r && Nat.ble r 55203
theorem sylB_iff {r : Nat} : sylB r = true ↔ (44032 ≤ ((r : Nat) : Int) ∧ ((r : Nat) : Int) ≤ 55203) := by
 unfold sylB
 rw [Bool.and_eq_true, Nat.ble_eq, Nat.ble_eq]
 omega
def falN (BA BK : List (List (Nat × List Nat))) : Nat → Bool → Nat → List Nat
 | 0, _, r => [r]
 | n + 1, k, r => bif sylB r then sylN r else match lookB BA r with
  | some l => l.flatMap (falN BA BK n k)
  | none => bif k then match lookB BK r with
    | some l => l.flatMap (falN BA BK n k)
    | none => [r]
   else [r]
theorem up_flat (f : Nat → List Nat) (g : Int → List Int) (h : ∀ r : Nat, g (r : Nat) = up (f r)) : ∀ l : List Nat, (up l).flatMap g = up (l.flatMap f)
 | [] => rfl
 | x :: t => by
  have ih := up_flat f g h t
  have e1 : up (x :: t) = ((x : Nat) : Int) :: up t := rfl
  rw [e1, List.flatMap_cons, List.flatMap_cons, ih, h x]
  simp [up]
theorem fal_up : ∀ (n : Nat) (k : Bool) (r : Nat), fal apartT alsoT n k (r : Nat) = up (falN (bk AN) (bk KN) n k r)
 | 0, k, r => rfl
 | n + 1, k, r => by
  rw [fal, falN]
  by_cases hs : sylB r = true
  ·rw [if_pos (sylB_iff.1 hs), hs, cond_true]
   exact sylE_up (by have := sylB_iff.1 hs; omega)
  ·rw [if_neg (fun h => hs (sylB_iff.2 h))]
   simp only [Bool.not_eq_true] at hs
   rw [hs, cond_false, lookB_bk, lookB_bk, apartT_up, lookE_up]
   cases hl : lookN AN r with
   | some l =>
    simp only [Option.map_some]
    rw [← apartT_up]
    exact up_flat _ _ (fal_up n k) l
   | none =>
    simp only [Option.map_none]
    cases k with
    | false => rfl
    | true =>
     rw [if_pos rfl, cond_true, alsoT_up, lookE_up]
     cases hl2 : lookN KN r with
     | some l =>
      simp only [Option.map_some]
      rw [← apartT_up, ← alsoT_up]
      exact up_flat _ _ (fal_up n true) l
     | none => rfl
def deepN (BA BK : List (List (Nat × List Nat))) : Nat → Bool → Nat → Bool
 | 0, _, _ => false
 | n + 1, k, r => bif sylB r then true else match lookB BA r with
  | some l => l.all (deepN BA BK n k)
  | none => bif k then match lookB BK r with
    | some l => l.all (deepN BA BK n k)
    | none => true
   else true
theorem deep_up : ∀ (n : Nat) (k : Bool) (r : Nat), deepN (bk AN) (bk KN) n k r = true → Deep apartT alsoT n k (r : Nat)
 | 0, k, r, h => by simp [deepN] at h
 | n + 1, k, r, h => by
  rw [deepN] at h
  rw [Deep]
  by_cases hs : sylB r = true
  ·exact .inl (sylB_iff.1 hs)
  ·right
   simp only [Bool.not_eq_true] at hs
   rw [hs, cond_false, lookB_bk, lookB_bk] at h
   have hup : ∀ l : List Nat, l.all (deepN (bk AN) (bk KN) n k) = true → ∀ x ∈ up l, Deep apartT alsoT n k x := fun l hl x hx => by
    obtain ⟨y, hy, rfl⟩ := List.mem_map.1 hx
    exact deep_up n k y (List.all_eq_true.1 hl y hy)
   have ea : lookE apartT (r : Nat) = (lookN AN r).map up := by rw [apartT_up, lookE_up]
   have ek : lookE alsoT (r : Nat) = (lookN KN r).map up := by rw [alsoT_up, lookE_up]
   rw [ea]
   cases hl : lookN AN r with
   | some l =>
    rw [hl] at h
    simp only [Option.map_some]
    exact hup l h
   | none =>
    rw [hl] at h
    simp only [Option.map_none]
    rintro rfl
    rw [ek]
    simp only [cond_true] at h
    cases hl2 : lookN KN r with
    | some l =>
     rw [hl2] at h
     simp only [Option.map_some]
     exact hup l h
    | none => simp only [Option.map_none]
/-- Where the steps are enough, more change nothing. -/
theorem fal_deep {A K : List (Int × List Int)} : ∀ (n : Nat) (k : Bool) (r : Int), Deep A K n k r → fal A K (n + 1) k r = fal A K n k r
 | 0, k, r, h => by cases h
 | n + 1, k, r, h => by
  have hf : ∀ l : List Int, (∀ x ∈ l, Deep A K n k x) → l.flatMap (fal A K (n + 1) k) = l.flatMap (fal A K n k) := by
   intro l
   induction l with
   | nil => intro _; rfl
   | cons x t ih => intro hd; rw [List.flatMap_cons, List.flatMap_cons, ih fun y hy => hd y (by simp [hy]), fal_deep n k x (hd x (by simp))]
  rw [Deep] at h
  rw [fal, fal]
  by_cases hs : 44032 ≤ r ∧ r ≤ 55203
  ·rw [if_pos hs, if_pos hs]
  ·rw [if_neg hs, if_neg hs]
   replace h := h.resolve_left hs
   cases ha : lookE A r with
   | some l => rw [ha] at h; exact hf l h
   | none =>
    rw [ha] at h
    simp only at h ⊢
    by_cases hk : k = true
    ·rw [if_pos hk, if_pos hk]
     replace h := h hk
     cases hb : lookE K r with
     | some l => rw [hb] at h; exact hf l h
     | none => rfl
    ·rw [if_neg hk, if_neg hk]
/-- What is checked. -/
def eqL : List Nat → List Nat → Bool
 | [], [] => true
 | a :: s, b :: t => Nat.beq a b && eqL s t
 | _, _ => false
theorem eqL_iff : ∀ {a b : List Nat}, eqL a b = true ↔ a = b
 | [], [] => by simp [eqL]
 | [], _ :: _ => by simp [eqL]
 | _ :: _, [] => by simp [eqL]
 | a :: s, b :: t => by rw [eqL, Bool.and_eq_true, beq_iff, eqL_iff]; simp
noncomputable def BA : List (List (Nat × List Nat)) := bk AN
noncomputable def BK : List (List (Nat × List Nat)) := bk KN
noncomputable def FN (k : Bool) (r : Nat) : List Nat := falN BA BK 5 k r
def validN (r : Nat) : Bool := Nat.ble r 1114111 && !(Nat.ble 55296 r && Nat.ble r 57343)
def jamoB (r : Nat) : Bool := Nat.ble 4352 r && Nat.ble r 4546
noncomputable def okK (k : Bool) (r : Nat) : Bool := Nat.ble (FN k r).length 20 && (FN k r).all (fun x => eqL (FN k x) [x])
noncomputable def okE (e : Nat × List Nat) : Bool :=
 Nat.ble 128 e.1 && validN e.1 && !jamoB e.1 && !sylB e.1 && e.2.all validN && okK true e.1 && okK false e.1 && eqL (FN true e.1) ((FN false e.1).flatMap (FN true)) && e.2.all (deepN BA BK 4 true) && e.2.all (deepN BA BK 4 false)
noncomputable def okA (e : Nat × List Nat) : Bool :=
 !eqL (FN true e.1) [e.1] && !eqL (FN false e.1) [e.1] && (match e.2 with | [_, b] => Nat.ble 128 b | _ => true)
theorem chkA : AN.all okE = true := by kernel_rfl
theorem chkA2 : AN.all okA = true := by kernel_rfl
theorem chkK : KN.all okE = true := by kernel_rfl
theorem chkK2 : KN.all (fun e => decide (odT (e.1 : Nat) = 0)) = true := by kernel_rfl
theorem chkO : linesO.all (fun ws => Nat.ble 128 (hexV (ws.headD []))) = true := by kernel_rfl

theorem valid_iff {r : Int} : Utf8.valid r = true ↔ (0 ≤ r ∧ r < 55296) ∨ (57344 ≤ r ∧ r ≤ 1114111) := by
 unfold Utf8.valid
 rw [Bool.or_eq_true, Bool.and_eq_true, Bool.and_eq_true, decide_eq_true_eq, decide_eq_true_eq, decide_eq_true_eq, decide_eq_true_eq]
theorem validN_iff {r : Nat} : validN r = true ↔ Utf8.valid (r : Nat) = true := by
 have e1 : validN r = true ↔ (r ≤ 1114111 ∧ ¬ (55296 ≤ r ∧ r ≤ 57343)) := by
  unfold validN
  rw [Bool.and_eq_true, Nat.ble_eq, Bool.not_eq_true', ← Bool.not_eq_true, Bool.and_eq_true, Nat.ble_eq, Nat.ble_eq]
 rw [e1, valid_iff]
 omega
noncomputable def faT (k : Bool) (r : Int) : List Int := fal apartT alsoT 5 k r
theorem faT_up (k : Bool) (r : Nat) : faT k (r : Nat) = up (FN k r) := fal_up 5 k r
/-- What is true of a line. -/
structure LineOk (e : Nat × List Nat) : Prop where
 low : 128 ≤ e.1
 val : Utf8.valid (e.1 : Nat) = true
 jam : ¬ (4352 ≤ e.1 ∧ e.1 ≤ 4546)
 syl : ¬ (44032 ≤ e.1 ∧ e.1 ≤ 55203)
 vals : ∀ x ∈ e.2, Utf8.valid (x : Nat) = true
 len : ∀ k, (faT k (e.1 : Nat)).length ≤ 20
 done : ∀ k, ∀ x ∈ faT k (e.1 : Nat), faT k x = [x]
 twice : faT true (e.1 : Nat) = (faT false (e.1 : Nat)).flatMap (faT true)
 deep : ∀ k, ∀ x ∈ e.2, Deep apartT alsoT 4 k (x : Nat)
theorem okK_spec {k : Bool} {r : Nat} (h : okK k r = true) : (faT k (r : Nat)).length ≤ 20 ∧ ∀ x ∈ faT k (r : Nat), faT k x = [x] := by
 unfold okK at h
 rw [Bool.and_eq_true, Nat.ble_eq, List.all_eq_true] at h
 rw [faT_up]
 refine ⟨by simpa [up] using h.1, fun x hx => ?_⟩
 obtain ⟨y, hy, rfl⟩ := List.mem_map.1 hx
 rw [faT_up, eqL_iff.1 (h.2 y hy)]
 rfl
theorem okE_spec {e : Nat × List Nat} (h : okE e = true) : LineOk e := by
 unfold okE at h
 simp only [Bool.and_eq_true] at h
 obtain ⟨⟨⟨⟨⟨⟨⟨⟨⟨h1, h2⟩, h3⟩, h4⟩, h5⟩, h6⟩, h7⟩, h8⟩, h9⟩, h10⟩ := h
 have hk : ∀ k, okK k e.1 = true := fun k => by cases k <;> assumption
 refine ⟨Nat.le_of_ble_eq_true h1, validN_iff.1 h2, ?_, ?_, fun x hx => validN_iff.1 (List.all_eq_true.1 h5 x hx), fun k => (okK_spec (hk k)).1, fun k => (okK_spec (hk k)).2, ?_, fun k x hx => ?_⟩
 ·intro h
  unfold jamoB at h3
  rw [Nat.ble_eq_true_of_le h.1, Nat.ble_eq_true_of_le h.2] at h3
  simp at h3
 ·intro h
  unfold sylB at h4
  rw [Nat.ble_eq_true_of_le h.1, Nat.ble_eq_true_of_le h.2] at h4
  simp at h4
 ·rw [faT_up, faT_up, eqL_iff.1 h8, up_flat _ _ (faT_up true)]
 ·cases k with
  | false => exact deep_up 4 _ x (List.all_eq_true.1 h10 x hx)
  | true => exact deep_up 4 _ x (List.all_eq_true.1 h9 x hx)
theorem lineA {e : Nat × List Nat} (h : e ∈ AN) : LineOk e := okE_spec (List.all_eq_true.1 chkA e h)
theorem lineK {e : Nat × List Nat} (h : e ∈ KN) : LineOk e := okE_spec (List.all_eq_true.1 chkK e h)
theorem look_up {L : List (Nat × List Nat)} {r : Int} {l : List Int} (h : lookE (L.map fun e => (((e.1 : Nat) : Int), up e.2)) r = some l) : ∃ e ∈ L, r = (e.1 : Nat) ∧ l = up e.2 := by
 obtain ⟨e, he, h2⟩ := List.mem_map.1 (lookE_mem h)
 simp only [Prod.mk.injEq] at h2
 exact ⟨e, he, h2.1.symm, h2.2.symm⟩
theorem lookA {r : Int} {l : List Int} (h : lookE apartT r = some l) : ∃ e ∈ AN, r = (e.1 : Nat) ∧ l = up e.2 := look_up (by rw [← apartT_up]; exact h)
theorem lookK {r : Int} {l : List Int} (h : lookE alsoT r = some l) : ∃ e ∈ KN, r = (e.1 : Nat) ∧ l = up e.2 := look_up (by rw [← alsoT_up]; exact h)
/-- Five steps are enough. -/
theorem deepT (k : Bool) (r : Int) : Deep apartT alsoT 5 k r := by
 rw [Deep]
 right
 have hd : ∀ {e : Nat × List Nat}, LineOk e → ∀ x ∈ up e.2, Deep apartT alsoT 4 k x := fun he x hx => by
  obtain ⟨y, hy, rfl⟩ := List.mem_map.1 hx
  exact he.deep k y hy
 cases ha : lookE apartT r with
 | some l =>
  obtain ⟨e, he, rfl, rfl⟩ := lookA ha
  exact hd (lineA he)
 | none =>
  intro _
  cases hk : lookE alsoT r with
  | some l =>
   obtain ⟨e, he, rfl, rfl⟩ := lookK hk
   exact hd (lineK he)
  | none => trivial
/-- A rune is a syllable, the first of a line, or stays. -/
theorem faT_cases (k : Bool) (r : Int) : ((44032 ≤ r ∧ r ≤ 55203) ∧ faT k r = sylE r) ∨ (∃ e ∈ AN, r = (e.1 : Nat)) ∨ (k = true ∧ lookE apartT r = none ∧ ∃ e ∈ KN, r = (e.1 : Nat)) ∨ (lookE apartT r = none ∧ (k = true → lookE alsoT r = none) ∧ faT k r = [r]) := by
 by_cases hs : 44032 ≤ r ∧ r ≤ 55203
 ·left
  exact ⟨hs, by unfold faT; rw [fal, if_pos hs]⟩
 ·right
  cases ha : lookE apartT r with
  | some l =>
   obtain ⟨e, he, hr, _⟩ := lookA ha
   exact .inl ⟨e, he, hr⟩
  | none =>
   right
   cases k with
   | false => right; exact ⟨rfl, (fun h => by cases h), by unfold faT; rw [fal, if_neg hs, ha]; rfl⟩
   | true =>
    cases hk : lookE alsoT r with
    | some l =>
     obtain ⟨e, he, hr, _⟩ := lookK hk
     exact .inl ⟨rfl, rfl, e, he, hr⟩
    | none => right; exact ⟨rfl, fun _ => rfl, by unfold faT; rw [fal, if_neg hs, ha]; simp only [hk, if_true]⟩
theorem faT_len (k : Bool) (r : Int) : 1 ≤ (faT k r).length ∧ (faT k r).length ≤ 20 := by
 refine ⟨(fal_len goodTA goodTK 5 k r).1, ?_⟩
 rcases faT_cases k r with ⟨_, h⟩ | ⟨e, he, rfl⟩ | ⟨_, _, e, he, rfl⟩ | ⟨_, _, h⟩
 ·rw [h]
  have : (sylE r).length = 2 ∨ (sylE r).length = 3 := by unfold sylE; split <;> simp
  omega
 ·exact (lineA he).len k
 ·exact (lineK he).len k
 ·rw [h]; simp
theorem faT_jamo (k : Bool) {r : Int} (h : 4352 ≤ r ∧ r ≤ 4546) : faT k r = [r] := by
 rcases faT_cases k r with ⟨h1, _⟩ | ⟨e, he, rfl⟩ | ⟨_, _, e, he, rfl⟩ | ⟨_, _, h⟩
 ·omega
 ·have := (lineA he).jam; omega
 ·have := (lineK he).jam; omega
 ·exact h
theorem sylE_jamo {r : Int} (h : 44032 ≤ r ∧ r ≤ 55203) : ∀ x ∈ sylE r, 4352 ≤ x ∧ x ≤ 4546 := by
 intro x hx
 unfold sylE at hx
 split at hx <;> simp at hx <;> omega
theorem faT_done (k : Bool) (r : Int) : ∀ x ∈ faT k r, faT k x = [x] := by
 rcases faT_cases k r with ⟨h1, h⟩ | ⟨e, he, rfl⟩ | ⟨_, _, e, he, rfl⟩ | ⟨_, _, h⟩
 ·rw [h]
  intro x hx
  exact faT_jamo k (sylE_jamo h1 x hx)
 ·exact (lineA he).done k
 ·exact (lineK he).done k
 ·intro x hx
  rw [h] at hx
  simp at hx; subst hx
  exact h
theorem flat_self {f : Int → List Int} : ∀ {l : List Int}, (∀ x ∈ l, f x = [x]) → l.flatMap f = l
 | [], _ => rfl
 | x :: t, h => by rw [List.flatMap_cons, h x (by simp), flat_self fun y hy => h y (by simp [hy])]; rfl
theorem faT_syl (k : Bool) {r : Int} (h : 44032 ≤ r ∧ r ≤ 55203) : faT k r = sylE r := by unfold faT; rw [fal, if_pos h]
theorem faT_twice (r : Int) : faT true r = (faT false r).flatMap (faT true) := by
 rcases faT_cases false r with ⟨h1, h⟩ | ⟨e, he, rfl⟩ | ⟨h, _⟩ | ⟨_, _, h⟩
 ·rw [h, faT_syl true h1, flat_self fun x hx => faT_jamo true (sylE_jamo h1 x hx)]
 ·exact (lineA he).twice
 ·cases h
 ·rw [h]; simp
theorem lineA2 {e : Nat × List Nat} (h : e ∈ AN) : (∀ k, faT k (e.1 : Nat) ≠ [((e.1 : Nat) : Int)]) ∧ ∀ a b, e.2 = [a, b] → 128 ≤ b := by
 have h1 := List.all_eq_true.1 chkA2 e h
 unfold okA at h1
 simp only [Bool.and_eq_true, Bool.not_eq_true'] at h1
 have hne : ∀ k, eqL (FN k e.1) [e.1] = false → faT k (e.1 : Nat) ≠ [((e.1 : Nat) : Int)] := fun k hk he => by
  rw [faT_up] at he
  have : FN k e.1 = [e.1] := by
   match hf : FN k e.1, he with
   | [x], he =>
    have : x = e.1 := by simp [up] at he; omega
    rw [this]
   | [], he => simp [up] at he
   | x :: y :: t, he => simp [up] at he
  rw [eqL_iff.2 this] at hk
  cases hk
 refine ⟨fun k => ?_, fun a b hab => ?_⟩
 ·cases k with
  | false => exact hne _ h1.1.2
  | true => exact hne _ h1.1.1
 ·have h2 := h1.2
  rw [hab] at h2
  exact Nat.le_of_ble_eq_true h2
theorem faT_less (x : Int) (h : faT true x = [x]) : faT false x = [x] := by
 rcases faT_cases false x with ⟨h1, h2⟩ | ⟨e, he, rfl⟩ | ⟨h2, _⟩ | ⟨_, _, h2⟩
 ·rw [h2, ← faT_syl true h1, h]
 ·exact absurd h ((lineA2 he).1 true)
 ·cases h2
 ·exact h2
theorem faT_mark (r : Int) (h0 : 0 < odT r) (h : faT false r = [r]) : faT true r = [r] := by
 rcases faT_cases true r with ⟨h1, h2⟩ | ⟨e, he, rfl⟩ | ⟨_, _, e, he, rfl⟩ | ⟨_, _, h2⟩
 ·rw [h2, ← faT_syl false h1, h]
 ·exact absurd h ((lineA2 he).1 false)
 ·have := List.all_eq_true.1 chkK2 e he
  simp only [decide_eq_true_eq] at this
  omega
 ·exact h2
theorem ordE_range : ∀ (l : List (Int × Int × Int)) (r : Int), (∀ x ∈ l, 0 ≤ x.2.2 ∧ x.2.2 < 256) → 0 ≤ ordE l r ∧ ordE l r < 256
 | [], r, _ => by simp [ordE]
 | x :: t, r, h => by
  rw [ordE]
  split
  ·exact h x (by simp)
  ·exact ordE_range t r fun y hy => h y (by simp [hy])
theorem odT_range (r : Int) : 0 ≤ odT r ∧ odT r < 256 := by
 refine ordE_range _ r fun x hx => ?_
 obtain ⟨ws, hw, rfl⟩ := List.mem_map.1 hx
 obtain ⟨a, b, c, n, rfl, ha, hb, hc, hn, h0, h1⟩ := hO0.2.2 ws hw
 have e : (ordOf [a, b, c]).2.2 = n := by simp [ordOf, hn]
 rw [e]
 exact ⟨h0, h1⟩
theorem ordE_low : ∀ (l : List (Int × Int × Int)) (r : Int), (∀ x ∈ l, r < x.1) → ordE l r = 0
 | [], r, _ => rfl
 | x :: t, r, h => by
  rw [ordE, if_neg (by have := h x (by simp); omega)]
  exact ordE_low t r fun y hy => h y (by simp [hy])
theorem odT_low {r : Int} (h : r < 128) : odT r = 0 := by
 refine ordE_low _ r fun x hx => ?_
 obtain ⟨ws, hw, rfl⟩ := List.mem_map.1 hx
 have h1 := Nat.le_of_ble_eq_true (List.all_eq_true.1 chkO ws hw)
 obtain ⟨a, b, c, n, rfl, _⟩ := hO0.2.2 ws hw
 have e : (ordOf [a, b, c]).1 = (hexV a : Nat) := rfl
 rw [e]
 simp only [List.headD_cons] at h1
 omega
theorem joins_line {a b r : Int} (h : ((a, b), r) ∈ joinsT) : ∃ e ∈ AN, ∃ x y : Nat, r = (e.1 : Nat) ∧ e.2 = [x, y] ∧ a = (x : Nat) ∧ b = (y : Nat) := by
 obtain ⟨e, he, hj⟩ := List.mem_filterMap.1 h
 rw [apartT_up] at he
 obtain ⟨f, hf, rfl⟩ := List.mem_map.1 he
 obtain ⟨f1, f2⟩ := f
 match f2, hj with
 | [x, y], hj =>
  simp only [up, List.map_cons, List.map_nil, jnE] at hj
  split at hj
  ·cases hj
  ·cases hj
   exact ⟨_, hf, x, y, rfl, rfl, rfl, rfl⟩
 | [], hj => cases hj
 | [x], hj => cases hj
 | x :: y :: z :: t, hj => cases hj
/-- The tables, in plain words. -/
noncomputable def tbT : Tb := ⟨faT, odT, jnT⟩
theorem jnT_parts (a b r : Int) (h : jnT a b = some r) : faT false r = faT false a ++ faT false b := by
 unfold jnT at h
 split at h
 ·rename_i hc
  cases h
  rw [faT_jamo false (r := a) (by omega), faT_jamo false (r := b) (by omega), faT_syl false (by omega)]
  unfold sylE
  rw [if_pos (by omega)]
  simp only [List.append_nil, List.cons_append, List.nil_append, List.cons.injEq, and_true]
  omega
 ·split at h
  ·rename_i hc
   cases h
   rw [faT_jamo false (r := b) (by omega), faT_syl false (by omega), faT_syl false (by omega)]
   unfold sylE
   rw [if_neg (by omega), if_pos (by omega)]
   simp only [List.append_nil, List.cons_append, List.nil_append, List.cons.injEq, and_true]
   omega
  ·obtain ⟨e, he, x, y, rfl, hxy, rfl, rfl⟩ := joins_line (jnL_some.1 h)
   have hl := lineA he
   have hx := hl.deep false x (by rw [hxy]; simp)
   have hy := hl.deep false y (by rw [hxy]; simp)
   have hlk : lookE apartT (e.1 : Nat) = some (up e.2) := lookE_of goodTA.2 (by rw [apartT_up]; exact List.mem_map.2 ⟨e, he, rfl⟩)
   have hs : ¬ (44032 ≤ ((e.1 : Nat) : Int) ∧ ((e.1 : Nat) : Int) ≤ 55203) := by have := hl.syl; omega
   unfold faT
   rw [fal_deep 4 _ _ hx, fal_deep 4 _ _ hy, fal, if_neg hs, hlk, hxy]
   simp [up]
theorem valid_syl {r : Int} (h : 44032 ≤ r ∧ r ≤ 55203) : Utf8.valid r = true := valid_iff.2 (by omega)
theorem jnT_valid (a b r : Int) (h : jnT a b = some r) : Utf8.valid r = true := by
 unfold jnT at h
 split at h
 ·cases h; exact valid_syl (by omega)
 ·split at h
  ·cases h; exact valid_syl (by omega)
  ·obtain ⟨e, he, x, y, rfl, hxy, rfl, rfl⟩ := joins_line (jnL_some.1 h)
   exact (lineA he).val
theorem jnT_low (a b : Int) (h0 : 0 ≤ b) (h : b < 128) : jnT a b = none := by
 cases hj : jnT a b with
 | none => rfl
 | some r =>
  unfold jnT at hj
  rw [if_neg (by omega), if_neg (by omega)] at hj
  obtain ⟨e, he, x, y, rfl, hxy, rfl, rfl⟩ := joins_line (jnL_some.1 hj)
  have := (lineA2 he).2 x y hxy
  omega
theorem valid_jamo {r : Int} (h : 4352 ≤ r ∧ r ≤ 4546) : Utf8.valid r = true := valid_iff.2 (by omega)
theorem fal_valid : ∀ (n : Nat) (k : Bool) (r : Int), Utf8.valid r = true → ∀ x ∈ fal apartT alsoT n k r, Utf8.valid x = true
 | 0, k, r, h, x, hx => by simp [fal] at hx; subst hx; exact h
 | n + 1, k, r, h, x, hx => by
  have hf : ∀ {e : Nat × List Nat}, LineOk e → x ∈ (up e.2).flatMap (fal apartT alsoT n k) → Utf8.valid x = true := fun hl hx => by
   obtain ⟨y, hy, hx⟩ := List.mem_flatMap.1 hx
   obtain ⟨z, hz, rfl⟩ := List.mem_map.1 hy
   exact fal_valid n k _ (hl.vals z hz) x hx
  unfold fal at hx
  split at hx
  ·rename_i h
   exact valid_jamo (sylE_jamo h x hx)
  ·split at hx
   ·rename_i l e
    obtain ⟨e, he, rfl, rfl⟩ := lookA e
    exact hf (lineA he) hx
   ·split at hx
    ·split at hx
     ·rename_i l e
      obtain ⟨e, he, rfl, rfl⟩ := lookK e
      exact hf (lineK he) hx
     ·simp at hx; subst hx; exact h
    ·simp at hx; subst hx; exact h
theorem faT_low (k : Bool) (r : Int) (h : r < 128) : faT k r = [r] := by
 rcases faT_cases k r with ⟨h1, h2⟩ | ⟨e, he, rfl⟩ | ⟨_, _, e, he, rfl⟩ | ⟨_, _, h2⟩
 ·omega
 ·have := (lineA he).low; omega
 ·have := (lineK he).low; omega
 ·exact h2
/-- The tables are as they should be. -/
theorem tbT_ok : tbT.Ok where
 od0 r := (odT_range r).1
 ne k r h := by have := (faT_len k r).1; rw [show faT k r = [] from h] at this; simp at this
 val k r h := fal_valid 5 k r h
 vj := jnT_valid
 done := faT_done
 less := faT_less
 twice := faT_twice
 mark := faT_mark
 join := jnT_parts
 asc k r _ h := faT_low k r h
 ascO r _ h := odT_low h
 ascJ := jnT_low
end Go.Proofs.YtokeamebcdhnpaaGreatDoor
