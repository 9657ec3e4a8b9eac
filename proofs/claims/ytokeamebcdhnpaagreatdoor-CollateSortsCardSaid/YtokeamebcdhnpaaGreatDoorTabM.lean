/-
 What the lines of the weights say, in plain words; the checks over the program's own text.
-/
import Derived.Test.YtokeamebcdhnpaaGreatDoorNumA
import Derived.Test.YtokeamebcdhnpaaGreatDoorPlainC
import Derived.Test.YtokeamebcdhnpaaGreatDoorLdM
namespace Go.Proofs.YtokeamebcdhnpaaGreatDoor
open Go.RowKit Go.Rp Go.Shelf Go.Maps Go.Cl

def keyR (l : List UInt8) : List Nat := (Lib.fields (cutC 59 [] l).1).map (numV 16)
def elOf (x : List UInt8) : El := match splitC 46 [] x with
 | [a, b, c] => (numV 10 a, numV 10 b, numV 10 c)
 | _ => (0, 0, 0)
def elsR (l : List UInt8) : List El := (Lib.fields (cutC 59 [] l).2).map elOf
def textC (rs : List Nat) : List UInt8 := rs.flatMap fun (r : Nat) => (Utf8.encode (r : Int)).data.toList
def entC (l : List UInt8) : List UInt8 × List El := (textC (keyR l), elsR l)
noncomputable def textW : ByteArray := (strsOf (Tryz.f51.body.getD .skip)).getD 0 ByteArray.empty
def linesW (s : List UInt8) : List (List UInt8) := splitC 10 [] (Lib.trimSpace s)
def mostC (B : Book) : Nat := B.foldl (fun n p => max n p.1.length) 0
theorem most_from (B : Book) : ∀ a, a ≤ B.foldl (fun n p => max n p.1.length) a ∧ ∀ p ∈ B, p.1.length ≤ B.foldl (fun n p => max n p.1.length) a := by
 induction B with
 | nil => intro a; exact ⟨Nat.le_refl _, fun p hp => by cases hp⟩
 | cons q B ih =>
  intro a
  obtain ⟨h1, h2⟩ := ih (max a q.1.length)
  refine ⟨Nat.le_trans (Nat.le_max_left _ _) h1, fun p hp => ?_⟩
  rcases List.mem_cons.1 hp with rfl | hp
  ·exact Nat.le_trans (Nat.le_max_right _ _) h1
  ·exact h2 p hp
theorem most_le (B : Book) : ∀ p ∈ B, p.1.length ≤ mostC B := (most_from B 0).2
theorem most_snoc (B : Book) (p : List UInt8 × List El) : mostC (B ++ [p]) = max (mostC B) p.1.length := by simp [mostC, List.foldl_append]
/-- The checks. -/
def digB (b : Nat) (c : UInt8) : Bool := (decide (48 ≤ c.toNat) && decide (c.toNat ≤ 57)) || (decide (b = 16) && decide (97 ≤ c.toNat) && decide (c.toNat ≤ 102))
def numB' (b : Nat) (x : List UInt8) : Bool := decide (0 < x.length) && decide (x.length ≤ 6) && x.all (digB b)
def NumW (b : Nat) (x : List UInt8) : Prop := 0 < x.length ∧ x.length ≤ 6 ∧ ∀ c ∈ x, isDig b c
theorem numB_spec {b : Nat} {x : List UInt8} (h : numB' b x = true) : NumW b x := by
 simp only [numB', Bool.and_eq_true, decide_eq_true_eq, List.all_eq_true] at h
 refine ⟨h.1.1, h.1.2, fun c hc => ?_⟩
 have := h.2 c hc
 simp only [digB, Bool.or_eq_true, Bool.and_eq_true, decide_eq_true_eq] at this
 rcases this with h1 | h1
 ·exact .inl h1
 ·exact .inr ⟨h1.1.1, h1.1.2, h1.2⟩
def elB (x : List UInt8) : Bool := match splitC 46 [] x with
 | [a, b, c] => numB' 10 a && numB' 10 b && numB' 10 c && decide (x.length ≤ 100)
 | _ => false
def okB (e : El) : Bool := decide (e.1 < 16777216) && decide (e.2.1 < 256) && decide (e.2.2 < 256)
/-- A line that is read. -/
structure LineOkW (l : List UInt8) : Prop where
 len : l.length ≤ 1000
 key : ∀ x ∈ Lib.fields (cutC 59 [] l).1, NumW 16 x ∧ Utf8.valid ((numV 16 x : Nat) : Int) = true
 els : ∀ x ∈ Lib.fields (cutC 59 [] l).2, ∃ a b c, splitC 46 [] x = [a, b, c] ∧ NumW 10 a ∧ NumW 10 b ∧ NumW 10 c ∧ x.length ≤ 100
 asc : (∀ c ∈ (cutC 59 [] l).1, c.toNat < 128) ∧ ∀ c ∈ (cutC 59 [] l).2, c.toNat < 128
 lens : (cutC 59 [] l).1.length ≤ 1000 ∧ (cutC 59 [] l).2.length ≤ 1000
 few : (Lib.fields (cutC 59 [] l).1).length ≤ 1000 ∧ (Lib.fields (cutC 59 [] l).2).length ≤ 1000
def lineB (l : List UInt8) : Bool := decide (l.length ≤ 1000) && (Lib.fields (cutC 59 [] l).1).all (fun x => numB' 16 x && Utf8.valid ((numV 16 x : Nat) : Int)) && (Lib.fields (cutC 59 [] l).2).all elB && ((cutC 59 [] l).1.all (fun c => decide (c.toNat < 128)) && (cutC 59 [] l).2.all (fun c => decide (c.toNat < 128))) && (decide ((cutC 59 [] l).1.length ≤ 1000) && decide ((cutC 59 [] l).2.length ≤ 1000)) && (decide ((Lib.fields (cutC 59 [] l).1).length ≤ 1000) && decide ((Lib.fields (cutC 59 [] l).2).length ≤ 1000))
theorem lineB_spec {l : List UInt8} (h : lineB l = true) : LineOkW l := by
 simp only [lineB, Bool.and_eq_true, decide_eq_true_eq, List.all_eq_true] at h
 obtain ⟨⟨⟨⟨⟨h1, h2⟩, h3⟩, h6⟩, h7⟩, h4⟩ := h
 refine ⟨h1, fun x hx => ⟨numB_spec (h2 x hx).1, (h2 x hx).2⟩, fun x hx => ?_, h6, h7, h4⟩
 have h5 := h3 x hx
 unfold elB at h5
 split at h5
 ·rename_i a b c he
  simp only [Bool.and_eq_true, decide_eq_true_eq] at h5
  exact ⟨a, b, c, he, numB_spec h5.1.1.1, numB_spec h5.1.1.2, numB_spec h5.1.2, h5.2⟩
 ·cases h5
def eqLW : List UInt8 → List UInt8 → Bool
 | [], [] => true
 | a :: l, b :: m => Nat.beq a.toNat b.toNat && eqLW l m
 | _, _ => false
theorem eqLW_refl : ∀ l : List UInt8, eqLW l l = true
 | [] => rfl
 | a :: l => by simp [eqLW, Nat.beq_refl, eqLW_refl l]
def nodupK : List (List UInt8) → Bool
 | [] => true
 | x :: t => !t.any (eqLW x) && nodupK t
theorem nodupK_spec : ∀ {l : List (List UInt8)}, nodupK l = true → l.Nodup
 | [], _ => List.nodup_nil
 | x :: t, h => by
  simp only [nodupK, Bool.and_eq_true, Bool.not_eq_true', List.any_eq_false] at h
  refine List.nodup_cons.2 ⟨fun hx => h.1 x hx (eqLW_refl x), nodupK_spec h.2⟩
def bookB (L : List (List UInt8)) : Bool := L.all lineB && nodupK (L.map fun l => (entC l).1) && L.all (fun l => (entC l).2.all okB) && decide (L.length ≤ 1000) && decide (mostC (L.map entC) ≤ 1000)
/-- The book of the program's own text. -/
noncomputable def linesP : List (List UInt8) := linesW textW.data.toList
noncomputable def bookP : Book := linesP.map entC
theorem textW_ok : (decide (textW.size ≤ 1000000) && textW.data.toList.all (fun c => decide (c.toNat < 128)) && bookB linesP) = true := by kernel_rfl
theorem linesP_ok : (∀ l ∈ linesP, LineOkW l) ∧ (bookP.map (·.1)).Nodup ∧ BOk bookP ∧ linesP.length ≤ 1000 ∧ mostC bookP ≤ 1000 := by
 have h := textW_ok
 simp only [bookB, Bool.and_eq_true, List.all_eq_true, decide_eq_true_eq] at h
 obtain ⟨_, ⟨⟨⟨h1, h2⟩, h3⟩, h4⟩, h5⟩ := h
 refine ⟨fun l hl => lineB_spec (h1 l hl), ?_, fun p hp e he => ?_, h4, h5⟩
 ·have := nodupK_spec h2
  unfold bookP
  rw [List.map_map]
  exact this
 ·obtain ⟨l, hl, rfl⟩ := List.mem_map.1 hp
  have := h3 l hl e he
  simp only [okB, Bool.and_eq_true, decide_eq_true_eq] at this
  exact ⟨this.1.1, this.1.2, this.2⟩
theorem textW_small : textW.size ≤ 1000000 ∧ ∀ c ∈ textW.data.toList, c.toNat < 128 := by
 have h := textW_ok
 simp only [Bool.and_eq_true, List.all_eq_true, decide_eq_true_eq] at h
 exact ⟨h.1.1, h.1.2⟩
end Go.Proofs.YtokeamebcdhnpaaGreatDoor
