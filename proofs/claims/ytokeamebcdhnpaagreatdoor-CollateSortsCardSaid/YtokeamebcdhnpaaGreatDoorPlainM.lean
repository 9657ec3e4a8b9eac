/-
 Plain facts on bytes that are read as runes: how many runes and units some bytes have, what a seam costs, where the edges are. Plain facts on the places of runes: where they begin, how many stand ahead of a place. Plain facts on elements of a text: their order, and what joins. Plain facts on the runes and faults of a text, and on the text that they make. The forms of a text in plain words, over any tables that are as they should be: a form of a form is a form. What a form keeps: its faults, plain texts; where a text may be cut.
-/
import Derived.Lib.DecodeN
import Derived.Lib.DecodeNEq
section
namespace Go.Rp
open Go.Lib

/-- The rune at the head of some bytes, and its width. -/
def dec (l : List UInt8) : Nat × Nat := decodeN l.length (l.getD 0 0).toNat (l.getD 1 0).toNat (l.getD 2 0).toNat (l.getD 3 0).toNat
def wid (l : List UInt8) : Nat := (dec l).2
def run (l : List UInt8) : Nat := (dec l).1

theorem decN_pos (n b0 b1 b2 b3 : Nat) : 1 ≤ (decodeN n b0 b1 b2 b3).2 ∧ (decodeN n b0 b1 b2 b3).2 ≤ 4 := by
 simp only [decodeN]
 repeat' split
 all_goals simp

theorem decN_le (n b0 b1 b2 b3 : Nat) (hn : 1 ≤ n) : (decodeN n b0 b1 b2 b3).2 ≤ n := by
 simp only [decodeN]
 repeat' split
 all_goals simp
 all_goals omega

theorem decN_max (n b0 b1 b2 b3 : Nat) (h0 : b0 < 256) : (decodeN n b0 b1 b2 b3).1 ≤ 1114111 := by
 simp only [decodeN]
 repeat' split
 all_goals simp
 all_goals omega

theorem byte_lt (b : UInt8) : b.toNat < 256 := b.toNat_lt

theorem dec_at (s : ByteArray) (i : Nat) : Utf8.decode s i = dec (s.data.toList.drop i) := by
 rw [decode_at]
 unfold dec
 have g : ∀ k, s.get! (i + k) = (s.data.toList.drop i).getD k 0 := by
  intro k
  simp only [ByteArray.get!, List.getD_eq_getElem?_getD, List.getElem?_drop, Array.getElem?_toList, Array.getElem!_eq_getD, Array.getD_eq_getD_getElem?]
  rfl
 have g0 := g 0
 simp only [Nat.add_zero] at g0
 rw [g0, g 1, g 2, g 3]
 simp only [List.length_drop, Array.length_toList]
 rfl

theorem wid_pos (l : List UInt8) : 1 ≤ wid l := (decN_pos _ _ _ _ _).1
theorem wid_le (l : List UInt8) (h : l ≠ []) : wid l ≤ l.length := decN_le _ _ _ _ _ (by cases l <;> simp_all)
theorem run_max (l : List UInt8) : run l ≤ 1114111 := decN_max _ _ _ _ _ (byte_lt _)

/-- A sum over the places of some bytes: what the rune that would begin there says. -/
def S (f : Nat → Nat) : List UInt8 → Nat
 | [] => 0
 | c :: r => f (wid (c :: r)) + S f r

/-- The same, where more bytes stand behind. -/
def P (f : Nat → Nat) (b : List UInt8) : List UInt8 → Nat
 | [] => 0
 | c :: r => f (wid (c :: r ++ b)) + P f b r

def tl (a : List UInt8) : List UInt8 := a.drop (a.length - 3)
def hd (a : List UInt8) : List UInt8 := a.take 3

def ex (w : Nat) : Nat := w - 1
def four (w : Nat) : Nat := if w = 4 then 1 else 0

/-- How many runes; how many units. -/
def runes (l : List UInt8) : Nat := l.length - S ex l
def units (l : List UInt8) : Nat := runes l + S four l

/-- Is a place an edge? -/
def edge (l : List UInt8) (p : Nat) : Prop := ∀ j, j < p → j + wid (l.drop j) ≤ p

/-- The places of the runes: the rune, where it begins, where it ends. -/
def marks : Nat → List UInt8 → Nat → List (Nat × Nat × Nat)
 | 0, _, _ => []
 | n + 1, l, p => if l = [] then [] else (run l, p, p + wid l) :: marks n (l.drop (wid l)) (p + wid l)

end Go.Rp
end

section
namespace Go.Rp

open Classical in
/-- The greatest edge up to a place. -/
noncomputable def eb (l : List UInt8) : Nat → Nat
 | 0 => 0
 | k + 1 => if edge l (k + 1) then k + 1 else eb l k
/-- Where a rune begins; behind the last: the end. -/
def pl (l : List UInt8) (i : Nat) : Nat := match (marks l.length l 0)[i]? with
 | some m => m.2.1
 | none => l.length
end Go.Rp
end

section
namespace Go.Nm

/-- A rune and its order; or a fault's byte. -/
structure El where
 r : Int
 ord : Int
 bad : Bool

/-- An element ahead of others in their order. -/
def insL (x : El) : List El → List El
 | [] => [x]
 | y :: t => if 0 < y.ord ∧ y.ord < x.ord then y :: insL x t else x :: y :: t
/-- Elements in their order. -/
def sortL : List El → List El
 | [] => []
 | x :: t => insL x (sortL t)
theorem insL_stop {x y : El} {t : List El} (h : ¬ (0 < y.ord ∧ y.ord < x.ord)) : insL x (y :: t) = x :: y :: t := by rw [insL, if_neg h]
theorem insL_pass {x y : El} {t : List El} (h : 0 < y.ord ∧ y.ord < x.ord) : insL x (y :: t) = y :: insL x t := by rw [insL, if_pos h]
theorem insL_swap {x y : El} (h : 0 < y.ord ∧ y.ord < x.ord) : ∀ L : List El, insL x (insL y L) = insL y (insL x L)
 | [] => by
  rw [insL, insL, insL_pass h, insL, insL_stop (by omega)]
 | z :: t => by
  by_cases h1 : 0 < z.ord ∧ z.ord < y.ord
  ·rw [insL_pass h1, insL_pass (show 0 < z.ord ∧ z.ord < x.ord by omega), insL_pass (show 0 < z.ord ∧ z.ord < x.ord by omega), insL_pass h1, insL_swap h t]
  ·rw [insL_stop h1, insL_pass h]
   by_cases h2 : 0 < z.ord ∧ z.ord < x.ord
   ·rw [insL_pass h2, insL_stop h1]
   ·rw [insL_stop h2, insL_stop (show ¬ (0 < x.ord ∧ x.ord < y.ord) by omega)]
theorem sortL_front (u : List El) {a b : List El} (h : sortL a = sortL b) : sortL (u ++ a) = sortL (u ++ b) := by
 induction u with
 | nil => exact h
 | cons x t ih => rw [List.cons_append, List.cons_append, sortL, sortL, ih]
theorem sortL_two {x y : El} (h : 0 < y.ord ∧ y.ord < x.ord) (v : List El) : sortL (x :: y :: v) = sortL (y :: x :: v) := by
 rw [sortL, sortL, sortL, sortL, insL_swap h]
theorem sortL_ins (x : El) (v : List El) : ∀ L : List El, sortL (insL x L ++ v) = sortL (x :: (L ++ v))
 | [] => rfl
 | y :: t => by
  by_cases h : 0 < y.ord ∧ y.ord < x.ord
  ·rw [insL_pass h, List.cons_append, sortL, sortL_ins x v t, List.cons_append, sortL_two h]
   rfl
  ·rw [insL_stop h]; rfl
theorem sortL_back (v : List El) : ∀ L : List El, sortL (sortL L ++ v) = sortL (L ++ v)
 | [] => rfl
 | x :: t => by
  rw [sortL, sortL_ins, List.cons_append, sortL, sortL_back v t]
  rfl
theorem sortL_idem (L : List El) : sortL (sortL L) = sortL L := by
 have := sortL_back [] L
 simpa using this
/-- In order. -/
def Srt : List El → Prop
 | [] => True
 | [_] => True
 | x :: y :: t => ¬ (0 < y.ord ∧ y.ord < x.ord) ∧ Srt (y :: t)
theorem Srt.tail {x : El} : ∀ {t : List El}, Srt (x :: t) → Srt t
 | [], _ => trivial
 | _ :: _, h => h.2
theorem Srt.eq : ∀ {L : List El}, Srt L → sortL L = L
 | [], _ => rfl
 | [_], _ => rfl
 | x :: y :: t, h => by
  have h2 : Srt (y :: t) := h.2
  rw [sortL, h2.eq, insL_stop h.1]
theorem insL_srt {x : El} : ∀ {L : List El}, Srt L → Srt (insL x L)
 | [], _ => trivial
 | y :: t, h => by
  by_cases h1 : 0 < y.ord ∧ y.ord < x.ord
  ·rw [insL_pass h1]
   have h2 := insL_srt (x := x) h.tail
   cases t with
   | nil => exact ⟨by omega, trivial⟩
   | cons z t =>
    by_cases h3 : 0 < z.ord ∧ z.ord < x.ord
    ·rw [insL_pass h3] at h2 ⊢
     exact ⟨h.1, h2⟩
    ·rw [insL_stop h3] at h2 ⊢
     exact ⟨by omega, h2⟩
  ·rw [insL_stop h1]; exact ⟨h1, h⟩
theorem sortL_srt : ∀ L : List El, Srt (sortL L)
 | [] => trivial
 | _ :: t => insL_srt (sortL_srt t)
theorem insL_len (x : El) : ∀ L : List El, (insL x L).length = L.length + 1
 | [] => rfl
 | y :: t => by rw [insL]; split <;> simp [insL_len x t]
theorem sortL_len : ∀ L : List El, (sortL L).length = L.length
 | [] => rfl
 | x :: t => by rw [sortL, insL_len, sortL_len t]; rfl
theorem insL_mem {x z : El} : ∀ {L : List El}, z ∈ insL x L ↔ z = x ∨ z ∈ L
 | [] => by simp [insL]
 | y :: t => by
  rw [insL]; split
  ·rw [List.mem_cons, insL_mem (L := t), List.mem_cons]
   constructor
   ·rintro (h | h | h) <;> simp [h]
   ·rintro (h | h | h) <;> simp [h]
  ·simp
theorem sortL_mem {z : El} : ∀ {L : List El}, z ∈ sortL L ↔ z ∈ L
 | [] => by simp [sortL]
 | x :: t => by rw [sortL, insL_mem, sortL_mem, List.mem_cons]
/-- Where one begins that is of order 0, what stands ahead has no part. -/
theorem insL_zero {x z : El} (hz : z.ord = 0) (v : List El) : ∀ u : List El, insL x (u ++ z :: v) = insL x u ++ z :: v
 | [] => by rw [List.nil_append, insL_stop (by omega)]; rfl
 | y :: t => by
  by_cases h : 0 < y.ord ∧ y.ord < x.ord
  ·rw [List.cons_append, insL_pass h, insL_pass h, insL_zero hz v t]; rfl
  ·rw [List.cons_append, insL_stop h, insL_stop h]; rfl
theorem sortL_zero {z : El} (hz : z.ord = 0) (v : List El) : sortL (z :: v) = z :: sortL v := by
 rw [sortL]
 cases h : sortL v with
 | nil => rfl
 | cons y t => rw [insL_stop (by omega)]
theorem sortL_apart {z : El} (hz : z.ord = 0) (v : List El) : ∀ u : List El, sortL (u ++ z :: v) = sortL u ++ sortL (z :: v)
 | [] => rfl
 | x :: t => by rw [List.cons_append, sortL, sortL_apart hz v t, sortL_zero hz, insL_zero hz, sortL]
/-- May the one join the starter, with those between? -/
def free (b : List El) (x : El) : Bool := match b.getLast? with
 | none => true
 | some y => decide (0 < x.ord ∧ y.ord < x.ord)
/-- Joining: the starter that stands ahead, and the marks behind it. -/
def J (jn : Int → Int → Option Int) : Option (El × List El) → List El → List El
 | none, [] => []
 | some (s, b), [] => s :: b
 | none, x :: t => if x.bad = true ∨ 0 < x.ord then x :: J jn none t else J jn (some (x, [])) t
 | some (s, b), x :: t =>
  if x.bad = true then s :: (b ++ x :: J jn none t) else
  match (if free b x = true then jn s.r x.r else none) with
  | some r => J jn (some ({ s with r := r }, b)) t
  | none => if 0 < x.ord then J jn (some (s, b ++ [x])) t else s :: (b ++ J jn (some (x, [])) t)
theorem J_bad {jn : Int → Int → Option Int} {s x : El} {b t : List El} (h : x.bad = true) : J jn (some (s, b)) (x :: t) = s :: (b ++ x :: J jn none t) := by rw [J, if_pos h]
theorem J_join {jn : Int → Int → Option Int} {s x : El} {b t : List El} {r : Int} (h : ¬ x.bad = true) (hf : free b x = true) (hj : jn s.r x.r = some r) : J jn (some (s, b)) (x :: t) = J jn (some ({ s with r := r }, b)) t := by
 rw [J, if_neg h, if_pos hf, hj]
theorem J_mark {jn : Int → Int → Option Int} {s x : El} {b t : List El} (h : ¬ x.bad = true) (hf : free b x = true → jn s.r x.r = none) (ho : 0 < x.ord) : J jn (some (s, b)) (x :: t) = J jn (some (s, b ++ [x])) t := by
 rw [J, if_neg h]
 have e : (if free b x = true then jn s.r x.r else none) = none := by split; exact hf (by assumption); rfl
 rw [e]
 simp only [if_pos ho]
theorem J_start {jn : Int → Int → Option Int} {s x : El} {b t : List El} (h : ¬ x.bad = true) (hf : free b x = true → jn s.r x.r = none) (ho : ¬ 0 < x.ord) : J jn (some (s, b)) (x :: t) = s :: (b ++ J jn (some (x, [])) t) := by
 rw [J, if_neg h]
 have e : (if free b x = true then jn s.r x.r else none) = none := by split; exact hf (by assumption); rfl
 rw [e]
 simp only [if_neg ho]
/-- What falls apart canonically, and what is done. -/
structure Fall where
 fa : Int → List Int
 od : Int → Int
 jn : Int → Int → Option Int
 od0 : ∀ r, 0 ≤ od r
 join : ∀ a b r, jn a b = some r → fa r = fa a ++ fa b
/-- An element of a rune. -/
def Fall.mk1 (F : Fall) (r : Int) : El := ⟨r, F.od r, false⟩
def Fall.g (F : Fall) (x : El) : List El := if x.bad = true then [x] else (F.fa x.r).map F.mk1
/-- An element that falls apart no more. -/
def Fall.Done (F : Fall) (x : El) : Prop := (x.bad = true ∧ x.ord = 0) ∨ (x = F.mk1 x.r ∧ F.fa x.r = [x.r])
theorem Fall.Done.g {F : Fall} {x : El} (h : F.Done x) : F.g x = [x] := by
 rcases h with h | h
 ·rw [Fall.g, if_pos h.1]
 ·rw [Fall.g, if_neg (by rw [h.1]; exact Bool.false_ne_true), h.2]
  show [F.mk1 x.r] = [x]
  rw [← h.1]
/-- In order, all marks: none is above the last. -/
theorem Srt.last : ∀ {b : List El}, Srt b → (∀ y ∈ b, 0 < y.ord) → ∀ {z : El}, b.getLast? = some z → ∀ y ∈ b, y.ord ≤ z.ord
 | [], _, _, _, _, y, hy => by simp at hy
 | [x], _, _, z, hz, y, hy => by simp at hz hy; subst hz; subst hy; exact Int.le_refl _
 | x :: w :: t, h, hp, z, hz, y, hy => by
  rw [List.getLast?_cons_cons] at hz
  have ih := Srt.last (b := w :: t) h.2 (fun y hy => hp y (by simp [hy])) hz
  have h1 : ¬ (0 < w.ord ∧ w.ord < x.ord) := h.1
  have h2 := ih w (by simp)
  have h3 := hp w (by simp)
  rcases List.mem_cons.1 hy with rfl | hy
  ·omega
  ·exact ih y hy
theorem Srt.left : ∀ {a b : List El}, Srt (a ++ b) → Srt a
 | [], _, _ => trivial
 | [_], _, _ => trivial
 | _ :: y :: t, _, h => ⟨h.1, Srt.left (a := y :: t) h.2⟩
theorem free_all {b t : List El} {x : El} (hs : Srt (b ++ x :: t)) (hp : ∀ y ∈ b, 0 < y.ord) (hf : free b x = true) : ∀ y ∈ b, 0 < y.ord ∧ y.ord < x.ord := by
 intro y hy
 refine ⟨hp y hy, ?_⟩
 unfold free at hf
 split at hf
 ·rename_i h
  rw [List.getLast?_eq_none_iff.1 h] at hy
  simp at hy
 ·rename_i z hz
  have := hs.left.last hp hz y hy
  have := of_decide_eq_true hf
  omega
end Go.Nm
end

section
namespace Go.Nm
open Go.Rp Go.Lib

/-- The runes and the faults of some bytes: a fault has its byte. -/
def raw : Nat → List UInt8 → List (Int × Bool)
 | 0, _ => []
 | n + 1, l => if l = [] then [] else (if run l = 65533 ∧ wid l = 1 then (((l.getD 0 0).toNat : Int), true) else ((run l : Int), false)) :: raw n (l.drop (wid l))
theorem raw_nil (n : Nat) : raw n [] = [] := by cases n <;> simp [raw]
theorem raw_fuel (n : Nat) : ∀ (m : Nat) (l : List UInt8), l.length ≤ n → l.length ≤ m → raw n l = raw m l := by
 induction n with
 | zero =>
  intro m l h1 _
  have : l = [] := List.length_eq_zero_iff.1 (by omega)
  subst this
  rw [raw_nil, raw_nil]
 | succ n ih =>
  intro m l h1 h2
  by_cases h : l = []
  ·subst h; rw [raw_nil, raw_nil]
  ·have hp := wid_pos l
   have hw := wid_le l h
   have h0 : 0 < l.length := List.length_pos_iff.2 h
   obtain ⟨m', rfl⟩ : ∃ m', m = m' + 1 := ⟨m - 1, by omega⟩
   rw [raw, raw, if_neg h, if_neg h, ih m' (l.drop (wid l)) (by simp; omega) (by simp; omega)]
def rawOf (l : List UInt8) : List (Int × Bool) := raw l.length l
theorem rawOf_step (l : List UInt8) (h : l ≠ []) : rawOf l = (if run l = 65533 ∧ wid l = 1 then (((l.getD 0 0).toNat : Int), true) else ((run l : Int), false)) :: rawOf (l.drop (wid l)) := by
 have hp := wid_pos l
 have hw := wid_le l h
 obtain ⟨m', hm⟩ : ∃ m', l.length = m' + 1 := ⟨l.length - 1, by omega⟩
 unfold rawOf
 rw [hm, raw, if_neg h, raw_fuel m' (l.drop (wid l)).length _ (by simp; omega) (Nat.le_refl _)]
/-- A rune's bytes. -/
def encB (r : Int) : List UInt8 := (Utf8.encode r).data.toList
theorem u8n (n : Nat) (h : n < 256) : (UInt8.ofNat n).toNat = n := by simp; omega
set_option maxRecDepth 100000 in
theorem dec_enc {r : Int} (h : Utf8.valid r = true) (b : List UInt8) : dec (encB r ++ b) = (r.toNat, (encB r).length) := by
 have hv : (0 ≤ r ∧ r < 55296) ∨ (57344 ≤ r ∧ r ≤ 1114111) := by
  unfold Utf8.valid at h
  simp only [Bool.or_eq_true, Bool.and_eq_true, decide_eq_true_eq] at h
  omega
 obtain ⟨n, rfl⟩ : ∃ n : Nat, r = (n : Int) := ⟨r.toNat, by omega⟩
 have hv : n < 55296 ∨ (57344 ≤ n ∧ n ≤ 1114111) := by omega
 unfold encB Utf8.encode
 simp only [h, if_true, Int.toNat_natCast]
 by_cases h1 : n < 128
 ·simp only [h1, if_true, List.cons_append, List.nil_append]
  unfold dec decodeN
  simp only [List.getD_cons_zero, u8n n (by omega), h1, if_true]
  rfl
 by_cases h2 : n < 2048
 ·simp only [h1, h2, if_true, if_false, List.cons_append, List.nil_append]
  unfold dec decodeN
  simp only [List.getD_cons_zero, List.getD_cons_succ, u8n (192 + n / 64) (by omega), u8n (128 + n % 64) (by omega)]
  rw [if_neg (by omega), if_pos ⟨by omega, by simp, by omega⟩, if_pos (by omega)]
  simp only [List.length_cons, List.length_nil, Prod.mk.injEq, and_true]
  omega
 by_cases h3 : n < 65536
 ·simp only [h1, h2, h3, if_true, if_false, List.cons_append, List.nil_append]
  unfold dec decodeN
  simp only [List.getD_cons_zero, List.getD_cons_succ, u8n (224 + n / 4096) (by omega), u8n (128 + n / 64 % 64) (by omega), u8n (128 + n % 64) (by omega)]
  rw [if_neg (by omega), if_neg (by omega), if_pos ⟨by omega, ⟨by simp, by omega⟩, by simp, by omega⟩, if_pos (by omega)]
  simp only [List.length_cons, List.length_nil, Prod.mk.injEq, and_true]
  omega
 ·simp only [h1, h2, h3, if_false, List.cons_append, List.nil_append]
  unfold dec decodeN
  simp only [List.getD_cons_zero, List.getD_cons_succ, u8n (240 + n / 262144) (by omega), u8n (128 + n / 4096 % 64) (by omega), u8n (128 + n / 64 % 64) (by omega), u8n (128 + n % 64) (by omega)]
  rw [if_neg (by omega), if_neg (by omega), if_neg (by omega), if_pos ⟨by omega, ⟨by simp, by omega⟩, ⟨by simp, by omega⟩, by simp, by omega⟩, if_pos (by omega)]
  simp only [List.length_cons, List.length_nil, Prod.mk.injEq, and_true]
  omega
theorem enc_len {r : Int} (h : Utf8.valid r = true) (h1 : (encB r).length = 1) : r < 128 := by
 refine Decidable.byContradiction fun hn => ?_
 revert h1
 unfold encB Utf8.encode
 have : ¬ r.toNat < 128 := by omega
 simp only [h, if_true, this, if_false]
 split
 ·simp
 ·split <;> simp
theorem enc_ne (r : Int) : encB r ≠ [] := by
 unfold encB Utf8.encode
 simp only
 generalize (if Utf8.valid r = true then r.toNat else Utf8.runeError) = c
 by_cases h1 : c < 128
 ·simp [h1]
 by_cases h2 : c < 2048
 ·simp [h1, h2]
 by_cases h3 : c < 65536
 ·simp [h1, h2, h3]
 ·simp [h1, h2, h3]
theorem decN_valid (n b0 b1 b2 b3 : Nat) (h0 : b0 < 256) : Utf8.valid ((decodeN n b0 b1 b2 b3).1 : Int) = true := by
 have key : ∀ m : Nat, (m < 55296 ∨ (57344 ≤ m ∧ m ≤ 1114111)) → Utf8.valid (m : Int) = true := by
  intro m hm
  unfold Utf8.valid
  simp only [Bool.or_eq_true, Bool.and_eq_true, decide_eq_true_eq]
  omega
 apply key
 simp only [decodeN]
 repeat' split
 all_goals simp
 all_goals omega
theorem run_valid (l : List UInt8) : Utf8.valid (run l : Int) = true := decN_valid _ _ _ _ _ (byte_lt _)
/-- A rune's bytes, or a fault's. -/
def encE (x : Int × Bool) : List UInt8 := if x.2 = true then [UInt8.ofNat x.1.toNat] else encB x.1
theorem encE_bad (c : Int) : encE (c, true) = [UInt8.ofNat c.toNat] := rfl
theorem encE_rune (r : Int) : encE (r, false) = encB r := rfl
end Go.Nm
end

section
namespace Go.Nm
open Go.Rp Go.Lib

/-- What the tables say: into what a rune falls apart (canonically, loosely), its order, what two join to. -/
structure Tb where
 fa : Bool → Int → List Int
 od : Int → Int
 jn : Int → Int → Option Int
/-- The tables are as they should be. -/
structure Tb.Ok (T : Tb) : Prop where
 od0 : ∀ r, 0 ≤ T.od r
 ne : ∀ k r, T.fa k r ≠ []
 val : ∀ k r, Utf8.valid r = true → ∀ x ∈ T.fa k r, Utf8.valid x = true
 vj : ∀ a b r, T.jn a b = some r → Utf8.valid r = true
 done : ∀ k r, ∀ x ∈ T.fa k r, T.fa k x = [x]
 less : ∀ x, T.fa true x = [x] → T.fa false x = [x]
 twice : ∀ r, T.fa true r = (T.fa false r).flatMap (T.fa true)
 mark : ∀ r, 0 < T.od r → T.fa false r = [r] → T.fa true r = [r]
 join : ∀ a b r, T.jn a b = some r → T.fa false r = T.fa false a ++ T.fa false b
 asc : ∀ k r, 0 ≤ r → r < 128 → T.fa k r = [r]
 ascO : ∀ r, 0 ≤ r → r < 128 → T.od r = 0
 ascJ : ∀ a b, 0 ≤ b → b < 128 → T.jn a b = none

variable {T : Tb}
def Tb.mk1 (T : Tb) (r : Int) : El := ⟨r, T.od r, false⟩
def Tb.g (T : Tb) (k : Bool) (x : El) : List El := if x.bad = true then [x] else (T.fa k x.r).map T.mk1
/-- An element that stays. -/
def Tb.Done (T : Tb) (k : Bool) (x : El) : Prop := (x.bad = true ∧ x.ord = 0) ∨ (x = T.mk1 x.r ∧ T.fa k x.r = [x.r])
theorem Tb.g_bad {k : Bool} {x : El} (h : x.bad = true) : T.g k x = [x] := if_pos h
theorem Tb.g_rune {k : Bool} {x : El} (h : ¬ x.bad = true) : T.g k x = (T.fa k x.r).map T.mk1 := if_neg h
theorem Tb.g_mk {k : Bool} {r : Int} : T.g k (T.mk1 r) = (T.fa k r).map T.mk1 := if_neg Bool.false_ne_true
theorem Tb.Done.flat {k : Bool} {x : El} (h : T.Done k x) : T.g k x = [x] := by
 rcases h with h | h
 ·exact Tb.g_bad h.1
 ·rw [Tb.g_rune (by rw [h.1]; exact Bool.false_ne_true), h.2]
  show [T.mk1 x.r] = [x]
  rw [← h.1]
theorem Tb.Done.less (ok : T.Ok) {k : Bool} {x : El} (h : T.Done k x) : T.Done false x := by
 rcases h with h | h
 ·exact .inl h
 ·refine .inr ⟨h.1, ?_⟩
  cases k with
  | false => exact h.2
  | true => exact ok.less _ h.2
def Tb.Ok.fall (ok : T.Ok) : Fall := ⟨T.fa false, T.od, T.jn, ok.od0, ok.join⟩
/-- A rune or a fault, without its order. -/
def El.p (x : El) : Int × Bool := (x.r, x.bad)
/-- The elements of some runes and faults, fallen apart. -/
def Tb.els (T : Tb) (k : Bool) (l : List (Int × Bool)) : List El := l.flatMap fun x => if x.2 = true then [⟨x.1, 0, true⟩] else (T.fa k x.1).map T.mk1
/-- The elements of a text in their order. -/
def Tb.E (T : Tb) (k : Bool) (s : List UInt8) : List El := sortL (T.els k (rawOf s))
/-- Their bytes. -/
def out (L : List El) : List UInt8 := (L.map El.p).flatMap encE
/-- A text in a form: loose or not, joined or not. -/
def Tb.form (T : Tb) (k c : Bool) (s : List UInt8) : List UInt8 := out (if c = true then J T.jn none (T.E k s) else T.E k s)
theorem Tb.Done.zero {k : Bool} {x : El} (h : T.Done k x) : x.bad = true → x.ord = 0 := by
 intro hb
 rcases h with h | h
 ·exact h.2
 ·rw [h.1] at hb; cases hb
theorem Tb.Done.alone (ok : T.Ok) {x : El} (h : T.Done false x) (ho : 0 < x.ord) : ∃ y, T.g true x = [y] ∧ y.ord = x.ord := by
 rcases h with h | h
 ·omega
 ·have h1 : 0 < T.od x.r := by rw [h.1] at ho; exact ho
  refine ⟨x, ?_, rfl⟩
  rw [h.1, Tb.g_mk]
  show (T.fa true x.r).map T.mk1 = _
  rw [ok.mark _ h1 h.2]
  rfl
/-- A starter is no fault, nor is what stands behind it. -/
def StOk : Option (El × List El) → Prop
 | none => True
 | some (s, b) => s.bad = false ∧ ∀ y ∈ b, y.bad = false
theorem StOk.snoc {s x : El} {b : List El} (h : StOk (some (s, b))) (hx : ¬ x.bad = true) : StOk (some (s, b ++ [x])) := by
 refine ⟨h.1, fun y hy => ?_⟩
 rcases List.mem_append.1 hy with hy | hy
 ·exact h.2 y hy
 ·rw [List.mem_singleton] at hy
  subst hy
  simpa using hx
theorem StOk.start {x : El} (hx : ¬ x.bad = true) : StOk (some (x, [])) := ⟨by simpa using hx, by simp⟩
end Go.Nm
end

section
namespace Go.Nm
open Go.Rp Go.Lib

variable {T : Tb}
/-- Before such an element what stands ahead has no part. -/
def Stop (T : Tb) (c : Bool) (z : El) : Prop := z.ord = 0 ∧ (z.bad = true ∨ (c = true → ∀ a, T.jn a z.r = none))
theorem J_skip {jn : Int → Int → Option Int} {x : El} {t : List El} (h : x.bad = true ∨ 0 < x.ord) : J jn none (x :: t) = x :: J jn none t := by rw [J, if_pos h]
theorem J_open {jn : Int → Int → Option Int} {x : El} {t : List El} (h : ¬ (x.bad = true ∨ 0 < x.ord)) : J jn none (x :: t) = J jn (some (x, [])) t := by rw [J, if_neg h]
theorem out_append (a b : List El) : out (a ++ b) = out a ++ out b := by simp [out]
theorem els_append (k : Bool) (a b : List (Int × Bool)) : T.els k (a ++ b) = T.els k a ++ T.els k b := by simp [Tb.els]
end Go.Nm
end
