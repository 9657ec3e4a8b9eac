/-
  Blocks counted, numbers counted; the table of the statements' own example.
-/
import Derived.Test.YtbbemipidkhmfaaWalkV
namespace Go.Proofs.Ytbbemipidkhmfaa
open Go.RowKit Go.Maps Go.Shelf

theorem Tab.mem_iff {W : World} {T : Nat} {rest : Int} {f : Int → Int} {U : List (List Int)} {ix : List Nat} {ob oc ub uc : Nat} (h : Tab W T rest f U ix ob oc ub uc) (b : List Int) : b ∈ U ↔ ∃ n, n < 8704 ∧ b = blkOf f n := by
  refine ⟨h.uok b, ?_⟩
  rintro ⟨n, hn, rfl⟩
  exact List.mem_of_getElem? (h.ixok n (by rw [h.ixl]; exact hn))
theorem Tab.blocks {W : World} {T : Nat} {rest : Int} {f : Int → Int} {U : List (List Int)} {ix : List Nat} {ob oc ub uc : Nat} (h : Tab W T rest f U ix ob oc ub uc) {S : List (List Int)} (hn : S.Nodup)
    (h1 : ∀ n, n < 8704 → blkOf f n ∈ S) (h2 : ∀ b ∈ S, ∃ n, n < 8704 ∧ b = blkOf f n) : U.length = S.length := by
  refine ((List.perm_ext_iff_of_nodup h.nod hn).2 fun b => ?_).length_eq
  rw [h.mem_iff]
  constructor
  · rintro ⟨n, hn, rfl⟩; exact h1 n hn
  · exact h2 b
/-- How many numbers from a on, k of them, have a class. -/
def cntF (f : Int → Int) (c a : Int) (k : Nat) : Nat := (List.range k).countP fun i => decide (f (a + (i : Nat)) = c)
theorem cntF_add (f : Int → Int) (c a : Int) (k m : Nat) : cntF f c a (k + m) = cntF f c a k + cntF f c (a + (k : Nat)) m := by
  unfold cntF
  rw [List.range_add, List.countP_append, List.countP_map]
  congr 1
  refine List.countP_congr fun i _ => ?_
  simp only [Function.comp_apply]
  rw [show a + ((k + i : Nat) : Int) = a + (k : Nat) + (i : Nat) from by omega]
theorem cntF_const {f : Int → Int} {c d a : Int} {k : Nat} (h : ∀ r, a ≤ r → r < a + (k : Nat) → f r = d) : cntF f c a k = if d = c then k else 0 := by
  unfold cntF
  split
  · rename_i e
    rw [List.countP_eq_length.2 (fun i hi => by
      rw [List.mem_range] at hi
      simp [h (a + (i : Nat)) (by omega) (by omega), e])]
    simp
  · rename_i e
    refine List.countP_eq_zero.2 fun i hi => ?_
    rw [List.mem_range] at hi
    simp [h (a + (i : Nat)) (by omega) (by omega), e]
theorem total_eq (f : Int → Int) (c : Int) : ∀ n, total f c n = cntF f c 0 (128 * n)
  | 0 => by simp [total, cntF]
  | n + 1 => by
    rw [total, total_eq f c n, show 128 * (n + 1) = 128 * n + 128 from by omega, cntF_add]
    congr 1
    unfold cntB cntF blkOf
    rw [List.countP_map]
    refine List.countP_congr fun i _ => ?_
    simp only [Function.comp_apply]
    rw [show ((128 * n + i : Nat) : Int) = 0 + ((128 * n : Nat) : Int) + (i : Nat) from by omega]
/-- The numbers of a class, of runs. -/
def sumR (c : Int) : List Rng → Nat
  | [] => 0
  | x :: t => (if x.cl = c then (x.hi - x.lo + 1).toNat else 0) + sumR c t
theorem RunsFrom.cnt {f : Int → Int} (c : Int) : ∀ {l : List Rng} {s e : Int}, RunsFrom f s e l → cntF f c s (e - s).toNat = sumR c l
  | [], s, e, h => by rw [RunsFrom] at h; subst h; simp [cntF, sumR]
  | x :: t, s, e, h => by
    obtain ⟨a1, a2, a3, a4, a5⟩ := h
    have hle := a5.le
    have ih := RunsFrom.cnt c a5
    rw [show (e - s).toNat = (x.hi - x.lo + 1).toNat + (e - (x.hi + 1)).toNat from by omega, cntF_add, show s + (((x.hi - x.lo + 1).toNat : Nat) : Int) = x.hi + 1 from by omega, ih, sumR]
    congr 1
    exact cntF_const (d := x.cl) fun r h1 h2 => a3 r (by omega) (by omega)
theorem total_runs {f : Int → Int} {l : List Rng} (h : RunsFrom f 0 1114112 l) (c : Int) : total f c 8704 = sumR c l := by
  rw [total_eq]
  exact h.cnt c
/-- The example. -/
def lv : List Rng := [⟨768, 879, 2⟩, ⟨97, 122, 1⟩]
def lvR : List Rng := [⟨0, 96, 0⟩, ⟨97, 122, 1⟩, ⟨123, 767, 0⟩, ⟨768, 879, 2⟩, ⟨880, 1114111, 0⟩]
theorem lv_cls (r : Int) : clsOf lv 0 r = if 768 ≤ r ∧ r ≤ 879 then 2 else if 97 ≤ r ∧ r ≤ 122 then 1 else 0 := rfl
theorem lv_runs : RunsFrom (clsOf lv 0) 0 1114112 lvR := by
  refine ⟨rfl, by decide, fun r h1 h2 => ?_, by simp, rfl, by decide, fun r h1 h2 => ?_, by simp, rfl, by decide, fun r h1 h2 => ?_, by simp, rfl, by decide, fun r h1 h2 => ?_, by simp, rfl, by decide, fun r h1 h2 => ?_, by simp, rfl⟩ <;>
  · simp only at h1 h2
    rw [lv_cls]
    split
    · first | rfl | (exfalso; omega)
    · split
      · first | rfl | (exfalso; omega)
      · first | rfl | (exfalso; omega)
theorem lv_check : checkOf lv 0 = (0, 0) := by decide
theorem lv_count {W : World} {T : Nat} {U : List (List Int)} {ix : List Nat} {ob oc ub uc : Nat} (h : Tab W T 0 (clsOf lv 0) U ix ob oc ub uc) : U.length = 3 := by
  have hc : ∀ n, n ≠ 0 → n ≠ 6 → blkOf (clsOf lv 0) n = List.replicate 128 0 := fun n h0 h6 => blkOf_const fun i hi => by
    rw [lv_cls, if_neg (by omega), if_neg (by omega)]
  refine h.blocks (S := [blkOf (clsOf lv 0) 0, blkOf (clsOf lv 0) 6, List.replicate 128 0]) (by decide) (fun n hn => ?_) (fun b hb => ?_)
  · by_cases h0 : n = 0
    · subst h0; simp
    · by_cases h6 : n = 6
      · subst h6; simp
      · rw [hc n h0 h6]; simp
  · simp only [List.mem_cons, List.not_mem_nil, or_false] at hb
    rcases hb with rfl | rfl | rfl
    · exact ⟨0, by omega, rfl⟩
    · exact ⟨6, by omega, rfl⟩
    · exact ⟨1, by omega, (hc 1 (by omega) (by omega)).symm⟩
theorem lv_bytes : bytesOf 0 (lvR.filter (fun x => !(x.cl == 0))) = [0, 2, 97, 25, 1, 133, 5, 111, 2] := by
  have e : lvR.filter (fun x => !(x.cl == 0)) = [⟨97, 122, 1⟩, ⟨768, 879, 2⟩] := rfl
  rw [e, bytesOf]
  simp only [rgB, List.length_cons, List.length_nil]
  rw [numB_small (by decide), numB_small (by decide), numB_small (by decide), numB_great (by decide), numB_small (by decide), numB_small (by decide)]
  decide
theorem lv_load : loadOf [0, 2, 97, 25, 1, 133, 5, 111, 2] = some ([⟨97, 122, 1⟩, ⟨768, 879, 2⟩], 0) := by kernel_rfl
theorem lv_cls2 : clsOf [⟨97, 122, 1⟩, ⟨768, 879, 2⟩] 0 = clsOf lv 0 := by
  funext r
  rw [lv_cls]
  show (if 97 ≤ r ∧ r ≤ 122 then (1 : Int) else if 768 ≤ r ∧ r ≤ 879 then 2 else 0) = _
  split
  · rw [if_neg (by omega)]
  · rfl
theorem lv_loads {w' : World} {e : Ending} (h : tellsB [0, 2, 97, 25, 1, 133, 5, 111, 2] w' e) : ∃ T, e = .returned (.tuple #[T, .int .i64 0]) ∧ IsTb w' T 0 (clsOf lv 0) := by
  rcases h with ⟨_, (h | ⟨l, L, hl, _, hr, hb⟩)⟩ | ⟨T, l, L, rfl, hl, _, hr, hb, ht⟩
  · rw [lv_load] at h; cases h
  · rw [lv_load] at hl
    cases hl
    simp only [List.headD_cons] at hr hb
    rw [lv_cls2] at hr
    obtain rfl := hr.unique lv_runs
    exact absurd lv_bytes hb
  · rw [lv_load] at hl
    cases hl
    simp only [List.headD_cons] at ht
    rw [lv_cls2] at ht
    exact ⟨T, rfl, ht⟩
end Go.Proofs.Ytbbemipidkhmfaa
