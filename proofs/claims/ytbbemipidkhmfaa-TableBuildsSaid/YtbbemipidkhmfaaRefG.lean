/-
  The document's Count.
-/
import Derived.Test.YtbbemipidkhmfaaRefF
namespace Go.Proofs.Ytbbemipidkhmfaa
open Go.RowKit Go.Maps Go.Shelf

theorem sumR_append (c : Int) : ∀ a b : List Rng, sumR c (a ++ b) = sumR c a + sumR c b
  | [], b => by simp [sumR]
  | x :: a, b => by rw [List.cons_append, sumR, sumR, sumR_append c a b]; omega
theorem sumR_take {c : Int} {R : List Rng} {i : Nat} {x : Rng} (hi : i < R.length) (hx : R[i] = x) : sumR c (R.take (i + 1)) = sumR c (R.take i) + (if x.cl = c then (x.hi - x.lo + 1).toNat else 0) := by
  rw [List.take_succ_eq_append_getElem hi, hx, sumR_append]
  rfl
theorem sumR_le {f : Int → Int} {R : List Rng} (h : RunsFrom f 0 1114112 R) (c : Int) (i : Nat) : sumR c (R.take i) ≤ 1114112 := by
  have h1 : sumR c R ≤ 1114112 := by
    rw [← h.cnt c]
    unfold cntF
    refine Nat.le_trans List.countP_le_length ?_
    simp
  have h2 : sumR c R = sumR c (R.take i) + sumR c (R.drop i) := by rw [← sumR_append, List.take_append_drop]
  omega

set_option maxRecDepth 100000 in
set_option maxHeartbeats 8000000 in
theorem c_RCount {n : Nat} {v : Value} {rest : Int} {L : List Rng} (c : Int) (w : World) (h : IsRef n w v rest L) (hl : L.length ≤ 2000000) :
    Calls Try.prog 22 #[v, .int .i64 c] w fun e w' => e = .returned (.int .i64 (sumR c (allGo rest 0 L) : Nat)) ∧ Ext w w' := by
  have hnf : NF rest L := by obtain ⟨_, _, _, _, _, _, hnf, _⟩ := h; exact hnf
  have hv : ∃ Y, v = .pointer (some ⟨Y, 0, none⟩) := by obtain ⟨Y, _, e, _⟩ := h; exact ⟨Y, e⟩
  obtain ⟨Y, rfl⟩ := hv
  obtain ⟨R, hR⟩ : ∃ R, allGo rest 0 L = R := ⟨_, rfl⟩
  have hrun := hnf.all.1
  rw [hR] at hrun
  have HR := Lib.hid hR
  have HRUN := Lib.hid hrun
  have hRl := hrun.le
  rw [hR]
  clear hnf hR hrun
  go_enter Try.func22, Try.ntmps22
  go_wp2_with fail
  refine (c_All w h hl).mono ?_
  rintro e w1 ⟨v1, rfl, hrow, hx1⟩
  rw [HR.out] at hrow
  have hrg := RgRow.of_own hrow
  obtain ⟨p, cap, rfl⟩ := own_slice hrow
  clear hrow
  go_wp2_with fail
  go_loopw [6, 7] (fun nv k W => ∃ (i : Nat), k = .int .i64 (i : Nat) ∧ i ≤ R.length ∧ nv = .int .i64 (sumR c (R.take i) : Nat) ∧ Ext w1 W) (fun _ k _ => R.length + 1 - (intOf k).toNat)
  case atStart => exact ⟨0, rfl, by omega, by simp [sumR], Ext.refl _⟩
  case round =>
    obtain ⟨i, rfl, hi, rfl, hx⟩ := hrel
    by_cases hlt : i < R.length
    · obtain ⟨b1, o1, rfl, hc1⟩ := (hrg.mono hx).at (by intro e; rw [e] at hlt; simp at hlt)
      obtain ⟨a1, a2, a3⟩ := hc1 i hlt
      have hval := HRUN.out.val _ (List.getElem_mem hlt)
      obtain ⟨x, hxe⟩ : ∃ x, R[i] = x := ⟨_, rfl⟩
      have hst := sumR_take (c := c) hlt hxe
      have hb1 := sumR_le HRUN.out c (i + 1)
      rw [hst] at hb1
      rw [hxe] at a1 a2 a3 hval
      obtain ⟨v1, v2, v3, -⟩ := hval
      have HST := Lib.hid hst
      have hd : decide (i < R.length) = true := decide_eq_true hlt
      have j1 : ((i : Nat) : Int) < (R.length : Nat) := by omega
      obtain ⟨t, ht⟩ : ∃ t, sumR c (R.take i) = t := ⟨_, rfl⟩
      have HT := Lib.hid ht
      rw [ht] at hb1 ⊢
      have k1 : ∀ w', EOn (fun _ => True) wr w' → w'.cell? ⟨b1, o1 + i * 3, none⟩ = _ := fun w' hx => hx.cell trivial a1
      have k2 : ∀ w', EOn (fun _ => True) wr w' → w'.cell? ⟨b1, o1 + i * 3 + 1, none⟩ = _ := fun w' hx => hx.cell trivial a2
      clear hc1 hxe hst ht
      by_cases hc : x.cl = c
      · have hcb : (x.cl == c) = true := beq_iff_eq.2 hc
        rw [if_pos hc] at hb1
        have hb2 : (t : Int) + (x.hi - x.lo) + 1 ≤ 1114112 := by omega
        have HC := Lib.hid hc
        clear hc hb1
        go_wp2_with fail
        refine wp_lex (fun _ => True) [true, true, true, true, true, true, true, true, true, true, true, true, true, true, true] (by kernel_rfl) (by kernel_rfl) ?_
        repeat first
          | refine wpG_move (by rfl) (by simp only [Act.eval, Array.getD_eq_getD_getElem?, List.getElem?_toArray, List.getElem?_cons_succ, List.getElem?_cons_zero, Option.getD_some]; try rfl) (by simp only [Act.put, List.setIfInBounds_toArray, List.set_cons_succ, List.set_cons_zero]; rfl) ?_
          | refine wpG_assign (by rfl) (by simp only [Act.eval, Array.getD_eq_getD_getElem?, List.getElem?_toArray, List.getElem?_cons_succ, List.getElem?_cons_zero, Option.getD_some]; try rfl) (by simp only [Act.put, List.setIfInBounds_toArray, List.set_cons_succ, List.set_cons_zero]; rfl) ?_
          | refine wpG_val (by rfl) (fun w' hx => (by go_simp; first | (go_bits; first | exact rfl | exact ⟨by omega, rfl⟩) | exact rfl | exact (if_neg (by omega)).trans rfl | exact ⟨by omega, rfl⟩)) (by simp only [Act.put, List.setIfInBounds_toArray, List.set_cons_succ, List.set_cons_zero]; rfl) ?_
          | refine wpG_no (by rfl) (by simp only [Act.put, List.setIfInBounds_toArray, List.set_cons_succ, List.set_cons_zero]; rfl) ?_
        refine wpG_end (fun w5 hx5 => ?_)
        go_wp2_with fail
        refine gQ_normal ?_
        go_wp2_with fail
        replace hx := Ext.trans hx hx5
        go_roundw
        case rel => exact ⟨i + 1, by simp, by omega, by rw [HST.out, HT.out, if_pos HC.out]; congr 1; omega, hx⟩
        case measure => simp [intOf]; omega
      · have hcb : (x.cl == c) = false := beq_false_of_ne hc
        have HC := Lib.hid hc
        clear hc hb1
        go_wp2_with fail
        go_roundw
        case rel => exact ⟨i + 1, by simp, by omega, by rw [HST.out, HT.out, if_neg HC.out]; simp, hx⟩
        case measure => simp [intOf]; omega
    · have hd : decide (i < R.length) = false := decide_eq_false hlt
      obtain rfl : i = R.length := by omega
      rw [List.take_length]
      go_wp2_with fail
      go_ret
      exact ⟨rfl, Ext.trans hx1 hx⟩
end Go.Proofs.Ytbbemipidkhmfaa
