/-
  The document's Get, All, Count.
-/
import Derived.Test.YtbbemipidkhmfaaRefD
namespace Go.Proofs.Ytbbemipidkhmfaa
open Go.RowKit Go.Maps Go.Shelf

theorem clsOf_first {L : List Rng} {rest r : Int} {i : Nat} (hi : i < L.length) (hno : ∀ q (a : q < L.length), q < i → ¬ (L[q].lo ≤ r ∧ r ≤ L[q].hi)) (h : L[i].lo ≤ r ∧ r ≤ L[i].hi) : clsOf L rest r = L[i].cl := by
  have e : L = L.take i ++ L[i] :: L.drop (i + 1) := by rw [← List.drop_eq_getElem_cons hi, List.take_append_drop]
  conv => lhs; rw [e]
  rw [clsOf_none_app, clsOf, if_pos h]
  intro x hx
  obtain ⟨q, hq, rfl⟩ := List.mem_iff_getElem.1 hx
  rw [List.length_take] at hq
  rw [List.getElem_take]
  exact hno q (by omega) (by omega)

set_option maxRecDepth 100000 in
set_option maxHeartbeats 8000000 in
theorem c_RGet {n : Nat} {v : Value} {rest : Int} {L : List Rng} (r : Int) (w : World) (h : IsRef n w v rest L) (hl : L.length ≤ 2000000) :
    Calls Try.prog 52 #[v, .int .i32 r] w fun e w' => e = .returned (.int .i64 (clsOf L rest r)) ∧ Ext w w' := by
  obtain ⟨Y, lv, rfl, hY, -, hrow, hnf, hr0⟩ := h
  have hrg := RgRow.of_own hrow
  obtain ⟨p, cap, rfl⟩ := own_slice hrow
  have HNF := Lib.hid hnf
  clear hrow hnf
  go_enter Try.func52, Try.ntmps52
  go_wp2_with fail
  go_loopw [5] (fun k W => ∃ i : Nat, k = .int .i64 (i : Nat) ∧ i ≤ L.length ∧ Hid (∀ q (a : q < L.length), q < i → ¬ (L[q].lo ≤ r ∧ r ≤ L[q].hi)) ∧ Ext w W) (fun k _ => L.length + 1 - (intOf k).toNat)
  case atStart => exact ⟨0, rfl, by omega, Lib.hid (fun q a h => by omega), Ext.refl _⟩
  case round =>
    obtain ⟨i, rfl, hi, hno, hx⟩ := hrel
    have hYb := hx.blk hY
    have q0 := cell_blk hYb 0
    have q1 := cell_blk hYb 1
    simp only [List.getElem?_toArray, List.getElem?_cons_succ, List.getElem?_cons_zero] at q0 q1
    have k0 : ∀ w', EOn (fun _ => True) wr w' → w'.cell? ⟨Y, 0, none⟩ = _ := fun w' hx => hx.cell trivial q0
    by_cases hlt : i < L.length
    · obtain ⟨b1, o1, rfl, hc1⟩ := (hrg.mono hx).at (by intro e; rw [e] at hlt; simp at hlt)
      obtain ⟨a1, a2, a3⟩ := hc1 i hlt
      obtain ⟨x, hxe⟩ : ∃ x, L[i] = x := ⟨_, rfl⟩
      rw [hxe] at a1 a2 a3
      have HXE := Lib.hid hxe
      have hd : decide (i < L.length) = true := decide_eq_true hlt
      have j1 : ((i : Nat) : Int) < (L.length : Nat) := by omega
      have k1 : ∀ w', EOn (fun _ => True) wr w' → w'.cell? ⟨b1, o1 + i * 3, none⟩ = _ := fun w' hx => hx.cell trivial a1
      have k2 : ∀ w', EOn (fun _ => True) wr w' → w'.cell? ⟨b1, o1 + i * 3 + 1, none⟩ = _ := fun w' hx => hx.cell trivial a2
      have k3 : ∀ w', EOn (fun _ => True) wr w' → w'.cell? ⟨b1, o1 + i * 3 + 2, none⟩ = _ := fun w' hx => hx.cell trivial a3
      clear hxe hc1 hYb
      by_cases t1 : x.lo ≤ r
      · have ht1 : decide (x.lo ≤ r) = true := decide_eq_true t1
        by_cases t2 : r ≤ x.hi
        · have ht2 : decide (r ≤ x.hi) = true := decide_eq_true t2
          have hcl := Lib.hid (clsOf_first (rest := rest) hlt hno.out (by rw [HXE.out]; exact ⟨t1, t2⟩))
          go_wp2_with fail
          go_ret
          exact ⟨by rw [hcl.out, HXE.out]; rfl, hx⟩
        · have ht2 : decide (r ≤ x.hi) = false := decide_eq_false t2
          have hn := Lib.hid (show ∀ q (a : q < L.length), q < i + 1 → ¬ (L[q].lo ≤ r ∧ r ≤ L[q].hi) from fun q a hq => by
            rcases Nat.lt_succ_iff_lt_or_eq.1 hq with hq | hq
            · exact hno.out q a hq
            · subst hq
              rw [HXE.out]
              omega)
          go_wp2_with fail
          go_roundw
          case rel => exact ⟨i + 1, by simp, by omega, hn, hx⟩
          case measure => simp [intOf]; omega
      · have ht1 : decide (x.lo ≤ r) = false := decide_eq_false t1
        have hn := Lib.hid (show ∀ q (a : q < L.length), q < i + 1 → ¬ (L[q].lo ≤ r ∧ r ≤ L[q].hi) from fun q a hq => by
          rcases Nat.lt_succ_iff_lt_or_eq.1 hq with hq | hq
          · exact hno.out q a hq
          · subst hq
            rw [HXE.out]
            omega)
        go_wp2_with fail
        go_roundw
        case rel => exact ⟨i + 1, by simp, by omega, hn, hx⟩
        case measure => simp [intOf]; omega
    · have hd : decide (i < L.length) = false := decide_eq_false hlt
      have hcl := Lib.hid (show clsOf L rest r = rest from clsOf_none fun x hx => by
        obtain ⟨q, hq, rfl⟩ := List.mem_iff_getElem.1 hx
        exact hno.out q hq (by omega))
      go_wp2_with fail
      go_ret
      exact ⟨by rw [hcl.out]; rfl, hx⟩
end Go.Proofs.Ytbbemipidkhmfaa
