/-
  The small functions of the tables.
-/
import Derived.Test.YteokfknkcbmigaaGreatDoorWalkE
namespace Go.Proofs.YteokfknkcbmigaaGreatDoor
open Go.RowKit Go.Rp Go.Shelf Go.Maps

theorem NTab.ext {n : Nat} {W W' : World} {tB : Nat} (h : NTab n W tB) (hx : Ext W W') : NTab n W' tB := by
  obtain ⟨mA, mK, jB, sB, kvA, kvK, kvJ, S, v, h1, h2, h3, ⟨h4, h5⟩, ⟨h6, h7⟩, h8⟩ := h.ex
  exact ⟨mA, mK, jB, sB, kvA, kvK, kvJ, S, v, hx.blk h1, h2.ext hx, h3.ext hx, ⟨h4.ext hx, h5⟩, ⟨h6.ext hx, h7⟩, ownsRow_ext h8 hx⟩
set_option maxRecDepth 100000 in
theorem c_right (f : Int) (w : World) : Calls Tryz.prog 33 #[.int .i64 f] w fun e w' => e = .returned (.bool (decide (0 ≤ f ∧ f ≤ 3))) ∧ w' = w := by
  by_cases h1 : 0 ≤ f
  · have hd := decide_eq_true h1
    by_cases h2 : f ≤ 3
    · rw [decide_eq_true (And.intro h1 h2)]
      go_enter Tryz.func33, Tryz.ntmps33
      go_wp2_with fail
      go_ret
      exact ⟨rfl, rfl⟩
    · rw [decide_eq_false (fun h => h2 h.2)]
      go_enter Tryz.func33, Tryz.ntmps33
      go_wp2_with fail
      go_ret
      exact ⟨rfl, rfl⟩
  · rw [decide_eq_false (fun h => h1 h.1)]
    go_enter Tryz.func33, Tryz.ntmps33
    go_wp2_with fail
    go_ret
    exact ⟨rfl, rfl⟩
set_option maxRecDepth 100000 in
theorem c_loose (f : Int) (w : World) : Calls Tryz.prog 71 #[.int .i64 f] w fun e w' => e = .returned (.bool (decide (f = 2 ∨ f = 3))) ∧ w' = w := by
  by_cases h1 : f = 2
  · rw [decide_eq_true (Or.inl h1)]
    go_enter Tryz.func71, Tryz.ntmps71
    go_wp2_with fail
    go_ret
    exact ⟨rfl, rfl⟩
  · by_cases h2 : f = 3
    · rw [decide_eq_true (Or.inr h2)]
      go_enter Tryz.func71, Tryz.ntmps71
      go_wp2_with fail
      go_ret
      exact ⟨rfl, rfl⟩
    · rw [decide_eq_false (fun h => h.elim h1 h2)]
      have e2 : (f == 3) = false := by simpa using h2
      have e1 : (f == 2) = false := by simpa using h1
      go_enter Tryz.func71, Tryz.ntmps71
      go_wp2_with fail
      go_ret
      exact ⟨rfl, rfl⟩
set_option maxRecDepth 100000 in
theorem c_joining (f : Int) (w : World) : Calls Tryz.prog 55 #[.int .i64 f] w fun e w' => e = .returned (.bool (decide (f = 1 ∨ f = 3))) ∧ w' = w := by
  by_cases h1 : f = 1
  · rw [decide_eq_true (Or.inl h1)]
    go_enter Tryz.func55, Tryz.ntmps55
    go_wp2_with fail
    go_ret
    exact ⟨rfl, rfl⟩
  · by_cases h2 : f = 3
    · rw [decide_eq_true (Or.inr h2)]
      go_enter Tryz.func55, Tryz.ntmps55
      go_wp2_with fail
      go_ret
      exact ⟨rfl, rfl⟩
    · rw [decide_eq_false (fun h => h.elim h1 h2)]
      have e2 : (f == 3) = false := by simpa using h2
      have e1 : (f == 1) = false := by simpa using h1
      go_enter Tryz.func55, Tryz.ntmps55
      go_wp2_with fail
      go_ret
      exact ⟨rfl, rfl⟩
/-- The order of a rune, by a list of spans. -/
def ordE : List (Int × Int × Int) → Int → Int
  | [], _ => 0
  | x :: t, r => if x.1 ≤ r ∧ r ≤ x.2.1 then x.2.2 else ordE t r
theorem ordE_drop {l : List (Int × Int × Int)} {r : Int} {i : Nat} (h : i < l.length) : ordE (l.drop i) r = if l[i].1 ≤ r ∧ r ≤ l[i].2.1 then l[i].2.2 else ordE (l.drop (i + 1)) r := by
  rw [List.drop_eq_getElem_cons h]
  rfl
theorem spanCells_get (l : List (Int × Int × Int)) : ∀ (i : Nat) (h : i < l.length), (spanCells l)[i * 3]? = some (.int .i32 l[i].1) ∧ (spanCells l)[i * 3 + 1]? = some (.int .i32 l[i].2.1) ∧ (spanCells l)[i * 3 + 2]? = some (.int .i64 l[i].2.2) := by
  induction l with
  | nil => intro i h; simp at h
  | cons x t ih =>
    intro i h
    cases i with
    | zero => simp [spanCells, spanV]
    | succ i =>
      have e : spanCells (x :: t) = spanV x ++ spanCells t := rfl
      have hl : (spanV x).length = 3 := rfl
      obtain ⟨h1, h2, h3⟩ := ih i (by simpa using h)
      rw [e]
      refine ⟨?_, ?_, ?_⟩
      · rw [List.getElem?_append_right (by omega), hl, show (i + 1) * 3 - 3 = i * 3 by omega]; simpa using h1
      · rw [List.getElem?_append_right (by omega), hl, show (i + 1) * 3 + 1 - 3 = i * 3 + 1 by omega]; simpa using h2
      · rw [List.getElem?_append_right (by omega), hl, show (i + 1) * 3 + 2 - 3 = i * 3 + 2 by omega]; simpa using h3
noncomputable def odT (r : Int) : Int := ordE (linesO.map ordOf) r
set_option maxRecDepth 100000 in
set_option maxHeartbeats 2000000 in
theorem c_order (n tB : Nat) (r : Int) (w : World) (ht : NTab n w tB) : Calls Tryz.prog 47 #[.pointer (some ⟨tB, 0, none⟩), .int .i32 r] w fun e w' => e = .returned (.int .i64 (odT r)) ∧ Ext w w' := by
  obtain ⟨mA, mK, jB, sB, kvA, kvK, kvJ, S, v, h1, -, -, -, -, h8⟩ := ht.ex
  have y3 : w.cell? ⟨tB, 3, none⟩ = some v := (cell_blk h1 3).trans rfl
  obtain ⟨L, hL⟩ : ∃ L, linesO.map ordOf = L := ⟨_, rfl⟩
  have hll : linesO.length = L.length := by rw [← hL, List.length_map]
  unfold odT
  rw [hL] at h8 ⊢
  rw [hll] at h8
  obtain ⟨p, cap, rfl⟩ := own_slice h8
  have hlen : L.length ≤ 1000 := by rw [← hll]; decide +kernel
  clear h1 ht hll
  have HL := Lib.hid hL
  clear hL
  go_enter Tryz.func47, Tryz.ntmps47
  go_wp2_with fail
  go_loopw [12] (fun iv W => Ext w W ∧ ∃ i : Nat, iv = .int .i64 (i : Nat) ∧ i ≤ L.length ∧ ordE L r = ordE (L.drop i) r) (fun iv _ => L.length + 1 - (intOf iv).toNat)
  case atStart => exact ⟨Ext.refl _, 0, rfl, by omega, rfl⟩
  case round =>
    obtain ⟨hx, i, rfl, hi, he⟩ := hrel
    by_cases hlt : i < L.length
    · have hlI : ((i : Nat) : Int) < (L.length : Nat) := by omega
      have hd : decide (i < L.length) = true := decide_eq_true hlt
      obtain ⟨g, hpe, _, _, hgc⟩ := own_at h8 (by omega)
      subst hpe
      obtain ⟨a0, a1, a2⟩ := spanCells_get L i hlt
      have c0 := hx.cell ((hgc (i * 3) (by omega)).trans a0)
      have c1 := hx.cell ((hgc (i * 3 + 1) (by omega)).trans a1)
      have c2 := hx.cell ((hgc (i * 3 + 2) (by omega)).trans a2)
      clear a0 a1 a2 hgc
      rw [ordE_drop hlt] at he
      obtain ⟨x, hx0⟩ : ∃ x, L[i] = x := ⟨_, rfl⟩
      rw [hx0] at c0 c1 c2 he
      obtain ⟨x1, x2, x3⟩ := x
      simp only at c0 c1 c2 he
      clear hx0
      have hxn := hx.alloc (.cells #[.int .i32 x1, .int .i32 x2, .int .i64 x3] 95)
      by_cases hA : x1 ≤ r
      · by_cases hB : r ≤ x2
        · rw [if_pos ⟨hA, hB⟩] at he
          have HE := Lib.hid he
          have hdB := decide_eq_true hB
          clear he
          go_wp2_with fail
          go_ret
          rw [HE.out]
          exact ⟨rfl, hxn⟩
        · rw [if_neg (fun h => hB h.2)] at he
          have HE := Lib.hid he
          have hdB := decide_eq_false hB
          clear he
          go_wp2_with fail
          exact ⟨⟨hxn, i + 1, by simp, by omega, HE.out⟩, by simp [intOf]; omega⟩
      · rw [if_neg (fun h => hA h.1)] at he
        have HE := Lib.hid he
        clear he
        go_wp2_with fail
        exact ⟨⟨hxn, i + 1, by simp, by omega, HE.out⟩, by simp [intOf]; omega⟩
    · have hd : decide (i < L.length) = false := decide_eq_false hlt
      rw [List.drop_of_length_le (by omega)] at he
      have HE := Lib.hid he
      clear he
      go_wp2_with fail
      go_ret
      rw [HE.out]
      exact ⟨rfl, hx⟩
end Go.Proofs.YteokfknkcbmigaaGreatDoor
