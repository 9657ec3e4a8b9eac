/-
  What two runes join to, whatever the runes; a syllable's parts; how many bytes a rune has.
-/
import Derived.Test.YteokfknkcbmigaaGreatDoorLiveM
import Derived.Laws.Runes
namespace Go.Proofs.YteokfknkcbmigaaGreatDoor
open Go.RowKit Go.Rp Go.Shelf Go.Maps Go.Nm

theorem keyPrZ (x : Int × Int) (h1 : -2147483648 ≤ x.1 ∧ x.1 ≤ 2147483647) (h2 : -2147483648 ≤ x.2 ∧ x.2 ≤ 2147483647) : ∃ k, keyOf Tryz.prog 89 (pairV x) = some k := by
  have hkt : Tryz.prog.keyType 89 = true := by kernel_rfl
  obtain ⟨m, hm⟩ : ∃ m, Tryz.prog.types.size = m + 1 + 1 := ⟨Tryz.prog.types.size - 2, by kernel_rfl⟩
  have hu := Tryz.underlying89
  have hu3 : Tryz.prog.underlying 21 = some (.int .i32) := Tryz.underlying21
  have w1 : (Lit.int .i32 x.1).wf = true := by simp [Lit.wf, IntKind.min, IntKind.max, IntKind.bits, IntKind.signed]; omega
  have w2 : (Lit.int .i32 x.2).wf = true := by simp [Lit.wf, IntKind.min, IntKind.max, IntKind.bits, IntKind.signed]; omega
  unfold keyOf
  simp only [hu]
  rw [if_pos (by simp [hkt, Value.formed, hu, cellsPr]), hm]
  unfold Program.keyLits
  simp [hu, Value.cells, cellsPr, Program.keyLits, hu3, w1, w2, cellsI32]
theorem joins_lookZ {W : World} {m : Nat} {kvJ : List (Value × Value)} (h : MapIs W m kvJ) {Q : List ((Int × Int) × Int)} (hQ : kvJ = Q.map encJ) (hm : ∀ q, q ∈ Q ↔ q ∈ joinsT) {a b : Int} (ha : -2147483648 ≤ a ∧ a ≤ 2147483647) (hb : -2147483648 ≤ b ∧ b ≤ 2147483647) :
    (Instr.lookup 80 (.map (some m)) (pairV (a, b)) true).run Tryz.prog W = .ok (.tuple #[.int .i32 ((jnL a b).getD 0), .bool (jnL a b).isSome]) W := by
  subst hQ
  have hz := Tryz.zeroValue21
  have hk : ∀ p ∈ Q.map encJ, ∃ l, keyOf Tryz.prog 89 p.1 = some l := by
    intro p hp
    obtain ⟨q, hq, rfl⟩ := List.mem_map.1 hp
    obtain ⟨e, he, hj⟩ := List.mem_filterMap.1 ((hm q).1 hq)
    have hg := goodEA.1 e he
    obtain ⟨r, es⟩ := e
    match es, hj, hg with
    | [x, y], hj, hg =>
      simp only [jnE] at hj
      split at hj
      · cases hj
      · cases hj
        exact keyPr (x, y) ⟨by have := hg.2 x (by simp); omega, by have := hg.2 y (by simp); omega⟩
    | [], hj, _ => cases hj
    | [x], hj, _ => cases hj
    | x :: y :: z :: t, hj, _ => cases hj
  obtain ⟨lx, hx⟩ := keyPrZ (a, b) ha hb
  cases hj : jnL a b with
  | some r =>
    have := (hm _).2 (jnL_some.1 hj)
    have hr := h.there keyedP Tryz.underlying80 hk hx (fun W => hz W) (v := .int .i32 r) (List.mem_map.2 ⟨_, this, rfl⟩) (fun v' hv' => by
      obtain ⟨q, hq, e⟩ := List.mem_map.1 hv'
      obtain ⟨⟨x, y⟩, r'⟩ := q
      simp only [encJ, Prod.mk.injEq] at e
      have e1 := pairV_inj e.1
      simp only [Prod.mk.injEq] at e1
      obtain ⟨rfl, rfl⟩ := e1
      have := jnL_some.2 ((hm _).1 hq)
      rw [hj] at this
      cases this
      exact e.2.symm) true
    simpa using hr
  | none =>
    have hr := h.none keyedP Tryz.underlying80 hk hx (fun W => hz W) (fun p hp e => by
      obtain ⟨q, hq, rfl⟩ := List.mem_map.1 hp
      obtain ⟨⟨x, y⟩, r'⟩ := q
      have e1 := pairV_inj e
      simp only [Prod.mk.injEq] at e1
      obtain ⟨rfl, rfl⟩ := e1
      have := jnL_some.2 ((hm _).1 hq)
      rw [hj] at this
      cases this) true
    simpa using hr
set_option maxRecDepth 100000 in
set_option maxHeartbeats 4000000 in
theorem c_joinZ (nb tB : Nat) (a b : Int) (w : World) (ht : NTab nb w tB) (ha : -2147483648 ≤ a ∧ a ≤ 2147483647) (hb : -2147483648 ≤ b ∧ b ≤ 2147483647) :
    Calls Tryz.prog 44 #[.pointer (some ⟨tB, 0, none⟩), .int .i32 a, .int .i32 b] w fun e w' => e = .returned (.tuple #[.int .i32 ((jnT a b).getD 0), .bool (jnT a b).isSome]) ∧ Ext w w' := by
  obtain ⟨mA, mK, jB, sB, kvA, kvK, kvJ, S, v, hbk, -, -, ⟨hJ, Q, hQ, hm⟩, -, -⟩ := ht.ex
  have y2 : w.cell? ⟨tB, 2, none⟩ = some (.map (some jB)) := (cell_blk hbk 2).trans rfl
  have hlk := joins_lookZ hJ hQ hm ha hb
  have HLK := Lib.hid hlk
  obtain ⟨ha0, ha1⟩ := ha
  obtain ⟨hb0, hb1⟩ := hb
  clear hbk hQ hm hJ ht
  obtain ⟨o, ho⟩ : ∃ o, jnT a b = o := ⟨_, rfl⟩
  have HO := Lib.hid ho
  rw [ho]
  clear ho
  go_enter Tryz.func44, Tryz.ntmps44
  go_wp2_with fail
  all_goals
    have h := HO.out
    unfold jnT at h
    clear hlk y2
    try simp only [decide_eq_true_eq, decide_eq_false_iff_not, beq_iff_eq, beq_eq_false_iff_ne, bne_iff_ne, ne_eq] at *
    first
      | (rw [if_pos (by omega)] at h; subst h; exact bodyPost_ret (v := .tuple #[.int .i32 (44032 + ((a - 4352) * 21 + b - 4449) * 28), .bool true]) (by simp [results, Tryz.results44, go_sem]) rfl ⟨rfl, Ext.refl _⟩)
      | (rw [if_neg (by omega), if_pos (by omega)] at h; subst h; exact bodyPost_ret (v := .tuple #[.int .i32 (a + b - 4519), .bool true]) (by simp [results, Tryz.results44, go_sem]) rfl ⟨rfl, Ext.refl _⟩)
      | (rw [if_neg (by omega), if_neg (by omega)] at h; subst h; exact bodyPost_ret (v := .tuple #[.int .i32 ((jnL a b).getD 0), .bool (jnL a b).isSome]) (by simp [results, Tryz.results44, go_sem]) rfl ⟨rfl, Ext.refl _⟩)
set_option maxRecDepth 100000 in
set_option maxHeartbeats 4000000 in
theorem c_JoinZ (a b : Int) (w : World) (hT : Tabs w) (ha : -2147483648 ≤ a ∧ a ≤ 2147483647) (hb : -2147483648 ≤ b ∧ b ≤ 2147483647) : Calls Tryz.prog 25 #[.int .i32 a, .int .i32 b] w fun e w' => e = .returned (.tuple #[.int .i32 ((jnT a b).getD 0), .bool (jnT a b).isSome]) ∧ Ext w w' := by
  have HAB := Lib.hid (And.intro ha hb)
  clear ha hb
  go_enter Tryz.func25, Tryz.ntmps25
  go_wp2_with fail
  refine (c_load w hT).mono ?_
  rintro e w2 ⟨tB, rfl, ht, hx⟩
  have HT := Lib.hid (And.intro ht hx)
  clear ht hx
  go_wp2_with fail
  refine (c_joinZ w.heap.size tB a b w2 HT.out.1 HAB.out.1 HAB.out.2).mono ?_
  rintro e w5 ⟨rfl, hx5⟩
  have HX5 := Lib.hid (HT.out.2.trans hx5)
  clear hx5
  obtain ⟨rj, hrj⟩ : ∃ rj, (jnT a b).getD 0 = rj := ⟨_, rfl⟩
  obtain ⟨oj, hoj⟩ : ∃ oj, (jnT a b).isSome = oj := ⟨_, rfl⟩
  have HRJ := Lib.hid (And.intro hrj hoj)
  rw [hrj, hoj]
  clear hrj hoj
  go_wp2_with fail
  exact ret_two rfl rfl rfl rfl ⟨by rw [HRJ.out.1, HRJ.out.2]; rfl, HX5.out⟩
set_option maxRecDepth 100000 in
set_option maxHeartbeats 4000000 in
/-- utf.Width of a syllable. -/
theorem c_WidthS (r : Int) (w : World) (h0 : 44032 ≤ r) (h1 : r ≤ 55203) : Calls Tryz.prog 45 #[.int .i32 r] w fun e w' => e = .returned (.int .i64 3) ∧ w' = w := by
  have hi : ∀ w, Calls Tryz.prog 68 #[.int .i32 r] w fun e w' => e = .returned (.bool true) ∧ w' = w := by
    intro w
    have h2 : r < 55296 := by omega
    have h3 : r ≤ 1114111 := by omega
    have h4 : 0 ≤ r := by omega
    have e3 := decide_eq_true h3
    have e2 := decide_eq_true h2
    go_enter Tryz.func68, Tryz.ntmps68
    go_wp2_with fail
    exact ret_one rfl rfl rfl ⟨rfl, rfl⟩
  have hl : ∀ w, Calls Tryz.prog 69 #[.int .i32 r] w fun e w' => e = .returned (.int .i64 3) ∧ w' = w := by
    intro w
    have g1 : ¬ r < 0 := by omega
    have g2 : ¬ r ≤ 127 := by omega
    have g3 : ¬ r ≤ 2047 := by omega
    have g4 : ¬ 55296 ≤ r := by omega
    have g5 : r ≤ 65535 := by omega
    go_enter Tryz.func69, Tryz.ntmps69
    go_wp2_with fail
    exact ret_one rfl rfl rfl ⟨rfl, rfl⟩
  go_enter Tryz.func45, Tryz.ntmps45
  go_wp2_with fail
  refine (hi _).mono ?_
  rintro e w2 ⟨rfl, e2⟩
  obtain rfl := e2.symm
  clear e2
  go_wp2_with fail
  refine (hl _).mono ?_
  rintro e w2 ⟨rfl, e2⟩
  obtain rfl := e2.symm
  clear e2
  go_wp2_with fail
  exact ret_one rfl rfl rfl ⟨rfl, rfl⟩
set_option maxRecDepth 100000 in
set_option maxHeartbeats 4000000 in
/-- norm.Apart of a syllable: how many runes. -/
theorem c_ApartS (r : Int) (w : World) (hT : Tabs w) (h0 : 44032 ≤ r) (h1 : r ≤ 55203) : Calls Tryz.prog 26 #[.int .i32 r, .int .i64 0] w fun e w' => ∃ p c, e = .returned (.slice p (sylE r).length c) ∧ Ext w w' := by
  have HC := Lib.hid (show ∀ w, Calls Tryz.prog 33 #[.int .i64 0] w fun e w' => e = .returned (.bool true) ∧ w' = w from fun w => c_right 0 w)
  go_enter Tryz.func26, Tryz.ntmps26
  go_wp2_with fail
  refine (c_WidthS r w h0 h1).mono ?_
  rintro e w2 ⟨rfl, e2⟩
  obtain rfl := e2.symm
  clear e2
  go_wp2_with fail
  refine (HC.out w).mono ?_
  rintro e w3 ⟨rfl, e3⟩
  obtain rfl := e3.symm
  clear e3
  go_wp2_with fail
  refine (c_load w hT).mono ?_
  rintro e w2 ⟨tB, rfl, ht, hx⟩
  have HT := Lib.hid (And.intro ht hx)
  clear ht hx
  go_wp2_with fail
  refine (c_fallT w.heap.size tB 0 r w2 (by omega) (by omega) HT.out.1).mono ?_
  rintro e w5 ⟨v, rfl, hrow, hx5⟩
  have hf : faT (decide ((0 : Int) = 2 ∨ (0 : Int) = 3)) r = sylE r := by
    rw [show (decide ((0 : Int) = 2 ∨ (0 : Int) = 3)) = false by decide]
    exact faT_syl false ⟨h0, h1⟩
  rw [hf] at hrow
  obtain ⟨p, c, rfl⟩ := own_slice hrow
  have HX5 := Lib.hid (HT.out.2.trans hx5)
  clear hrow hx5 hf
  go_wp2_with fail
  go_ret
  exact ⟨_, _, rfl, HX5.out⟩
end Go.Proofs.YteokfknkcbmigaaGreatDoor
