/-
  The document's Places: are two lists of numbers the same?
-/
import Derived.Test.YtbbemipidkhmfaaRefRun
namespace Go.Proofs.Ytbbemipidkhmfaa
open Go.RowKit Go.Maps

theorem IRow.of_own {k : IntKind} {w : World} {n₀ : Nat} {e : TypeId} {v : Value} {l : List Int} (h : w.ownsRow n₀ e 1 v l.length (nV k l)) : IRow k w v l := by
  by_cases hl : l = []
  · subst hl
    rcases h.2 with ⟨rfl, _⟩ | ⟨g, cap, cur, rfl, _⟩
    · exact ⟨_, _, rfl, Nat.zero_le _, fun h => absurd rfl h⟩
    · exact ⟨_, cap, rfl, Nat.zero_le _, fun h => absurd rfl h⟩
  · have hpos : 0 < l.length := List.length_pos_iff.2 hl
    have hcap : ∀ {g cap}, v = .slice (some ⟨g, 0, none⟩) l.length cap → l.length ≤ cap := by
      intro g cap e
      rcases h.2 with ⟨e2, h0⟩ | ⟨g', cap', cur, e2, _, _, h1, _⟩
      · omega
      · rw [e] at e2; cases e2; exact h1
    obtain ⟨g, cap, rfl⟩ := ownsRow_pos h hpos
    refine ⟨_, cap, rfl, hcap rfl, fun _ => ⟨g, 0, rfl, (h.lt g rfl).2, fun i hi => ?_⟩⟩
    rw [Nat.zero_add, h.cellAt i (by omega)]
    simp [nV, hi]

set_option maxRecDepth 100000 in
set_option maxHeartbeats 4000000 in
theorem c_Places (v1 v2 : Value) (l1 l2 : List Int) (bb : Bool) (w : World) (h1 : IRow .i64 w v1 l1) (h2 : IRow .i64 w v2 l2) (hb : bb = true ↔ l1 = l2) (hn : l1.length ≤ 1000000000) :
    Calls Try.prog 53 #[v1, v2] w fun e w' => e = .returned (.bool bb) ∧ Ext w w' := by
  obtain ⟨p1, cap1, rfl⟩ : ∃ p cap, v1 = .slice p l1.length cap := by obtain ⟨p, cap, e, _⟩ := h1; exact ⟨p, cap, e⟩
  obtain ⟨p2, cap2, rfl⟩ : ∃ p cap, v2 = .slice p l2.length cap := by obtain ⟨p, cap, e, _⟩ := h2; exact ⟨p, cap, e⟩
  by_cases hl : l1.length = l2.length
  · have hlb : (((l1.length : Nat) : Int) != ((l2.length : Nat) : Int)) = false := by rw [hl]; simp
    have HL := Lib.hid hl
    clear hl
    go_enter Try.func53, Try.ntmps53
    go_wp2_with fail
    go_loopw [5] (fun k w' => ∃ i : Nat, k = .int .i64 (i : Nat) ∧ i ≤ l1.length ∧ Hid (∀ j (a : j < l1.length) (b : j < l2.length), j < i → l1[j] = l2[j]) ∧ Ext w w') (fun k _ => l1.length + 1 - (intOf k).toNat)
    case atStart => exact ⟨0, rfl, by omega, Lib.hid (fun j _ _ h => by omega), Ext.refl w⟩
    case round =>
      obtain ⟨i, rfl, hi, hsame, hx⟩ := hrel
      by_cases hlt : i < l1.length
      · have hlt2 : i < l2.length := by have := HL.out; omega
        obtain ⟨b1, o1, rfl, hc1⟩ := (h1.mono hx).at (by intro e; rw [e] at hlt; simp at hlt)
        obtain ⟨b2, o2, rfl, hc2⟩ := (h2.mono hx).at (by intro e; rw [e] at hlt2; simp at hlt2)
        have a1 := hc1 i hlt
        have d1 := hc2 i hlt2
        obtain ⟨x, hxe⟩ : ∃ x, l1[i] = x := ⟨_, rfl⟩
        obtain ⟨y, hye⟩ : ∃ y, l2[i] = y := ⟨_, rfl⟩
        rw [hxe] at a1
        rw [hye] at d1
        have hd : decide (i < l1.length) = true := decide_eq_true hlt
        have i1 : ((i : Nat) : Int) < (l1.length : Nat) := by omega
        have i2 : ((i : Nat) : Int) < (l2.length : Nat) := by omega
        have HXE := Lib.hid hxe
        have HYE := Lib.hid hye
        have k1 : ∀ w', EOn (fun _ => True) wr w' → w'.cell? ⟨b1, o1 + i, none⟩ = _ := fun w' hx => hx.cell trivial a1
        have k2 : ∀ w', EOn (fun _ => True) wr w' → w'.cell? ⟨b2, o2 + i, none⟩ = _ := fun w' hx => hx.cell trivial d1
        clear hxe hye hc1 hc2 a1 d1
        go_wp2_with fail
        refine wp_lex (fun _ => True) [true, true, true, true, true, true, true, true, true] (by kernel_rfl) (by kernel_rfl) ?_
        repeat first
          | refine wpG_move (by rfl) (by simp only [Act.eval, Array.getD_eq_getD_getElem?, List.getElem?_toArray, List.getElem?_cons_succ, List.getElem?_cons_zero, Option.getD_some]; try rfl) (by simp only [Act.put, List.setIfInBounds_toArray, List.set_cons_succ, List.set_cons_zero]; rfl) ?_
          | refine wpG_assign (by rfl) (by simp only [Act.eval, Array.getD_eq_getD_getElem?, List.getElem?_toArray, List.getElem?_cons_succ, List.getElem?_cons_zero, Option.getD_some]; try rfl) (by simp only [Act.put, List.setIfInBounds_toArray, List.set_cons_succ, List.set_cons_zero]; rfl) ?_
          | refine wpG_val (by rfl) (fun w' hx => (by go_simp; first | (go_bits; first | exact rfl | exact ⟨by omega, rfl⟩) | exact rfl | exact (if_neg (by omega)).trans rfl | exact ⟨by omega, rfl⟩)) (by simp only [Act.put, List.setIfInBounds_toArray, List.set_cons_succ, List.set_cons_zero]; rfl) ?_
          | refine wpG_no (by rfl) (by simp only [Act.put, List.setIfInBounds_toArray, List.set_cons_succ, List.set_cons_zero]; rfl) ?_
        refine wpG_end (fun w6 hx6 => wpList_nil (gQ_normal ?_))
        by_cases hxy : x = y
        · have hne : (x != y) = false := by simp [hxy]
          have HXY := Lib.hid hxy
          clear hxy
          go_wp2_with fail
          refine ⟨⟨i + 1, by simp, by omega, Lib.hid (fun j a b h => ?_), Ext.trans hx hx6⟩, by simp [intOf]; omega⟩
          rcases Nat.lt_succ_iff_lt_or_eq.1 h with h | h
          · exact hsame.out j a b h
          · subst h
            rw [HXE.out, HYE.out]
            exact HXY.out
        · have hne : (x != y) = true := by simp [hxy]
          have hbf : bb = false := by
            cases bb
            · rfl
            · exfalso
              have e := hb.1 rfl
              subst e
              exact hxy (by rw [← HXE.out, ← HYE.out])
          have HBF := Lib.hid hbf
          clear hbf hxy
          go_wp2_with fail
          go_ret
          exact ⟨by rw [HBF.out]; rfl, Ext.trans hx hx6⟩
      · have hbt : bb = true := hb.2 (List.ext_getElem HL.out fun j a b => hsame.out j a b (by omega))
        have HBT := Lib.hid hbt
        have hd : decide (i < l1.length) = false := decide_eq_false hlt
        clear hbt
        go_wp2_with fail
        go_ret
        exact ⟨by rw [HBT.out]; rfl, hx⟩
  · have hlb : (((l1.length : Nat) : Int) != ((l2.length : Nat) : Int)) = true := bne_iff_ne.2 (by omega)
    have hbf : bb = false := by cases bb; rfl; exact absurd (congrArg List.length (hb.1 rfl)) hl
    subst hbf
    go_enter Try.func53, Try.ntmps53
    go_wp2_with fail
    go_ret
    exact ⟨rfl, Ext.refl w⟩
end Go.Proofs.Ytbbemipidkhmfaa
