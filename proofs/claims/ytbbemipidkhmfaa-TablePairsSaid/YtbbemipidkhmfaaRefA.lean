/-
  The document's class, right, Same, sorted.
-/
import Derived.Test.YtbbemipidkhmfaaRefK
import Derived.Test.YtbbemipidkhmfaaRefM
import Derived.Test.YtbbemipidkhmfaaPlanC
namespace Go.Proofs.Ytbbemipidkhmfaa
open Go.RowKit Go.Maps Go.Shelf

theorem c_rclass (c : Int) (w : World) : Calls Try.prog 47 #[.int .i64 c] w fun e w' => e = .returned (.bool (isCls c)) ∧ w' = w := by
  by_cases h0 : 0 ≤ c
  · have e : isCls c = decide (c ≤ 255) := by simp [isCls, h0]
    rw [e]
    go_enter Try.func47, Try.ntmps47
    go_wp2_with fail
    go_ret
    exact ⟨rfl, rfl⟩
  · have e : isCls c = false := by simp [isCls, h0]
    rw [e]
    go_enter Try.func47, Try.ntmps47
    go_wp2_with fail
    go_ret
    exact ⟨rfl, rfl⟩
set_option maxRecDepth 100000 in
set_option maxHeartbeats 2000000 in
theorem c_right (x : Rng) (w : World) : Calls Try.prog 48 #[rgA x] w fun e w' => e = .returned (.bool (okR x)) ∧ Ext w w' := by
  show Calls Try.prog 48 #[.agg #[.int .i32 x.lo, .int .i32 x.hi, .int .i64 x.cl]] w _
  have hbk : (w.alloc (.cells #[.int .i32 x.lo, .int .i32 x.hi, .int .i64 x.cl] 32)).heap[w.heap.size]? = some (.cells #[.int .i32 x.lo, .int .i32 x.hi, .int .i64 x.cl] 32) := World.alloc_heap_new w _
  have k0 := cell_blk hbk 0
  have k1 := cell_blk hbk 1
  have k2 := cell_blk hbk 2
  simp only [List.getElem?_toArray, List.getElem?_cons_succ, List.getElem?_cons_zero] at k0 k1 k2
  clear hbk
  have hxA : Ext w (w.alloc (.cells #[.int .i32 x.lo, .int .i32 x.hi, .int .i64 x.cl] 32)) := (Ext.refl w).alloc _
  by_cases h1 : 0 ≤ x.lo
  · by_cases h2 : x.hi ≤ 1114111
    · have q2 : decide (x.hi ≤ 1114111) = true := decide_eq_true h2
      by_cases h3 : x.lo ≤ x.hi
      · have q3 : decide (x.lo ≤ x.hi) = true := decide_eq_true h3
        have e : okR x = isCls x.cl := by simp [okR, h1, h2, h3]
        rw [e]
        clear e
        go_enter Try.func48, Try.ntmps48
        go_wp2_with fail
        refine (c_rclass x.cl _).mono ?_
        rintro e w1 ⟨rfl, rfl⟩
        go_wp2_with fail
        go_ret
        exact ⟨rfl, hxA⟩
      · have q3 : decide (x.lo ≤ x.hi) = false := decide_eq_false h3
        have e : okR x = false := by simp [okR, h3]
        rw [e]
        clear e
        go_enter Try.func48, Try.ntmps48
        go_wp2_with fail
        go_ret
        exact ⟨rfl, hxA⟩
    · have q2 : decide (x.hi ≤ 1114111) = false := decide_eq_false h2
      have e : okR x = false := by simp [okR, h2]
      rw [e]
      clear e
      go_enter Try.func48, Try.ntmps48
      go_wp2_with fail
      go_ret
      exact ⟨rfl, hxA⟩
  · have e : okR x = false := by simp [okR, h1]
    have q1 : decide (0 ≤ x.lo) = false := decide_eq_false h1
    rw [e]
    clear e
    go_enter Try.func48, Try.ntmps48
    go_wp2_with fail
    go_ret
    exact ⟨rfl, hxA⟩

/-- Two lists are the same, or are not. -/
theorem same_eq (l1 l2 : List Rng) (bb : Bool) (hb : bb = true ↔ l1 = l2) (h : l1.length = l2.length) (hs : ∀ j (a : j < l1.length) (b : j < l2.length), l1[j] = l2[j]) : bb = true := hb.2 (List.ext_getElem h fun j a b => hs j a b)
set_option maxRecDepth 100000 in
set_option maxHeartbeats 4000000 in
theorem c_Same (v1 v2 : Value) (l1 l2 : List Rng) (bb : Bool) (w : World) (h1 : RgRow w v1 l1) (h2 : RgRow w v2 l2) (hb : bb = true ↔ l1 = l2) (hn : l1.length ≤ 2000000) :
    Calls Try.prog 19 #[v1, v2] w fun e w' => e = .returned (.bool bb) ∧ Ext w w' := by
  obtain ⟨p1, cap1, rfl⟩ : ∃ p cap, v1 = .slice p l1.length cap := by obtain ⟨p, cap, e, _⟩ := h1; exact ⟨p, cap, e⟩
  obtain ⟨p2, cap2, rfl⟩ : ∃ p cap, v2 = .slice p l2.length cap := by obtain ⟨p, cap, e, _⟩ := h2; exact ⟨p, cap, e⟩
  by_cases hl : l1.length = l2.length
  · have hlb : (((l1.length : Nat) : Int) != ((l2.length : Nat) : Int)) = false := by rw [hl]; simp
    have HL := Lib.hid hl
    clear hl
    go_enter Try.func19, Try.ntmps19
    go_wp2_with fail
    go_loopw [5] (fun k w' => ∃ i : Nat, k = .int .i64 (i : Nat) ∧ i ≤ l1.length ∧ Hid (∀ j (a : j < l1.length) (b : j < l2.length), j < i → l1[j] = l2[j]) ∧ Ext w w') (fun k _ => l1.length + 1 - (intOf k).toNat)
    case atStart => exact ⟨0, rfl, by omega, Lib.hid (fun j _ _ h => by omega), Ext.refl w⟩
    case round =>
      obtain ⟨i, rfl, hi, hsame, hx⟩ := hrel
      by_cases hlt : i < l1.length
      · have hlt2 : i < l2.length := by have := HL.out; omega
        obtain ⟨b1, o1, rfl, hc1⟩ := (h1.mono hx).at (by intro e; rw [e] at hlt; simp at hlt)
        obtain ⟨b2, o2, rfl, hc2⟩ := (h2.mono hx).at (by intro e; rw [e] at hlt2; simp at hlt2)
        obtain ⟨a1, a2, a3⟩ := hc1 i hlt
        obtain ⟨d1, d2, d3⟩ := hc2 i hlt2
        obtain ⟨x, hxe⟩ : ∃ x, l1[i] = x := ⟨_, rfl⟩
        obtain ⟨y, hye⟩ : ∃ y, l2[i] = y := ⟨_, rfl⟩
        rw [hxe] at a1 a2 a3
        rw [hye] at d1 d2 d3
        have hd : decide (i < l1.length) = true := decide_eq_true hlt
        have i1 : ((i : Nat) : Int) < (l1.length : Nat) := by omega
        have i2 : ((i : Nat) : Int) < (l2.length : Nat) := by omega
        have hne := run_neq32 x y
        have HXE := Lib.hid hxe
        have HYE := Lib.hid hye
        have k1 : ∀ w', EOn (fun _ => True) wr w' → w'.cell? ⟨b1, o1 + i * 3, none⟩ = _ := fun w' hx => hx.cell trivial a1
        have k2 : ∀ w', EOn (fun _ => True) wr w' → w'.cell? ⟨b1, o1 + i * 3 + 1, none⟩ = _ := fun w' hx => hx.cell trivial a2
        have k3 : ∀ w', EOn (fun _ => True) wr w' → w'.cell? ⟨b1, o1 + i * 3 + 2, none⟩ = _ := fun w' hx => hx.cell trivial a3
        have k4 : ∀ w', EOn (fun _ => True) wr w' → w'.cell? ⟨b2, o2 + i * 3, none⟩ = _ := fun w' hx => hx.cell trivial d1
        have k5 : ∀ w', EOn (fun _ => True) wr w' → w'.cell? ⟨b2, o2 + i * 3 + 1, none⟩ = _ := fun w' hx => hx.cell trivial d2
        have k6 : ∀ w', EOn (fun _ => True) wr w' → w'.cell? ⟨b2, o2 + i * 3 + 2, none⟩ = _ := fun w' hx => hx.cell trivial d3
        clear hxe hye hc1 hc2 a1 a2 a3 d1 d2 d3
        go_wp2_with fail
        refine wp_lex (fun _ => True) [true, true, true, true, true, true, true, true, true] (by kernel_rfl) (by kernel_rfl) ?_
        repeat first
          | refine wpG_move (by rfl) (by simp only [Act.eval, Array.getD_eq_getD_getElem?, List.getElem?_toArray, List.getElem?_cons_succ, List.getElem?_cons_zero, Option.getD_some]; try rfl) (by simp only [Act.put, List.setIfInBounds_toArray, List.set_cons_succ, List.set_cons_zero]; rfl) ?_
          | refine wpG_assign (by rfl) (by simp only [Act.eval, Array.getD_eq_getD_getElem?, List.getElem?_toArray, List.getElem?_cons_succ, List.getElem?_cons_zero, Option.getD_some]; try rfl) (by simp only [Act.put, List.setIfInBounds_toArray, List.set_cons_succ, List.set_cons_zero]; rfl) ?_
          | refine wpG_val (by rfl) (fun w' hx => (by go_simp; first | (go_bits; first | exact rfl | exact ⟨by omega, rfl⟩) | exact rfl | exact (if_neg (by omega)).trans rfl | exact ⟨by omega, rfl⟩)) (by simp only [Act.put, List.setIfInBounds_toArray, List.set_cons_succ, List.set_cons_zero]; rfl) ?_
          | refine wpG_no (by rfl) (by simp only [Act.put, List.setIfInBounds_toArray, List.set_cons_succ, List.set_cons_zero]; rfl) ?_
        refine wpG_end (fun w6 hx6 => wpList_nil (gQ_normal ?_))
        obtain ⟨nb, hnb⟩ : ∃ nb, neR x y = nb := ⟨_, rfl⟩
        rw [hnb]
        have HNB := Lib.hid hnb
        clear hnb hne
        rcases Bool.eq_false_or_eq_true nb with rfl | rfl
        · have hbf : bb = false := by
            cases bb
            · rfl
            · exfalso
              have e := hb.1 rfl
              subst e
              have e2 : x = y := by rw [← HXE.out, ← HYE.out]
              have := neR_false.2 e2
              rw [HNB.out] at this
              cases this
          have HBF := Lib.hid hbf
          clear hbf
          go_wp2_with fail
          go_ret
          exact ⟨by rw [HBF.out]; rfl, Ext.trans hx hx6⟩
        · go_wp2_with fail
          refine ⟨⟨i + 1, by simp, by omega, Lib.hid (fun j a b h => ?_), Ext.trans hx hx6⟩, by simp [intOf]; omega⟩
          rcases Nat.lt_succ_iff_lt_or_eq.1 h with h | h
          · exact hsame.out j a b h
          · subst h
            rw [HXE.out, HYE.out]
            exact neR_false.1 HNB.out
      · have hbt : bb = true := hb.2 (List.ext_getElem HL.out fun j a b => hsame.out j a b (by omega))
        have HBT := Lib.hid hbt
        have hd : decide (i < l1.length) = false := decide_eq_false hlt
        clear hbt
        go_wp2_with fail
        go_ret
        exact ⟨by rw [HBT.out]; rfl, hx⟩
  · have hlb : (((l1.length : Nat) : Int) != ((l2.length : Nat) : Int)) = true := bne_iff_ne.2 (by omega)
    have hbf : bb = false := by cases bb; rfl; exact absurd (congrArg List.length (hb.1 rfl)) hl
    subst hbf
    go_enter Try.func19, Try.ntmps19
    go_wp2_with fail
    go_ret
    exact ⟨rfl, Ext.refl w⟩
end Go.Proofs.Ytbbemipidkhmfaa
