/-
  Are two tables equal?
-/
import Derived.Laws.StructEq
import Derived.Test.YtbbemipidkhmfaaWalkI
namespace Go.Proofs.Ytbbemipidkhmfaa
open Go.RowKit Go.Maps

theorem RgRow.of_own {w : World} {n₀ : Nat} {v : Value} {l : List Rng} (h : w.ownsRow n₀ 32 3 v l.length (rgCells l)) : RgRow w v l := by
  by_cases hl : l = []
  · subst hl
    rcases h.2 with ⟨rfl, _⟩ | ⟨g, cap, cur, rfl, _⟩
    · exact RgRow.nil w
    · exact ⟨_, cap, rfl, Nat.zero_le _, fun h => absurd rfl h⟩
  · have hpos : 0 < l.length := List.length_pos_iff.2 hl
    have hcap : ∀ {g cap}, v = .slice (some ⟨g, 0, none⟩) l.length cap → l.length ≤ cap := by
      intro g cap e
      rcases h.2 with ⟨e2, h0⟩ | ⟨g', cap', cur, e2, _, _, h1, _⟩
      · omega
      · rw [e] at e2; cases e2; exact h1
    obtain ⟨g, cap, rfl⟩ := ownsRow_pos h hpos
    refine ⟨_, cap, rfl, hcap rfl, fun _ => ⟨g, 0, rfl, (h.lt g rfl).2, fun i hi => ?_⟩⟩
    obtain ⟨pre, t, hpt, hpl⟩ : ∃ pre t, l = pre ++ l[i] :: t ∧ pre.length = i := ⟨l.take i, l.drop (i + 1), by rw [← List.drop_eq_getElem_cons hi, List.take_append_drop], by rw [List.length_take]; omega⟩
    obtain ⟨a1, a2, a3⟩ := rgCells_get pre l[i] t
    rw [← hpt, hpl] at a1 a2 a3
    rw [Nat.zero_add]
    exact ⟨(h.cellAt _ (by omega)).trans a1, (h.cellAt _ (by omega)).trans a2, (h.cellAt _ (by omega)).trans a3⟩

/-- Do two ranges differ? -/
def neR (x y : Rng) : Bool := !(x.lo == y.lo && (x.hi == y.hi && x.cl == y.cl))
theorem neR_false {x y : Rng} : neR x y = false ↔ x = y := by
  cases x; cases y
  simp [neR]
theorem run_neq32 (x y : Rng) (w : World) : (binOp .neq 32 (.agg #[.int .i32 x.lo, .int .i32 x.hi, .int .i64 x.cl]) (.agg #[.int .i32 y.lo, .int .i32 y.hi, .int .i64 y.cl])).run Try.prog w = .ok (.bool (neR x y)) w := by
  have a21 := Try.isAgg21
  have a3 := Try.isAgg3
  have z21 := Try.sizeOf21
  have z3 := Try.sizeOf3
  have hS : Try.prog.underlying 32 = some (.struct (Try.prog.fieldsOf 32)) := by kernel_rfl
  have hp : Try.prog.stoodInHeld 32 = false := by kernel_rfl
  rw [run_neq_struct, show (10000 : Nat) = 9999 + 1 from rfl, run_equalIn_agg w 9999 32 _ _ hS hp]
  simp only [Program.fieldsOf, Try.underlying32]
  go_simp
  unfold neR
  by_cases h1 : x.lo = y.lo <;> by_cases h2 : x.hi = y.hi <;> by_cases h3 : x.cl = y.cl <;> simp [h1, h2, h3]
/-- A range's cells in a row, at the k-th place. -/
theorem RgRow.at {w : World} {p : Option Addr} {n cap : Nat} {l : List Rng} (h : RgRow w (.slice p n cap) l) (hl : l ≠ []) : ∃ b off, p = some ⟨b, off, none⟩ ∧ ∀ i (h : i < l.length), w.cell? ⟨b, off + i * 3, none⟩ = some (.int .i32 l[i].lo) ∧ w.cell? ⟨b, off + i * 3 + 1, none⟩ = some (.int .i32 l[i].hi) ∧ w.cell? ⟨b, off + i * 3 + 2, none⟩ = some (.int .i64 l[i].cl) := by
  obtain ⟨p', cap', e, _, h2⟩ := h
  obtain ⟨b, off, e2, _, hc⟩ := h2 hl
  cases e
  exact ⟨b, off, e2, hc⟩

set_option maxRecDepth 100000 in
set_option maxHeartbeats 4000000 in
theorem c_sEqual (v1 v2 : Value) (l1 l2 : List Rng) (bb : Bool) (w : World) (h1 : RgRow w v1 l1) (h2 : RgRow w v2 l2) (hb : bb = true ↔ l1 = l2) (hn : l1.length ≤ 2000000) :
    Calls Try.prog 46 #[v1, v2] w fun e w' => e = .returned (.bool bb) ∧ Ext w w' := by
  obtain ⟨p1, cap1, rfl⟩ : ∃ p cap, v1 = .slice p l1.length cap := by obtain ⟨p, cap, e, _⟩ := h1; exact ⟨p, cap, e⟩
  obtain ⟨p2, cap2, rfl⟩ : ∃ p cap, v2 = .slice p l2.length cap := by obtain ⟨p, cap, e, _⟩ := h2; exact ⟨p, cap, e⟩
  by_cases hl : l1.length = l2.length
  · have hlb : (((l1.length : Nat) : Int) != ((l2.length : Nat) : Int)) = false := by rw [hl]; simp
    have HL := Lib.hid hl
    clear hl
    go_enter Try.func46, Try.ntmps46
    go_wp2_with fail
    go_loopw [5, 13] (fun _ k w' => ∃ i : Nat, k = .int .i64 (i : Nat) ∧ i ≤ l1.length ∧ Hid (∀ j (a : j < l1.length) (b : j < l2.length), j < i → l1[j] = l2[j]) ∧ Ext w w') (fun _ k _ => l1.length + 1 - (intOf k).toNat)
    case atStart => exact ⟨0, rfl, by omega, Lib.hid (fun j _ _ h => by omega), Ext.refl w⟩
    case round =>
      obtain ⟨i, rfl, hi, hsame, hx⟩ := hrel
      by_cases hlt : i < l1.length
      · have hlt2 : i < l2.length := by have := HL.out; omega
        obtain ⟨b1, o1, rfl, hc1⟩ := (h1.mono hx).at (by intro e; rw [e] at hlt; simp at hlt)
        obtain ⟨b2, o2, rfl, hc2⟩ := (h2.mono hx).at (by intro e; rw [e] at hlt2; simp at hlt2)
        obtain ⟨a1, a2, a3⟩ := hc1 i hlt
        obtain ⟨d1, d2, d3⟩ := hc2 i hlt2
        obtain ⟨x, hxe⟩ : ∃ x, l1[i] = x := ⟨_, rfl⟩
        obtain ⟨y, hye⟩ : ∃ y, l2[i] = y := ⟨_, rfl⟩
        rw [hxe] at a1 a2 a3
        rw [hye] at d1 d2 d3
        have hd : decide (i < l1.length) = true := decide_eq_true hlt
        have i1 : ((i : Nat) : Int) < (l1.length : Nat) := by omega
        have i2 : ((i : Nat) : Int) < (l2.length : Nat) := by omega
        have hne := run_neq32 x y
        have HXE := Lib.hid hxe
        have HYE := Lib.hid hye
        have k1 : ∀ w', EOn (fun _ => True) wr w' → w'.cell? ⟨b1, o1 + i * 3, none⟩ = _ := fun w' hx => hx.cell trivial a1
        have k2 : ∀ w', EOn (fun _ => True) wr w' → w'.cell? ⟨b1, o1 + i * 3 + 1, none⟩ = _ := fun w' hx => hx.cell trivial a2
        have k3 : ∀ w', EOn (fun _ => True) wr w' → w'.cell? ⟨b1, o1 + i * 3 + 2, none⟩ = _ := fun w' hx => hx.cell trivial a3
        have k4 : ∀ w', EOn (fun _ => True) wr w' → w'.cell? ⟨b2, o2 + i * 3, none⟩ = _ := fun w' hx => hx.cell trivial d1
        have k5 : ∀ w', EOn (fun _ => True) wr w' → w'.cell? ⟨b2, o2 + i * 3 + 1, none⟩ = _ := fun w' hx => hx.cell trivial d2
        have k6 : ∀ w', EOn (fun _ => True) wr w' → w'.cell? ⟨b2, o2 + i * 3 + 2, none⟩ = _ := fun w' hx => hx.cell trivial d3
        clear hxe hye hc1 hc2 a1 a2 a3 d1 d2 d3
        go_wp2_with fail
        refine wp_lex (fun _ => True) [true, true, true, true, true, true, true, true, true] (by kernel_rfl) (by kernel_rfl) ?_
        repeat first
          | refine wpG_move (by rfl) (by simp only [Act.eval, Array.getD_eq_getD_getElem?, List.getElem?_toArray, List.getElem?_cons_succ, List.getElem?_cons_zero, Option.getD_some]; try rfl) (by simp only [Act.put, List.setIfInBounds_toArray, List.set_cons_succ, List.set_cons_zero]; rfl) ?_
          | refine wpG_assign (by rfl) (by simp only [Act.eval, Array.getD_eq_getD_getElem?, List.getElem?_toArray, List.getElem?_cons_succ, List.getElem?_cons_zero, Option.getD_some]; try rfl) (by simp only [Act.put, List.setIfInBounds_toArray, List.set_cons_succ, List.set_cons_zero]; rfl) ?_
          | refine wpG_val (by rfl) (fun w' hx => (by go_simp; first | (go_bits; first | exact rfl | exact ⟨by omega, rfl⟩) | exact rfl | exact (if_neg (by omega)).trans rfl | exact ⟨by omega, rfl⟩)) (by simp only [Act.put, List.setIfInBounds_toArray, List.set_cons_succ, List.set_cons_zero]; rfl) ?_
          | refine wpG_no (by rfl) (by simp only [Act.put, List.setIfInBounds_toArray, List.set_cons_succ, List.set_cons_zero]; rfl) ?_
        refine wpG_end (fun w6 hx6 => wpList_nil (gQ_normal ?_))
        obtain ⟨nb, hnb⟩ : ∃ nb, neR x y = nb := ⟨_, rfl⟩
        rw [hnb]
        have HNB := Lib.hid hnb
        clear hnb hne
        rcases Bool.eq_false_or_eq_true nb with rfl | rfl
        · have hbf : bb = false := by
            cases bb
            · rfl
            · exfalso
              have e := hb.1 rfl
              subst e
              have e2 : x = y := by rw [← HXE.out, ← HYE.out]
              have := neR_false.2 e2
              rw [HNB.out] at this
              cases this
          have HBF := Lib.hid hbf
          clear hbf
          go_wp2_with fail
          go_ret
          exact ⟨by rw [HBF.out]; rfl, Ext.trans hx hx6⟩
        · go_wp2_with fail
          refine ⟨⟨i + 1, by simp, by omega, Lib.hid (fun j a b h => ?_), Ext.trans hx hx6⟩, by simp [intOf]; omega⟩
          rcases Nat.lt_succ_iff_lt_or_eq.1 h with h | h
          · exact hsame.out j a b h
          · subst h
            rw [HXE.out, HYE.out]
            exact neR_false.1 HNB.out
      · have hbt : bb = true := hb.2 (List.ext_getElem HL.out fun j a b => hsame.out j a b (by omega))
        have HBT := Lib.hid hbt
        have hd : decide (i < l1.length) = false := decide_eq_false hlt
        clear hbt
        go_wp2_with fail
        go_ret
        exact ⟨by rw [HBT.out]; rfl, hx⟩
  · have hlb : (((l1.length : Nat) : Int) != ((l2.length : Nat) : Int)) = true := bne_iff_ne.2 (by omega)
    have hbf : bb = false := by cases bb; rfl; exact absurd (congrArg List.length (hb.1 rfl)) hl
    subst hbf
    go_enter Try.func46, Try.ntmps46
    go_wp2_with fail
    go_ret
    exact ⟨rfl, Ext.refl w⟩
set_option maxRecDepth 100000 in
set_option maxHeartbeats 4000000 in
/-- Equal, of two tables. -/
theorem c_Equal {T T' : Nat} {rest rest' : Int} {f f' : Int → Int} {U U' : List (List Int)} {ix ix' : List Nat} {ob oc ub uc ob' oc' ub' uc' : Nat} (bb : Bool) (w : World) (h : Tab w T rest f U ix ob oc ub uc) (h' : Tab w T' rest' f' U' ix' ob' oc' ub' uc')
    (hb : bb = true ↔ rest = rest' ∧ ∀ l, RunsFrom f 0 1114112 l → RunsFrom f' 0 1114112 l) :
    Calls Try.prog 17 #[.pointer (some ⟨T, 0, none⟩), .pointer (some ⟨T', 0, none⟩)] w fun e w' => e = .returned (.bool bb) ∧ Ext w w' := by
  have q1 : ∀ w', EOn (fun _ => True) w w' → w'.cell? ⟨T, 0, none⟩ = some (.int .i64 rest) := fun w' hx => hx.cell trivial (cell_blk h.hT 0)
  have q2 : ∀ w', EOn (fun _ => True) w w' → w'.cell? ⟨T', 0, none⟩ = some (.int .i64 rest') := fun w' hx => hx.cell trivial (cell_blk h'.hT 0)
  have HB := Lib.hid hb
  clear hb
  by_cases hr : rest = rest'
  · have hrb : (rest == rest') = true := beq_iff_eq.2 hr
    have HR := Lib.hid hr
    clear hr
    go_enter Try.func17, Try.ntmps17
    go_wp2_with fail
    refine wp_perm (fun _ => True) [0, 1, 2, 3, 4, 5, 6, 7, 8, 9, 10, 12, 11, 13, 14, 15, 16] [true, true, true, true, true, true, true, true, true, true, true, true, false, false, false, true, true] (by kernel_rfl) (by kernel_rfl) (by simp only [List.map_cons, List.map_nil, nth]; rfl) ?_
    repeat first
      | refine wpG_move (by rfl) (by simp only [Act.eval, Array.getD_eq_getD_getElem?, List.getElem?_toArray, List.getElem?_cons_succ, List.getElem?_cons_zero, Option.getD_some]; try rfl) (by simp only [Act.put, List.setIfInBounds_toArray, List.set_cons_succ, List.set_cons_zero]; rfl) ?_
      | refine wpG_assign (by rfl) (by simp only [Act.eval, Array.getD_eq_getD_getElem?, List.getElem?_toArray, List.getElem?_cons_succ, List.getElem?_cons_zero, Option.getD_some]; try rfl) (by simp only [Act.put, List.setIfInBounds_toArray, List.set_cons_succ, List.set_cons_zero]; rfl) ?_
      | refine wpG_val (by rfl) (fun w' hx => (by go_simp; first | (go_bits; first | exact rfl | exact ⟨by omega, rfl⟩) | exact rfl | exact (if_neg (by omega)).trans rfl | exact ⟨by omega, rfl⟩)) (by simp only [Act.put, List.setIfInBounds_toArray, List.set_cons_succ, List.set_cons_zero]; rfl) ?_
      | refine wpG_no (by rfl) (by simp only [Act.put, List.setIfInBounds_toArray, List.set_cons_succ, List.set_cons_zero]; rfl) ?_
    refine wpG_do (by rfl) (fun w3 hx3 K hK => ?_)
    go_wp2_with fail
    refine (c_all w3 (h.ext hx3)).mono ?_
    rintro e w4 ⟨v1, l1, rfl, hr1, ho1, hx34⟩
    refine hK _ _ ⟨EOn.of_ext hx34, ?_⟩
    clear hK q1 q2
    repeat first
      | refine wpG_move (by rfl) (by simp only [Act.eval, Array.getD_eq_getD_getElem?, List.getElem?_toArray, List.getElem?_cons_succ, List.getElem?_cons_zero, Option.getD_some]; try rfl) (by simp only [Act.put, List.setIfInBounds_toArray, List.set_cons_succ, List.set_cons_zero]; rfl) ?_
      | refine wpG_assign (by rfl) (by simp only [Act.eval, Array.getD_eq_getD_getElem?, List.getElem?_toArray, List.getElem?_cons_succ, List.getElem?_cons_zero, Option.getD_some]; try rfl) (by simp only [Act.put, List.setIfInBounds_toArray, List.set_cons_succ, List.set_cons_zero]; rfl) ?_
      | refine wpG_val (by rfl) (fun w' hx => (by go_simp; first | (go_bits; first | exact rfl | exact ⟨by omega, rfl⟩) | exact rfl | exact (if_neg (by omega)).trans rfl | exact ⟨by omega, rfl⟩)) (by simp only [Act.put, List.setIfInBounds_toArray, List.set_cons_succ, List.set_cons_zero]; rfl) ?_
      | refine wpG_no (by rfl) (by simp only [Act.put, List.setIfInBounds_toArray, List.set_cons_succ, List.set_cons_zero]; rfl) ?_
    refine wpG_do (by rfl) (fun w5 hx5 K hK => ?_)
    go_wp2_with fail
    refine (c_all w5 (h'.ext (Ext.trans (Ext.trans hx3 hx34) hx5))).mono ?_
    rintro e w6 ⟨v2, l2, rfl, hr2, ho2, hx56⟩
    refine hK _ _ ⟨EOn.of_ext hx56, ?_⟩
    clear hK
    refine wpG_do (by rfl) (fun w7 hx7 K hK => ?_)
    have r1 := (RgRow.of_own ho1).mono (Ext.trans (Ext.trans hx5 hx56) hx7)
    have r2 := (RgRow.of_own ho2).mono hx7
    have hle := hr1.le
    have hbb : bb = true ↔ l1 = l2 := by
      rw [HB.out]
      constructor
      · intro hh
        exact RunsFrom.unique (hh.2 _ hr1) hr2
      · rintro rfl
        exact ⟨HR.out, fun l hl => by rw [RunsFrom.unique hl hr1]; exact hr2⟩
    have HBB := Lib.hid hbb
    clear hbb
    go_wp2_with fail
    refine (c_sEqual v1 v2 l1 l2 bb w7 r1 r2 HBB.out (by omega)).mono ?_
    rintro e w8 ⟨rfl, hx78⟩
    refine hK _ _ ⟨EOn.of_ext hx78, ?_⟩
    clear hK
    repeat first
      | refine wpG_move (by rfl) (by simp only [Act.eval, Array.getD_eq_getD_getElem?, List.getElem?_toArray, List.getElem?_cons_succ, List.getElem?_cons_zero, Option.getD_some]; try rfl) (by simp only [Act.put, List.setIfInBounds_toArray, List.set_cons_succ, List.set_cons_zero]; rfl) ?_
      | refine wpG_assign (by rfl) (by simp only [Act.eval, Array.getD_eq_getD_getElem?, List.getElem?_toArray, List.getElem?_cons_succ, List.getElem?_cons_zero, Option.getD_some]; try rfl) (by simp only [Act.put, List.setIfInBounds_toArray, List.set_cons_succ, List.set_cons_zero]; rfl) ?_
      | refine wpG_val (by rfl) (fun w' hx => (by go_simp; first | (go_bits; first | exact rfl | exact ⟨by omega, rfl⟩) | exact rfl | exact (if_neg (by omega)).trans rfl | exact ⟨by omega, rfl⟩)) (by simp only [Act.put, List.setIfInBounds_toArray, List.set_cons_succ, List.set_cons_zero]; rfl) ?_
      | refine wpG_no (by rfl) (by simp only [Act.put, List.setIfInBounds_toArray, List.set_cons_succ, List.set_cons_zero]; rfl) ?_
    refine wpG_end (fun w9 hx9 => wpList_nil (gQ_normal ?_))
    go_wp2_with fail
    go_ret
    exact ⟨rfl, Ext.trans (Ext.trans (Ext.trans (Ext.trans (Ext.trans (Ext.trans hx3 hx34) hx5) hx56) hx7) hx78) hx9⟩
  · have hrb : (rest == rest') = false := beq_false_of_ne hr
    have hbf : bb = false := by
      cases bb
      · rfl
      · exact absurd (HB.out.1 rfl).1 hr
    subst hbf
    clear hr
    go_enter Try.func17, Try.ntmps17
    go_wp2_with fail
    refine wp_lex (fun _ => True) [true, true, true, true, true, true, true, true, true, true, true, true, true, true, true, true, true] (by kernel_rfl) (by kernel_rfl) ?_
    repeat first
      | refine wpG_move (by rfl) (by simp only [Act.eval, Array.getD_eq_getD_getElem?, List.getElem?_toArray, List.getElem?_cons_succ, List.getElem?_cons_zero, Option.getD_some]; try rfl) (by simp only [Act.put, List.setIfInBounds_toArray, List.set_cons_succ, List.set_cons_zero]; rfl) ?_
      | refine wpG_assign (by rfl) (by simp only [Act.eval, Array.getD_eq_getD_getElem?, List.getElem?_toArray, List.getElem?_cons_succ, List.getElem?_cons_zero, Option.getD_some]; try rfl) (by simp only [Act.put, List.setIfInBounds_toArray, List.set_cons_succ, List.set_cons_zero]; rfl) ?_
      | refine wpG_val (by rfl) (fun w' hx => (by go_simp; first | (go_bits; first | exact rfl | exact ⟨by omega, rfl⟩) | exact rfl | exact (if_neg (by omega)).trans rfl | exact ⟨by omega, rfl⟩)) (by simp only [Act.put, List.setIfInBounds_toArray, List.set_cons_succ, List.set_cons_zero]; rfl) ?_
      | refine wpG_no (by rfl) (by simp only [Act.put, List.setIfInBounds_toArray, List.set_cons_succ, List.set_cons_zero]; rfl) ?_
    refine wpG_end (fun w9 hx9 => wpList_nil (gQ_normal ?_))
    go_wp2_with fail
    go_ret
    exact ⟨rfl, hx9⟩
end Go.Proofs.Ytbbemipidkhmfaa
