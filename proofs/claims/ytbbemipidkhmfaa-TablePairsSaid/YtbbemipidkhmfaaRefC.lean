/-
  The document's normal.
-/
import Derived.Test.YtbbemipidkhmfaaRefB
namespace Go.Proofs.Ytbbemipidkhmfaa
open Go.RowKit Go.Maps Go.Shelf

theorem norm_same {rest : Int} {l o : List Rng} {x : Rng} {i : Nat} (hi : i < l.length) (hx : l[i] = x) (h : normOf rest (l.take i) = o) (hc : x.cl = rest) : normOf rest (l.take (i + 1)) = o := by
  rw [List.take_succ_eq_append_getElem hi, hx, normOf_snoc, h, normStep, if_pos hc]
theorem norm_more {rest : Int} {l o : List Rng} {x : Rng} {i : Nat} (hi : i < l.length) (hx : l[i] = x) (h : normOf rest (l.take i) = o) (hc : x.cl ≠ rest) (hn : ∀ y ∈ o.getLast?, ¬ (y.hi + 1 = x.lo ∧ y.cl = x.cl)) : normOf rest (l.take (i + 1)) = o ++ [x] := by
  rw [List.take_succ_eq_append_getElem hi, hx, normOf_snoc, h, normStep, if_neg hc]
  rcases List.eq_nil_or_concat o with rfl | ⟨pre, y, rfl⟩
  · rfl
  · rw [List.concat_eq_append] at *
    simp only [List.getLast?_concat]
    rw [if_neg (hn y (by simp))]
theorem norm_join {rest : Int} {l pre : List Rng} {x y : Rng} {i : Nat} (hi : i < l.length) (hx : l[i] = x) (h : normOf rest (l.take i) = pre ++ [y]) (hc : x.cl ≠ rest) (h1 : y.hi + 1 = x.lo) (h2 : y.cl = x.cl) : normOf rest (l.take (i + 1)) = pre ++ [⟨y.lo, x.hi, y.cl⟩] := by
  rw [List.take_succ_eq_append_getElem hi, hx, normOf_snoc, h, normStep, if_neg hc]
  simp only [List.getLast?_concat, List.dropLast_concat]
  rw [if_pos ⟨h1, h2⟩]
theorem norm_hi {rest : Int} {l o : List Rng} {i : Nat} (hr : Rise l) (h : normOf rest (l.take i) = o) : ∀ y ∈ o, Ok1 y := by
  have h1 : Rise (l.take i) := by
    have : Rise (l.take i ++ l.drop i) := by rw [List.take_append_drop]; exact hr
    exact this.left
  intro y hy
  rw [← h] at hy
  exact ((normOf_spec h1).1.ok y hy).1

set_option maxRecDepth 100000 in
set_option maxHeartbeats 8000000 in
theorem c_normal (v : Value) (l : List Rng) (rest : Int) (w : World) (h : RgRow w v l) (hr : Rise l) (hl : l.length ≤ 2000000) :
    Calls Try.prog 49 #[v, .int .i64 rest] w fun e w' => ∃ v', e = .returned v' ∧ w'.ownsRow w.heap.size 32 3 v' (normOf rest l).length (rgCells (normOf rest l)) ∧ Ext w w' := by
  obtain ⟨i0, hi0, hz0, hz1, hz2⟩ := info_parts info32p
  obtain ⟨p, cap, rfl⟩ : ∃ p cap, v = .slice p l.length cap := by obtain ⟨p, cap, e, _⟩ := h; exact ⟨p, cap, e⟩
  have HR := Lib.hid hr
  clear hr
  go_enter Try.func49, Try.ntmps49
  go_wp2_with fail
  go_loopw [5, 6] (fun ov k W => ∃ (i m : Nat) (o : List Rng), k = .int .i64 (i : Nat) ∧ i ≤ l.length ∧ m ≤ i ∧ Hid (o.length = m ∧ normOf rest (l.take i) = o) ∧ W.ownsRow w.heap.size 32 3 ov m (rgCells o) ∧ Ext w W) (fun _ k _ => l.length + 1 - (intOf k).toNat)
  case atStart => exact ⟨0, 0, [], rfl, by omega, by omega, Lib.hid ⟨rfl, rfl⟩, World.ownsRow_nil _ _ _ _, Ext.refl _⟩
  case round =>
    obtain ⟨i, m, o, rfl, hi, hmi, ho, hrow, hx⟩ := hrel
    obtain ⟨p0, cap0, rfl⟩ : ∃ p cap, u5 = .slice p m cap := by
      rcases hrow.2 with ⟨e, h0⟩ | ⟨g, cap, _, rfl, _⟩
      · exact ⟨none, 0, by subst e; simp_all⟩
      · exact ⟨_, _, rfl⟩
    by_cases hlt : i < l.length
    · have hd : decide (i < l.length) = true := decide_eq_true hlt
      have i1 : ((i : Nat) : Int) < (l.length : Nat) := by omega
      obtain ⟨b1, o1, rfl, hc1⟩ := (h.mono hx).at (by intro e; rw [e] at hlt; simp at hlt)
      obtain ⟨a1, a2, a3⟩ := hc1 i hlt
      obtain ⟨x, hxe⟩ : ∃ x, l[i] = x := ⟨_, rfl⟩
      rw [hxe] at a1 a2 a3
      have HXE := Lib.hid hxe
      have y0 : ∀ w', EOn (fun _ => True) wr w' → w'.cell? ⟨b1, o1 + i * 3, none⟩ = _ := fun w' hx => hx.cell trivial a1
      have y1 : ∀ w', EOn (fun _ => True) wr w' → w'.cell? ⟨b1, o1 + i * 3 + 1, none⟩ = _ := fun w' hx => hx.cell trivial a2
      have y2 : ∀ w', EOn (fun _ => True) wr w' → w'.cell? ⟨b1, o1 + i * 3 + 2, none⟩ = _ := fun w' hx => hx.cell trivial a3
      clear hc1 hxe
      by_cases hc : x.cl = rest
      · have hcb : (x.cl == rest) = true := beq_iff_eq.2 hc
        have hfin := Lib.hid (show o.length = m ∧ normOf rest (l.take (i + 1)) = o from ⟨ho.out.1, norm_same hlt HXE.out ho.out.2 hc⟩)
        clear hc
        go_wp2_with fail
        go_roundw
        case rel => exact ⟨i + 1, m, o, by simp, by omega, by omega, hfin, hrow, hx⟩
        case measure => simp [intOf]; omega
      · have hcb : (x.cl == rest) = false := beq_false_of_ne hc
        have HC := Lib.hid hc
        clear hc
        have hnew : Hid True := Lib.hid trivial
        rcases List.eq_nil_or_concat o with rfl | ⟨pre, y, rfl⟩
        · have hm0 : m = 0 := by have := ho.out.1; simpa using this.symm
          subst hm0
          have hfin := Lib.hid (norm_more hlt HXE.out ho.out.2 HC.out (by simp))
          go_wp2_with fail
          refine wp_lex (fun _ => True) [true, true, true, true, true, true, true, true, true, true, true, true, true, true, true, true, true, true, true, true, true, true, true, true, true, true, true, true, true, true, true] (by kernel_rfl) (by kernel_rfl) ?_
          repeat first
            | refine wpG_move (by rfl) (by simp only [Act.eval, Array.getD_eq_getD_getElem?, List.getElem?_toArray, List.getElem?_cons_succ, List.getElem?_cons_zero, Option.getD_some]; try rfl) (by simp only [Act.put, List.setIfInBounds_toArray, List.set_cons_succ, List.set_cons_zero]; rfl) ?_
            | refine wpG_assign (by rfl) (by simp only [Act.eval, Array.getD_eq_getD_getElem?, List.getElem?_toArray, List.getElem?_cons_succ, List.getElem?_cons_zero, Option.getD_some]; try rfl) (by simp only [Act.put, List.setIfInBounds_toArray, List.set_cons_succ, List.set_cons_zero]; rfl) ?_
            | refine wpG_val (by rfl) (fun w' hx => (by go_simp; first | (go_bits; first | exact rfl | exact ⟨by omega, rfl⟩) | exact rfl | exact (if_neg (by omega)).trans rfl | exact ⟨by omega, rfl⟩)) (by simp only [Act.put, List.setIfInBounds_toArray, List.set_cons_succ, List.set_cons_zero]; rfl) ?_
            | refine wpG_no (by rfl) (by simp only [Act.put, List.setIfInBounds_toArray, List.set_cons_succ, List.set_cons_zero]; rfl) ?_
          refine wpG_end (fun w5 hx5 => wpList_nil (gQ_normal ?_))
          have d0 := hx5.cell a1
          have d1 := hx5.cell a2
          have d2 := hx5.cell a3
          have hnew5 := World.alloc_heap_new w5 (.cells #[.int .i32 x.lo, .int .i32 x.hi, .int .i64 x.cl] 32)
          have hrowA := ownsRow_ext hrow (hx5.alloc (.cells #[.int .i32 x.lo, .int .i32 x.hi, .int .i64 x.cl] 32))
          have hxA : Ext w (w5.alloc (.cells #[.int .i32 x.lo, .int .i32 x.hi, .int .i64 x.cl] 32)) := (Ext.trans hx hx5).alloc _
          have hszA := hxA.sz
          have hlen : (([] : List Rng) ++ [x]).length = 0 + 1 := by have := ho.out.1; simp at this; simp [this]
          have HLEN := Lib.hid hlen
          clear hlen hrow
          go_wp2_with (at_builtin; refine wpList_append_own _ rfl (.tmp 64) (.tmp 69) 25 rfl w.heap.size 32 i0 (.agg #[.int .i32 0, .int .i32 0, .int .i64 0]) 3 16 Try.underlying25 hi0 hz0 hz1 hz2 rfl (by decide) _ 0 (rgCells ([] : List Rng)) rfl hrowA ⟨w5.heap.size, 0, none⟩ 1 1 [.int .i32 x.lo, .int .i32 x.hi, .int .i64 x.cl] rfl rfl (World.news_of_block hnew5) (by intro u hu; simp at hu; rcases hu with rfl | rfl | rfl <;> rfl) (by unfold maxLen; omega) (by omega) (by simpa using hszA) ?_; intro v' w6 hown' hgrow _)
          have hx6 : Ext w w6 := Below.grown hxA hgrow hszA (fun k e => (hrowA.lt k e).1)
          clear hgrow hrowA hnew5 hxA hszA
          have e : rgCells (([] : List Rng) ++ [x]) = rgCells ([] : List Rng) ++ [.int .i32 x.lo, .int .i32 x.hi, .int .i64 x.cl] := by rw [rgCells_append]; rfl
          rw [← e] at hown'
          clear e
          go_roundw
          case rel => exact ⟨i + 1, 0 + 1, ([] : List Rng) ++ [x], by simp, by omega, by omega, Lib.hid ⟨HLEN.out, hfin.out⟩, hown', hx6⟩
          case measure => simp [intOf]; omega
        · rw [List.concat_eq_append] at *
          obtain ⟨q, rfl⟩ : ∃ q, m = q + 1 := ⟨m - 1, by have := ho.out.1; simp at this; omega⟩
          have hq : pre.length = q := by have := ho.out.1; simpa using this
          obtain ⟨gb, capb, e⟩ := ownsRow_pos hrow (by omega)
          cases e
          obtain ⟨c0, c1, c2⟩ := own_getR hrow q (by omega) (by simp; omega)
          have hge : (pre ++ [y])[q]'(by simp; omega) = y := by subst hq; simp
          rw [hge] at c0 c1 c2
          have hyo := norm_hi HR.out ho.out.2 y (by simp)
          obtain ⟨ho1, ho2, ho3, _⟩ := hyo
          have z0 : ∀ w', EOn (fun _ => True) wr w' → w'.cell? ⟨gb, q * 3, none⟩ = _ := fun w' hx => hx.cell trivial c0
          have z1 : ∀ w', EOn (fun _ => True) wr w' → w'.cell? ⟨gb, q * 3 + 1, none⟩ = _ := fun w' hx => hx.cell trivial c1
          have z2 : ∀ w', EOn (fun _ => True) wr w' → w'.cell? ⟨gb, q * 3 + 2, none⟩ = _ := fun w' hx => hx.cell trivial c2
          have j1 : ((q : Nat) : Int) < (q : Nat) + 1 := by omega
          have HQ := Lib.hid hq
          clear hge hq
          by_cases h1 : y.hi + 1 = x.lo
          · have hb1 : (y.hi + 1 == x.lo) = true := beq_iff_eq.2 h1
            have H1 := Lib.hid h1
            clear h1
            by_cases h2 : y.cl = x.cl
            · have hb2 : (y.cl == x.cl) = true := beq_iff_eq.2 h2
              have H2 := Lib.hid h2
              clear h2
              go_wp2_with fail
              refine wp_lex (fun _ => True) [true, true, true, true, true, true, true, true, true, true, true, true, true, true, true, true, true, true, true, true, true, true, true, true, true, true, true, true, true, true, true] (by kernel_rfl) (by kernel_rfl) ?_
              repeat first
                | refine wpG_move (by rfl) (by simp only [Act.eval, Array.getD_eq_getD_getElem?, List.getElem?_toArray, List.getElem?_cons_succ, List.getElem?_cons_zero, Option.getD_some]; try rfl) (by simp only [Act.put, List.setIfInBounds_toArray, List.set_cons_succ, List.set_cons_zero]; rfl) ?_
                | refine wpG_assign (by rfl) (by simp only [Act.eval, Array.getD_eq_getD_getElem?, List.getElem?_toArray, List.getElem?_cons_succ, List.getElem?_cons_zero, Option.getD_some]; try rfl) (by simp only [Act.put, List.setIfInBounds_toArray, List.set_cons_succ, List.set_cons_zero]; rfl) ?_
                | refine wpG_val (by rfl) (fun w' hx => (by go_simp; first | (go_bits; first | exact rfl | exact ⟨by omega, rfl⟩) | exact rfl | exact (if_neg (by omega)).trans rfl | exact ⟨by omega, rfl⟩)) (by simp only [Act.put, List.setIfInBounds_toArray, List.set_cons_succ, List.set_cons_zero]; rfl) ?_
                | refine wpG_no (by rfl) (by simp only [Act.put, List.setIfInBounds_toArray, List.set_cons_succ, List.set_cons_zero]; rfl) ?_
              refine wpG_end (fun w5 hx5 => wpList_nil (gQ_normal ?_))
              have d0 := hx5.cell a1
              have d1 := hx5.cell a2
              have d2 := hx5.cell a3
              have k0 := hx5.cell c0
              have k1 := hx5.cell c1
              have k2 := hx5.cell c2
              have hrow5 := ownsRow_ext hrow hx5
              have hfz := hrow5.frozenAt (q * 3 + 1)
              have hfin := Lib.hid (norm_join hlt HXE.out ho.out.2 HC.out H1.out H2.out)
              obtain ⟨n1, n2⟩ := hrow5.stored (q * 3 + 1) (.int .i32 x.hi)
              have hsz5 := (Ext.trans hx hx5).sz
              have hb5 : Ext w (w5.setCell ⟨gb, q * 3 + 1, none⟩ (.int .i32 x.hi)) := Below.grown (Ext.trans hx hx5) n2 hsz5 (fun k e => by cases e; exact (hrow5.lt gb rfl).1)
              have eq1 : (rgCells (pre ++ [y])).set (q * 3 + 1) (.int .i32 x.hi) = rgCells (pre ++ [(⟨y.lo, x.hi, y.cl⟩ : Rng)]) := by
                rw [← HQ.out]; exact rgCells_setHi pre y x.hi
              rw [eq1] at n1
              have hl2 : (pre ++ [(⟨y.lo, x.hi, y.cl⟩ : Rng)]).length = q + 1 := by simp [HQ.out]
              have HL2 := Lib.hid hl2
              clear eq1 n2 hrow5 hl2
              go_wp2_with fail
              go_roundw
              case rel => exact ⟨i + 1, q + 1, pre ++ [⟨y.lo, x.hi, y.cl⟩], by simp, by omega, by omega, Lib.hid ⟨HL2.out, hfin.out⟩, n1, hb5⟩
              case measure => simp [intOf]; omega
            · have hb2 : (y.cl == x.cl) = false := beq_false_of_ne h2
              have H2 := Lib.hid h2
              have hfin := Lib.hid (norm_more hlt HXE.out ho.out.2 HC.out (by intro z hz; simp at hz; subst hz; exact fun e => h2 e.2))
              clear h2
              go_wp2_with fail
              refine wp_lex (fun _ => True) [true, true, true, true, true, true, true, true, true, true, true, true, true, true, true, true, true, true, true, true, true, true, true, true, true, true, true, true, true, true, true] (by kernel_rfl) (by kernel_rfl) ?_
              repeat first
                | refine wpG_move (by rfl) (by simp only [Act.eval, Array.getD_eq_getD_getElem?, List.getElem?_toArray, List.getElem?_cons_succ, List.getElem?_cons_zero, Option.getD_some]; try rfl) (by simp only [Act.put, List.setIfInBounds_toArray, List.set_cons_succ, List.set_cons_zero]; rfl) ?_
                | refine wpG_assign (by rfl) (by simp only [Act.eval, Array.getD_eq_getD_getElem?, List.getElem?_toArray, List.getElem?_cons_succ, List.getElem?_cons_zero, Option.getD_some]; try rfl) (by simp only [Act.put, List.setIfInBounds_toArray, List.set_cons_succ, List.set_cons_zero]; rfl) ?_
                | refine wpG_val (by rfl) (fun w' hx => (by go_simp; first | (go_bits; first | exact rfl | exact ⟨by omega, rfl⟩) | exact rfl | exact (if_neg (by omega)).trans rfl | exact ⟨by omega, rfl⟩)) (by simp only [Act.put, List.setIfInBounds_toArray, List.set_cons_succ, List.set_cons_zero]; rfl) ?_
                | refine wpG_no (by rfl) (by simp only [Act.put, List.setIfInBounds_toArray, List.set_cons_succ, List.set_cons_zero]; rfl) ?_
              refine wpG_end (fun w5 hx5 => wpList_nil (gQ_normal ?_))
              have d0 := hx5.cell a1
              have d1 := hx5.cell a2
              have d2 := hx5.cell a3
              have hnew5 := World.alloc_heap_new w5 (.cells #[.int .i32 x.lo, .int .i32 x.hi, .int .i64 x.cl] 32)
              have hrowA := ownsRow_ext hrow (hx5.alloc (.cells #[.int .i32 x.lo, .int .i32 x.hi, .int .i64 x.cl] 32))
              have hxA : Ext w (w5.alloc (.cells #[.int .i32 x.lo, .int .i32 x.hi, .int .i64 x.cl] 32)) := (Ext.trans hx hx5).alloc _
              have hszA := hxA.sz
              have hlen : ((pre ++ [y]) ++ [x]).length = (q + 1) + 1 := by have := ho.out.1; simp at this; simp [this]
              have HLEN := Lib.hid hlen
              clear hlen hrow
              go_wp2_with (at_builtin; refine wpList_append_own _ rfl (.tmp 64) (.tmp 69) 25 rfl w.heap.size 32 i0 (.agg #[.int .i32 0, .int .i32 0, .int .i64 0]) 3 16 Try.underlying25 hi0 hz0 hz1 hz2 rfl (by decide) _ (q + 1) (rgCells (pre ++ [y])) rfl hrowA ⟨w5.heap.size, 0, none⟩ 1 1 [.int .i32 x.lo, .int .i32 x.hi, .int .i64 x.cl] rfl rfl (World.news_of_block hnew5) (by intro u hu; simp at hu; rcases hu with rfl | rfl | rfl <;> rfl) (by unfold maxLen; omega) (by omega) (by simpa using hszA) ?_; intro v' w6 hown' hgrow _)
              have hx6 : Ext w w6 := Below.grown hxA hgrow hszA (fun k e => (hrowA.lt k e).1)
              clear hgrow hrowA hnew5 hxA hszA
              have e : rgCells ((pre ++ [y]) ++ [x]) = rgCells (pre ++ [y]) ++ [.int .i32 x.lo, .int .i32 x.hi, .int .i64 x.cl] := by rw [rgCells_append]; rfl
              rw [← e] at hown'
              clear e
              go_roundw
              case rel => exact ⟨i + 1, (q + 1) + 1, (pre ++ [y]) ++ [x], by simp, by omega, by omega, Lib.hid ⟨HLEN.out, hfin.out⟩, hown', hx6⟩
              case measure => simp [intOf]; omega
          · have hb1 : (y.hi + 1 == x.lo) = false := beq_false_of_ne h1
            have H1 := Lib.hid h1
            have hfin := Lib.hid (norm_more hlt HXE.out ho.out.2 HC.out (by intro z hz; simp at hz; subst hz; exact fun e => h1 e.1))
            clear h1
            go_wp2_with fail
            refine wp_lex (fun _ => True) [true, true, true, true, true, true, true, true, true, true, true, true, true, true, true, true, true, true, true, true, true, true, true, true, true, true, true, true, true, true, true] (by kernel_rfl) (by kernel_rfl) ?_
            repeat first
              | refine wpG_move (by rfl) (by simp only [Act.eval, Array.getD_eq_getD_getElem?, List.getElem?_toArray, List.getElem?_cons_succ, List.getElem?_cons_zero, Option.getD_some]; try rfl) (by simp only [Act.put, List.setIfInBounds_toArray, List.set_cons_succ, List.set_cons_zero]; rfl) ?_
              | refine wpG_assign (by rfl) (by simp only [Act.eval, Array.getD_eq_getD_getElem?, List.getElem?_toArray, List.getElem?_cons_succ, List.getElem?_cons_zero, Option.getD_some]; try rfl) (by simp only [Act.put, List.setIfInBounds_toArray, List.set_cons_succ, List.set_cons_zero]; rfl) ?_
              | refine wpG_val (by rfl) (fun w' hx => (by go_simp; first | (go_bits; first | exact rfl | exact ⟨by omega, rfl⟩) | exact rfl | exact (if_neg (by omega)).trans rfl | exact ⟨by omega, rfl⟩)) (by simp only [Act.put, List.setIfInBounds_toArray, List.set_cons_succ, List.set_cons_zero]; rfl) ?_
              | refine wpG_no (by rfl) (by simp only [Act.put, List.setIfInBounds_toArray, List.set_cons_succ, List.set_cons_zero]; rfl) ?_
            refine wpG_end (fun w5 hx5 => wpList_nil (gQ_normal ?_))
            have d0 := hx5.cell a1
            have d1 := hx5.cell a2
            have d2 := hx5.cell a3
            have hnew5 := World.alloc_heap_new w5 (.cells #[.int .i32 x.lo, .int .i32 x.hi, .int .i64 x.cl] 32)
            have hrowA := ownsRow_ext hrow (hx5.alloc (.cells #[.int .i32 x.lo, .int .i32 x.hi, .int .i64 x.cl] 32))
            have hxA : Ext w (w5.alloc (.cells #[.int .i32 x.lo, .int .i32 x.hi, .int .i64 x.cl] 32)) := (Ext.trans hx hx5).alloc _
            have hszA := hxA.sz
            have hlen : ((pre ++ [y]) ++ [x]).length = (q + 1) + 1 := by have := ho.out.1; simp at this; simp [this]
            have HLEN := Lib.hid hlen
            clear hlen hrow
            go_wp2_with (at_builtin; refine wpList_append_own _ rfl (.tmp 64) (.tmp 69) 25 rfl w.heap.size 32 i0 (.agg #[.int .i32 0, .int .i32 0, .int .i64 0]) 3 16 Try.underlying25 hi0 hz0 hz1 hz2 rfl (by decide) _ (q + 1) (rgCells (pre ++ [y])) rfl hrowA ⟨w5.heap.size, 0, none⟩ 1 1 [.int .i32 x.lo, .int .i32 x.hi, .int .i64 x.cl] rfl rfl (World.news_of_block hnew5) (by intro u hu; simp at hu; rcases hu with rfl | rfl | rfl <;> rfl) (by unfold maxLen; omega) (by omega) (by simpa using hszA) ?_; intro v' w6 hown' hgrow _)
            have hx6 : Ext w w6 := Below.grown hxA hgrow hszA (fun k e => (hrowA.lt k e).1)
            clear hgrow hrowA hnew5 hxA hszA
            have e : rgCells ((pre ++ [y]) ++ [x]) = rgCells (pre ++ [y]) ++ [.int .i32 x.lo, .int .i32 x.hi, .int .i64 x.cl] := by rw [rgCells_append]; rfl
            rw [← e] at hown'
            clear e
            go_roundw
            case rel => exact ⟨i + 1, (q + 1) + 1, (pre ++ [y]) ++ [x], by simp, by omega, by omega, Lib.hid ⟨HLEN.out, hfin.out⟩, hown', hx6⟩
            case measure => simp [intOf]; omega
    · have hd : decide (i < l.length) = false := decide_eq_false hlt
      have ho1 := ho.out.1
      have hoi : i = l.length := by omega
      have hperm := ho.out.2
      rw [hoi, List.take_length] at hperm
      have HPM := Lib.hid hperm
      have HO1 := Lib.hid ho1
      clear hperm ho1 hoi
      go_wp2_with fail
      go_ret
      exact ⟨_, rfl, by rw [HPM.out, HO1.out]; exact hrow, hx⟩
end Go.Proofs.Ytbbemipidkhmfaa
