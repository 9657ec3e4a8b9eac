/-
  The document's sorted, normal.
-/
import Derived.Test.YtbbemipidkhmfaaRefA
namespace Go.Proofs.Ytbbemipidkhmfaa
open Go.RowKit Go.Maps Go.Shelf

theorem ins_ok {l o A B : List Rng} {x : Rng} {i : Nat} (hi : i < l.length) (hx : l[i] = x) (ho : o.length = i ∧ o.Perm (l.take i) ∧ o.Pairwise (fun x y => x.lo ≤ y.lo)) (hAB : A ++ B = o) (hB : ∀ b ∈ B, x.lo < b.lo) (hA : ∀ a ∈ A.getLast?, a.lo ≤ x.lo) :
    (A ++ x :: B).length = i + 1 ∧ (A ++ x :: B).Perm (l.take (i + 1)) ∧ (A ++ x :: B).Pairwise (fun x y => x.lo ≤ y.lo) := by
  subst hAB
  obtain ⟨h1, h2, h3⟩ := ho
  obtain ⟨p1, p2, p3⟩ := List.pairwise_append.1 h3
  refine ⟨by simp at h1 ⊢; omega, ?_, List.pairwise_append.2 ⟨p1, List.pairwise_cons.2 ⟨fun b hb => by have := hB b hb; omega, p2⟩, fun a ha y hy => ?_⟩⟩
  · rw [List.take_succ_eq_append_getElem hi, hx]
    exact (List.perm_middle.trans (h2.cons x)).trans (List.perm_append_comm (l₁ := [x]))
  · have hax : a.lo ≤ x.lo := by
      rcases List.eq_nil_or_concat A with rfl | ⟨A', z, rfl⟩
      · simp at ha
      · rw [List.concat_eq_append] at *
        have hz := hA z (by simp)
        rcases List.mem_append.1 ha with ha | ha
        · have := (List.pairwise_append.1 p1).2.2 a ha z (by simp)
          omega
        · simp at ha; subst ha; exact hz
    rcases List.mem_cons.1 hy with rfl | hy
    · exact hax
    · exact p3 a ha y hy
set_option maxRecDepth 100000 in
set_option maxHeartbeats 4000000 in
theorem c_sorted (v : Value) (l : List Rng) (w : World) (h : RgRow w v l) (hl : l.length ≤ 2000000) :
    Calls Try.prog 50 #[v] w fun e w' => ∃ v' o, e = .returned v' ∧ o.Perm l ∧ o.Pairwise (fun x y => x.lo ≤ y.lo) ∧ w'.ownsRow w.heap.size 32 3 v' o.length (rgCells o) ∧ Ext w w' := by
  obtain ⟨i0, hi0, hz0, hz1, hz2⟩ := info_parts info32p
  obtain ⟨p, cap, rfl⟩ : ∃ p cap, v = .slice p l.length cap := by obtain ⟨p, cap, e, _⟩ := h; exact ⟨p, cap, e⟩
  go_enter Try.func50, Try.ntmps50
  go_wp2_with fail
  go_loopw [3, 4] (fun ov k W => ∃ (i : Nat) (o : List Rng), k = .int .i64 (i : Nat) ∧ i ≤ l.length ∧ Hid (o.length = i ∧ o.Perm (l.take i) ∧ o.Pairwise (fun x y => x.lo ≤ y.lo)) ∧ W.ownsRow w.heap.size 32 3 ov i (rgCells o) ∧ Ext w W) (fun _ k _ => l.length + 1 - (intOf k).toNat)
  case atStart => exact ⟨0, [], rfl, by omega, Lib.hid ⟨rfl, by simp, List.Pairwise.nil⟩, World.ownsRow_nil _ _ _ _, Ext.refl _⟩
  case round =>
    obtain ⟨i, o, rfl, hi, ho, hrow, hx⟩ := hrel
    obtain ⟨p0, cap0, rfl⟩ : ∃ p cap, u3 = .slice p i cap := by
      rcases hrow.2 with ⟨e, h0⟩ | ⟨g, cap, _, rfl, _⟩
      · exact ⟨none, 0, by subst e; simp_all⟩
      · exact ⟨_, _, rfl⟩
    by_cases hlt : i < l.length
    · have hd : decide (i < l.length) = true := decide_eq_true hlt
      have i1 : ((i : Nat) : Int) < (l.length : Nat) := by omega
      obtain ⟨b1, o1, rfl, hc1⟩ := (h.mono hx).at (by intro e; rw [e] at hlt; simp at hlt)
      obtain ⟨a1, a2, a3⟩ := hc1 i hlt
      obtain ⟨x, hxe⟩ : ∃ x, l[i] = x := ⟨_, rfl⟩
      rw [hxe] at a1 a2 a3
      have HXE := Lib.hid hxe
      have hnew := World.alloc_heap_new wr (.cells #[.int .i32 x.lo, .int .i32 x.hi, .int .i64 x.cl] 32)
      have hrowA := ownsRow_ext hrow ((Ext.refl wr).alloc (.cells #[.int .i32 x.lo, .int .i32 x.hi, .int .i64 x.cl] 32))
      have hxA : Ext w (wr.alloc (.cells #[.int .i32 x.lo, .int .i32 x.hi, .int .i64 x.cl] 32)) := hx.alloc _
      have hsz := hxA.sz
      clear hc1 hxe
      go_wp2_with (at_builtin; refine wpList_append_own _ rfl (.tmp 14) (.tmp 19) 25 rfl w.heap.size 32 i0 (.agg #[.int .i32 0, .int .i32 0, .int .i64 0]) 3 16 Try.underlying25 hi0 hz0 hz1 hz2 rfl (by decide) _ i (rgCells o) rfl hrowA ⟨wr.heap.size, 0, none⟩ 1 1 [.int .i32 x.lo, .int .i32 x.hi, .int .i64 x.cl] rfl rfl (World.news_of_block hnew) (by intro u hu; simp at hu; rcases hu with rfl | rfl | rfl <;> rfl) (by unfold maxLen; omega) (by omega) (by have := hx.sz; simp; omega) ?_; intro v' w1 hown' hgrow _; obtain ⟨g', cap', rfl⟩ := ownsRow_pos hown' (by omega))
      have hx1 : Ext w w1 := Below.grown hxA hgrow hsz (fun k e => (hrowA.lt k e).1)
      clear hgrow hrowA hnew hxA hsz hrow a1 a2 a3
      have ho1 : o.length = i := ho.out.1
      have hstart : w1.ownsRow w.heap.size 32 3 (.slice (some ⟨g', 0, none⟩) (i + 1) cap') (i + 1) (rgCells (o ++ x :: [])) := by
        rw [rgCells_append]; exact hown'
      clear hown' hx
      go_loopw [5] (fun k W => ∃ (n : Nat) (A B : List Rng) (s : Rng), k = .int .i64 (n : Nat) ∧ n ≤ i ∧ Hid (A.length = n ∧ A.length + B.length = i ∧ A ++ B = o ∧ ∀ b ∈ B, x.lo < b.lo) ∧ W.ownsRow w.heap.size 32 3 (.slice (some ⟨g', 0, none⟩) (i + 1) cap') (i + 1) (rgCells (A ++ s :: B)) ∧ Ext w W) (fun k _ => (intOf k).toNat)
      case atStart => exact ⟨i, o, [], x, rfl, by omega, Lib.hid ⟨ho1, by simpa using ho1, by simp, by simp⟩, hstart, hx1⟩
      case round =>
        obtain ⟨n, A, B, s, rfl, hni, hs, hrow, hx⟩ := hrel
        obtain ⟨b2, o2, e, hc1⟩ := (h.mono hx).at (by intro e; rw [e] at hlt; simp at hlt)
        cases e
        obtain ⟨a1, a2, a3⟩ := hc1 i hlt
        rw [HXE.out] at a1 a2 a3
        have i4 : ((n : Nat) : Int) < (i : Nat) + 1 := by omega
        have y0 : ∀ w', EOn (fun _ => True) wr w' → w'.cell? ⟨b1, o1 + i * 3, none⟩ = _ := fun w' hx => hx.cell trivial a1
        clear hc1 ho1 hstart
        rcases Nat.eq_zero_or_pos n with rfl | hn0
        · have hend : Hid (∀ a ∈ A.getLast?, a.lo ≤ x.lo) := Lib.hid (by have := hs.out.1; rw [List.length_eq_zero_iff] at this; subst this; simp)
          go_wp2_with fail
          refine wp_lex (fun _ => True) [true, true, true, true, true, true, true, true, true, true, true, true, true, true, true, true] (by kernel_rfl) (by kernel_rfl) ?_
          repeat first
            | refine wpG_move (by rfl) (by simp only [Act.eval, Array.getD_eq_getD_getElem?, List.getElem?_toArray, List.getElem?_cons_succ, List.getElem?_cons_zero, Option.getD_some]; try rfl) (by simp only [Act.put, List.setIfInBounds_toArray, List.set_cons_succ, List.set_cons_zero]; rfl) ?_
            | refine wpG_assign (by rfl) (by simp only [Act.eval, Array.getD_eq_getD_getElem?, List.getElem?_toArray, List.getElem?_cons_succ, List.getElem?_cons_zero, Option.getD_some]; try rfl) (by simp only [Act.put, List.setIfInBounds_toArray, List.set_cons_succ, List.set_cons_zero]; rfl) ?_
            | refine wpG_val (by rfl) (fun w' hx => (by go_simp; first | (go_bits; first | exact rfl | exact ⟨by omega, rfl⟩) | exact rfl | exact (if_neg (by omega)).trans rfl | exact ⟨by omega, rfl⟩)) (by simp only [Act.put, List.setIfInBounds_toArray, List.set_cons_succ, List.set_cons_zero]; rfl) ?_
            | refine wpG_no (by rfl) (by simp only [Act.put, List.setIfInBounds_toArray, List.set_cons_succ, List.set_cons_zero]; rfl) ?_
          refine wpG_end (fun w5 hx5 => wpList_nil (gQ_normal ?_))
          have hrow5 := ownsRow_ext hrow hx5
          have d0 := hx5.cell a1
          have d1 := hx5.cell a2
          have d2 := hx5.cell a3
          have hxw5 := Ext.trans hx hx5
          obtain ⟨n1, n2, n3⟩ := own_setR hrow5 0 (by have := hs.out.1; have := hs.out.2.1; simp at *; omega) x
          have hset : (A ++ s :: B).set 0 x = A ++ x :: B := by
            have e := hs.out.1
            conv => lhs; rw [← e]
            simp
          rw [hset] at n1
          have hfin := Lib.hid (ins_ok hlt HXE.out ho.out hs.out.2.2.1 hs.out.2.2.2 hend.out)
          have hxw6 : Ext w (setR w5 g' 0 x) := Below.trans hxw5 (n2 hxw5.sz)
          clear hset n2 n3
          go_wp2_with (refine wpList_storeR rfl (.tmp 53) (.tmp 52) rfl (i := 0) x rfl rfl rfl hrow5 (by omega) ?_)
          go_roundw
          case rel => exact ⟨i + 1, A ++ x :: B, by simp, by omega, hfin, n1, hxw6⟩
          case measure => simp [intOf]; omega
        · obtain ⟨m, rfl⟩ : ∃ m, n = m + 1 := ⟨n - 1, by omega⟩
          obtain ⟨A', a, hA⟩ : ∃ A' a, A = A' ++ [a] := by
            rcases List.eq_nil_or_concat A with rfl | ⟨A', a, rfl⟩
            · have := hs.out.1; simp at this
            · exact ⟨A', a, by rw [List.concat_eq_append]⟩
          subst hA
          have hAm : A'.length = m := by have := hs.out.1; simpa using this
          obtain ⟨c0, c1, c2⟩ := own_getR hrow m (by omega) (by simp; omega)
          have hge : ((A' ++ [a]) ++ s :: B)[m]'(by simp; omega) = a := by subst hAm; simp
          rw [hge] at c0 c1 c2
          have i3 : ((m : Nat) : Int) < (i : Nat) + 1 := by omega
          have z0 : ∀ w', EOn (fun _ => True) wr w' → w'.cell? ⟨g', m * 3, none⟩ = _ := fun w' hx => hx.cell trivial c0
          have z1 : ∀ w', EOn (fun _ => True) wr w' → w'.cell? ⟨g', m * 3 + 1, none⟩ = _ := fun w' hx => hx.cell trivial c1
          have z2 : ∀ w', EOn (fun _ => True) wr w' → w'.cell? ⟨g', m * 3 + 2, none⟩ = _ := fun w' hx => hx.cell trivial c2
          have HAM := Lib.hid hAm
          clear hge hAm
          by_cases hgt : x.lo < a.lo
          · have hd4 : decide (x.lo < a.lo) = true := decide_eq_true hgt
            go_wp2_with fail
            refine wp_lex (fun _ => True) [true, true, true, true, true, true, true, true, true, true, true, true, true, true, true, true] (by kernel_rfl) (by kernel_rfl) ?_
            repeat first
              | refine wpG_move (by rfl) (by simp only [Act.eval, Array.getD_eq_getD_getElem?, List.getElem?_toArray, List.getElem?_cons_succ, List.getElem?_cons_zero, Option.getD_some]; try rfl) (by simp only [Act.put, List.setIfInBounds_toArray, List.set_cons_succ, List.set_cons_zero]; rfl) ?_
              | refine wpG_assign (by rfl) (by simp only [Act.eval, Array.getD_eq_getD_getElem?, List.getElem?_toArray, List.getElem?_cons_succ, List.getElem?_cons_zero, Option.getD_some]; try rfl) (by simp only [Act.put, List.setIfInBounds_toArray, List.set_cons_succ, List.set_cons_zero]; rfl) ?_
              | refine wpG_val (by rfl) (fun w' hx => (by go_simp; first | (go_bits; first | exact rfl | exact ⟨by omega, rfl⟩) | exact rfl | exact (if_neg (by omega)).trans rfl | exact ⟨by omega, rfl⟩)) (by simp only [Act.put, List.setIfInBounds_toArray, List.set_cons_succ, List.set_cons_zero]; rfl) ?_
              | refine wpG_no (by rfl) (by simp only [Act.put, List.setIfInBounds_toArray, List.set_cons_succ, List.set_cons_zero]; rfl) ?_
            refine wpG_end (fun w5 hx5 => wpList_nil (gQ_normal ?_))
            have hrow5 := ownsRow_ext hrow hx5
            have d0 := hx5.cell c0
            have d1 := hx5.cell c1
            have d2 := hx5.cell c2
            have hxw5 := Ext.trans hx hx5
            obtain ⟨n1, n2, n3⟩ := own_setR hrow5 (m + 1) (by have := HAM.out; have := hs.out.2.1; simp at *; omega) a
            have hset : ((A' ++ [a]) ++ s :: B).set (m + 1) a = A' ++ a :: a :: B := by
              have e := HAM.out
              rw [← e]
              simp
            rw [hset] at n1
            have hxw6 : Ext w (setR w5 g' (m + 1) a) := Below.trans hxw5 (n2 hxw5.sz)
            have hn := Lib.hid (show A'.length = m ∧ A'.length + (a :: B).length = i ∧ A' ++ a :: B = o ∧ ∀ b ∈ a :: B, x.lo < b.lo from ⟨HAM.out, by have := hs.out.2.1; simp at this ⊢; omega, by have := hs.out.2.2.1; simpa using this, fun b hb => by
              rcases List.mem_cons.1 hb with rfl | hb
              · exact hgt
              · exact hs.out.2.2.2 b hb⟩)
            clear hset n2 n3
            go_wp2_with (refine wpList_storeR rfl (.tmp 44) (.tmp 43) rfl (i := m + 1) a rfl rfl rfl hrow5 (by omega) ?_)
            go_roundw
            case rel => exact ⟨m, A', a :: B, a, by simp, by omega, hn, n1, hxw6⟩
            case measure => simp [intOf]
          · have hd4 : decide (x.lo < a.lo) = false := decide_eq_false hgt
            have hend : Hid (∀ y ∈ (A' ++ [a]).getLast?, y.lo ≤ x.lo) := Lib.hid (by intro y hy; simp at hy; subst hy; omega)
            go_wp2_with fail
            refine wp_lex (fun _ => True) [true, true, true, true, true, true, true, true, true, true, true, true, true, true, true, true] (by kernel_rfl) (by kernel_rfl) ?_
            repeat first
              | refine wpG_move (by rfl) (by simp only [Act.eval, Array.getD_eq_getD_getElem?, List.getElem?_toArray, List.getElem?_cons_succ, List.getElem?_cons_zero, Option.getD_some]; try rfl) (by simp only [Act.put, List.setIfInBounds_toArray, List.set_cons_succ, List.set_cons_zero]; rfl) ?_
              | refine wpG_assign (by rfl) (by simp only [Act.eval, Array.getD_eq_getD_getElem?, List.getElem?_toArray, List.getElem?_cons_succ, List.getElem?_cons_zero, Option.getD_some]; try rfl) (by simp only [Act.put, List.setIfInBounds_toArray, List.set_cons_succ, List.set_cons_zero]; rfl) ?_
              | refine wpG_val (by rfl) (fun w' hx => (by go_simp; first | (go_bits; first | exact rfl | exact ⟨by omega, rfl⟩) | exact rfl | exact (if_neg (by omega)).trans rfl | exact ⟨by omega, rfl⟩)) (by simp only [Act.put, List.setIfInBounds_toArray, List.set_cons_succ, List.set_cons_zero]; rfl) ?_
              | refine wpG_no (by rfl) (by simp only [Act.put, List.setIfInBounds_toArray, List.set_cons_succ, List.set_cons_zero]; rfl) ?_
            refine wpG_end (fun w5 hx5 => wpList_nil (gQ_normal ?_))
            have hrow5 := ownsRow_ext hrow hx5
            have d0 := hx5.cell a1
            have d1 := hx5.cell a2
            have d2 := hx5.cell a3
            have hxw5 := Ext.trans hx hx5
            obtain ⟨n1, n2, n3⟩ := own_setR hrow5 (m + 1) (by have := hs.out.1; have := hs.out.2.1; simp at *; omega) x
            have hset : ((A' ++ [a]) ++ s :: B).set (m + 1) x = (A' ++ [a]) ++ x :: B := by
              have e := hs.out.1
              conv => lhs; rw [← e]
              simp
            rw [hset] at n1
            have hfin := Lib.hid (ins_ok hlt HXE.out ho.out hs.out.2.2.1 hs.out.2.2.2 hend.out)
            have hxw6 : Ext w (setR w5 g' (m + 1) x) := Below.trans hxw5 (n2 hxw5.sz)
            clear hset n2 n3
            go_wp2_with (refine wpList_storeR rfl (.tmp 53) (.tmp 52) rfl (i := (m + 1)) x rfl rfl rfl hrow5 (by omega) ?_)
            go_roundw
            case rel => exact ⟨i + 1, (A' ++ [a]) ++ x :: B, by simp, by omega, hfin, n1, hxw6⟩
            case measure => simp [intOf]; omega
    · have hd : decide (i < l.length) = false := decide_eq_false hlt
      have ho1 := ho.out.1
      have hoi : i = l.length := by omega
      have hperm := ho.out.2.1
      rw [hoi, List.take_length] at hperm
      have HPM := Lib.hid hperm
      have HO1 := Lib.hid ho1
      clear hperm ho1 hoi
      go_wp2_with fail
      go_ret
      exact ⟨_, o, rfl, HPM.out, ho.out.2.2, by rw [HO1.out]; exact hrow, hx⟩
end Go.Proofs.Ytbbemipidkhmfaa
