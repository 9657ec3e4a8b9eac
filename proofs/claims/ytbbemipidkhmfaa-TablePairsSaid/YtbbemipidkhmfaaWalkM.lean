/-
  A table's bytes.
-/
import Derived.Test.YtbbemipidkhmfaaWalkL
import Derived.Test.YtbbemipidkhmfaaPlanB
namespace Go.Proofs.Ytbbemipidkhmfaa
open Go.RowKit Go.Maps Go.Shelf

/-- Ranges as bytes. -/
def rgB : Int → List Rng → List Int
  | _, [] => []
  | p, x :: t => numB (x.lo - p).toNat ++ (numB (x.hi - x.lo).toNat ++ (x.cl :: rgB (x.hi + 1) t))
/-- Ranges behind p. -/
def Asc : Int → List Rng → Prop
  | p, [] => p ≤ 1114112
  | p, x :: t => p ≤ x.lo ∧ x.lo ≤ x.hi ∧ x.hi ≤ 1114111 ∧ 0 ≤ x.cl ∧ x.cl ≤ 255 ∧ Asc (x.hi + 1) t
theorem Asc.from {p q : Int} {l : List Rng} (h : Asc q l) (hp : p ≤ q) : Asc p l := by
  cases l with
  | nil => rw [Asc] at *; omega
  | cons x t => rw [Asc] at *; exact ⟨by omega, h.2⟩
theorem RunsFrom.asc {f : Int → Int} (q : Rng → Bool) (hf : ∀ r, 0 ≤ r → r ≤ 1114111 → 0 ≤ f r ∧ f r ≤ 255) : ∀ {l : List Rng} {s : Int}, 0 ≤ s → RunsFrom f s 1114112 l → Asc s (l.filter q)
  | [], s, h0, h => by rw [RunsFrom] at h; subst h; exact Int.le_refl _
  | x :: t, s, h0, h => by
    obtain ⟨a1, a2, a3, a4, a5⟩ := h
    have hle := a5.le
    have ih := RunsFrom.asc q hf (by omega) a5
    have h1 := hf x.lo (by omega) (by omega)
    rw [a3 x.lo (by omega) (by omega)] at h1
    rw [List.filter_cons]
    split
    · exact ⟨by omega, a2, by omega, h1.1, h1.2, ih⟩
    · exact ih.from (by omega)
theorem Asc.rise {p : Int} : ∀ {l : List Rng}, Asc p l → 0 ≤ p → Rise l ∧ ∀ x ∈ l, p ≤ x.lo := by
  intro l
  induction l generalizing p with
  | nil => intro _ _; exact ⟨trivial, by simp⟩
  | cons x t ih =>
    intro h h0
    obtain ⟨h1, h2, h3, h4, h5, h6⟩ := h
    obtain ⟨i1, i2⟩ := ih h6 (by omega)
    refine ⟨⟨⟨by omega, h2, h3, h4, h5⟩, fun y hy => by have := i2 y hy; omega, i1⟩, ?_⟩
    intro y hy
    rcases List.mem_cons.1 hy with rfl | hy
    · exact h1
    · have := i2 y hy; omega
theorem Asc.drop {p : Int} {l : List Rng} (h : Asc p l) : ∀ i, ∃ q, p ≤ q ∧ Asc q (l.drop i)
  | 0 => ⟨p, Int.le_refl _, h⟩
  | i + 1 => by
    cases l with
    | nil => exact ⟨p, Int.le_refl _, by simpa using h⟩
    | cons x t =>
      obtain ⟨q, h1, h2⟩ := Asc.drop h.2.2.2.2.2 i
      obtain ⟨g1, g2, _⟩ := h
      exact ⟨q, by omega, by simpa using h2⟩
theorem rgB_length : ∀ {l : List Rng} {p : Int}, 0 ≤ p → Asc p l → (rgB p l).length ≤ l.length * 7
  | [], _, _, _ => by simp [rgB]
  | x :: t, p, h0, h => by
    obtain ⟨h1, h2, h3, h4, h5, h6⟩ := h
    have ih := rgB_length (by omega) h6
    have e1 := numB_length 2 (x.lo - p).toNat (by omega)
    have e2 := numB_length 2 (x.hi - x.lo).toNat (by omega)
    simp only [rgB, List.length_append, List.length_cons]
    omega
/-- A table's bytes. -/
def bytesOf (rest : Int) (L : List Rng) : List Int := rest :: (numB L.length ++ rgB 0 L)
theorem Tab.cls {W : World} {T : Nat} {rest : Int} {f : Int → Int} {U : List (List Int)} {ix : List Nat} {ob oc ub uc : Nat} (h : Tab W T rest f U ix ob oc ub uc) : ∀ r, 0 ≤ r → r ≤ 1114111 → 0 ≤ f r ∧ f r ≤ 255 := by
  intro r h0 h1
  obtain ⟨m, rfl⟩ : ∃ m : Nat, r = (m : Int) := ⟨r.toNat, by omega⟩
  have e := h.ixok (m / 128) (by rw [h.ixl]; omega)
  have hb := h.okb _ (List.mem_of_getElem? e)
  have hg := blkOf_get f (m / 128) (m % 128) (by rw [blkOf_length]; omega)
  rw [show 128 * (m / 128) + m % 128 = m from by omega] at hg
  rw [← hg]
  exact hb.2 _ (List.getElem_mem _)
theorem own1 (w : World) (c : Int) {n₀ : Nat} (h : n₀ ≤ w.heap.size) : (w.alloc (.cells #[.int .u8 c] 5)).ownsRow n₀ 5 1 (.slice (some ⟨w.heap.size, 0, none⟩) 1 1) 1 (byV [c]) :=
  ⟨rfl, .inr ⟨_, 1, _, rfl, h, World.alloc_heap_new w _, Nat.le_refl _, by decide, rfl, rfl⟩⟩
theorem c_BytesNil (w : World) : Calls Try.prog 26 #[.pointer none] w fun e w' => e = .returned (.slice none 0 0) ∧ Ext w w' := by
  go_enter Try.func26, Try.ntmps26
  go_wp2_with fail
  go_ret
  exact ⟨rfl, Ext.refl w⟩

set_option maxRecDepth 100000 in
set_option maxHeartbeats 4000000 in
/-- Bytes, in memory of the call's own. -/
theorem c_Bytes {T : Nat} {rest : Int} {f : Int → Int} {U : List (List Int)} {ix : List Nat} {ob oc ub uc : Nat} (w : World) (h : Tab w T rest f U ix ob oc ub uc) :
    Calls Try.prog 26 #[.pointer (some ⟨T, 0, none⟩)] w fun e w' => ∃ v l, e = .returned v ∧ RunsFrom f 0 1114112 l ∧ w'.ownsRow w.heap.size 5 1 v (bytesOf rest (l.filter (fun x => !(x.cl == rest)))).length (byV (bytesOf rest (l.filter (fun x => !(x.cl == rest))))) ∧ Ext w w' := by
  obtain ⟨i0, hi, hz0, hz1, hz2⟩ := info_parts info5p
  go_enter Try.func26, Try.ntmps26
  go_wp2_with fail
  refine (c_Ranges w h).mono ?_
  rintro e w1 ⟨v, l, rfl, hr, ho, hx1⟩
  have hasc := hr.asc (fun x => !(x.cl == rest)) h.cls (by omega)
  have hlen : (l.filter (fun x => !(x.cl == rest))).length ≤ 1114112 := by
    have := hr.le
    have := List.length_filter_le (fun x => !(x.cl == rest)) l
    omega
  obtain ⟨L, hL⟩ : ∃ L, l.filter (fun x => !(x.cl == rest)) = L := ⟨_, rfl⟩
  simp only [hL] at ho hasc hlen ⊢
  have HL := Lib.hid hL
  clear hL
  have hrg := RgRow.of_own ho
  obtain ⟨pp, cap, rfl⟩ : ∃ p cap, v = .slice p L.length cap := by obtain ⟨p, cap, e, _⟩ := hrg; exact ⟨p, cap, e⟩
  have h1 := h.ext hx1
  have c0 : w1.cell? ⟨T, 0, none⟩ = some (.int .i64 rest) := cell_blk h1.hT 0
  have hr0 := h.r0
  have hrm : rest % 256 = rest := by omega
  have hs1 := hx1.sz
  have own0 := own1 w1 rest (n₀ := w1.heap.size) (Nat.le_refl _)
  have hlen2 := hlen
  go_wp2_with fail
  refine (c_number _ [rest] L.length w1.heap.size _ own0 (by simp) (by omega) (by simp)).mono ?_
  rintro e w2 ⟨b0, rfl, hb0, hbl0, -⟩
  have hx2 : Ext w1 w2 := Below.trans (Ext.alloc (Ext.refl w1) _) hbl0
  clear hbl0 own0
  go_wp2_with fail
  go_loopw [4, 5, 23] (fun b p k w' => ∃ (i : Nat) (q : Int) (bs : List Int), k = .int .i64 (i : Nat) ∧ p = .int .i32 q ∧ i ≤ L.length ∧ 0 ≤ q ∧ Hid (bs ++ rgB q (L.drop i) = bytesOf rest L) ∧ bs.length ≤ 5 + i * 7 ∧ Asc q (L.drop i) ∧ w'.ownsRow w1.heap.size 5 1 b bs.length (byV bs) ∧ Ext w1 w') (fun _ _ k _ => L.length + 1 - (intOf k).toNat)
  case atStart => exact ⟨0, 0, _, rfl, rfl, by omega, by omega, Lib.hid (by simp [bytesOf]), by have := numB_length 2 L.length (by omega); simp; omega, by simpa using hasc, hb0, hx2⟩
  case round =>
    obtain ⟨i, q, bs, rfl, rfl, hil, hq0, hbs, hbl, hasc, hrow, hx⟩ := hrel
    have hsz : w1.heap.size ≤ wr.heap.size := hx.sz
    by_cases hlt : i < L.length
    · obtain ⟨b1, o1, rfl, hc1⟩ := (hrg.mono hx).at (by intro e; rw [e] at hlt; simp at hlt)
      obtain ⟨a1, a2, a3⟩ := hc1 i hlt
      rw [List.drop_eq_getElem_cons hlt] at hasc hbs
      obtain ⟨x, hxe⟩ : ∃ x, L[i] = x := ⟨_, rfl⟩
      rw [hxe] at a1 a2 a3 hasc hbs
      have HXE := Lib.hid hxe
      obtain ⟨s1, s2, s3, s4, s5, s6⟩ := hasc
      have hd : decide (i < L.length) = true := decide_eq_true hlt
      have i1 : ((i : Nat) : Int) < (L.length : Nat) := by omega
      obtain ⟨g1, hg1⟩ : ∃ g : Nat, x.lo - q = (g : Nat) := ⟨(x.lo - q).toNat, by omega⟩
      obtain ⟨g2, hg2⟩ : ∃ g : Nat, x.hi - x.lo = (g : Nat) := ⟨(x.hi - x.lo).toNat, by omega⟩
      have l1 : g1 ≤ 1114111 := by omega
      have l2 : g2 ≤ 1114111 := by omega
      have lm : x.cl % 256 = x.cl := by omega
      clear hxe hc1
      have hxA : Ext wr (wr.alloc (.cells #[.int .i32 x.lo, .int .i32 x.hi, .int .i64 x.cl] 32)) := (Ext.refl wr).alloc _
      have hrowA := ownsRow_ext hrow hxA
      go_wp2_with fail
      refine (c_number _ bs g1 w1.heap.size _ hrowA (by simp; omega) (by omega) (by omega)).mono ?_
      rintro e w3 ⟨b3, rfl, hrow3, hbl3, hfar3⟩
      have hblkA := World.alloc_heap_new wr (.cells #[.int .i32 x.lo, .int .i32 x.hi, .int .i64 x.cl] 32)
      have hblk3 := hfar3.blk hblkA (row_ne hrowA hblkA (by decide))
      have hx3 : Ext w1 w3 := Below.trans (Ext.alloc hx _) hbl3
      clear hfar3 hbl3 hblkA
      go_wp2_with fail
      have q1 : ∀ w', EOn (fun a => a.block = wr.heap.size) w3 w' → w'.cell? ⟨wr.heap.size, 0, none⟩ = some (.int .i32 x.lo) := fun w' hx => hx.cell rfl (cell_blk hblk3 0)
      have q2 : ∀ w', EOn (fun a => a.block = wr.heap.size) w3 w' → w'.cell? ⟨wr.heap.size, 1, none⟩ = some (.int .i32 x.hi) := fun w' hx => hx.cell rfl (cell_blk hblk3 1)
      have q3 : ∀ w', EOn (fun a => a.block = wr.heap.size) w3 w' → w'.cell? ⟨wr.heap.size, 2, none⟩ = some (.int .i64 x.cl) := fun w' hx => hx.cell rfl (cell_blk hblk3 2)
      refine wp_two (fun a => a.block = wr.heap.size) [0, 1, 2, 3, 4, 5, 6, 8, 9, 10] 7 11 [11, 12, 13] [7, 12, 13] [false, false, true] [false, false, true] (by kernel_rfl) (by kernel_rfl) (by simp only [List.map_cons, List.map_nil, nth]; rfl) (by simp only [List.map_cons, List.map_nil, nth]; rfl) (by simp only [List.map_cons, List.map_nil, nth]; rfl) (by simp only [nth]; rfl) (by simp only [nth]; rfl) ?_
      repeat first
        | refine wpT_move (by rfl) (by simp only [Act.eval, Array.getD_eq_getD_getElem?, List.getElem?_toArray, List.getElem?_cons_succ, List.getElem?_cons_zero, Option.getD_some]; try rfl) (by simp only [Act.put, List.setIfInBounds_toArray, List.set_cons_succ, List.set_cons_zero]; rfl) ?_
        | refine wpT_val (by rfl) (fun w' hx => (by go_simp; first | (go_bits; first | exact rfl | exact ⟨by omega, rfl⟩) | exact rfl | exact (if_neg (by omega)).trans rfl | exact ⟨by omega, rfl⟩)) (by simp only [Act.put, List.setIfInBounds_toArray, List.set_cons_succ, List.set_cons_zero]; rfl) ?_
      refine wpT_end ⟨stepF_do (by rfl) (fun w4 hx4 K hK => ?_), stepF_do (by rfl) (fun w4 hx4 K hK => ?_)⟩
      · clear q1 q2 q3
        go_wp2_with fail
        have hxB := Ext.trans hx3 hx4
        have hrow4 := ownsRow_ext hrow3 hx4
        refine (c_number _ (bs ++ numB g1) g2 w1.heap.size w4 hrow4 hxB.sz (by omega) (by have := numB_length 2 g1 (by omega); simp; omega)).mono ?_
        rintro e w5 ⟨b5, rfl, hrow5, hbl5, hfar5⟩
        have hblk4 := hx4.blk hblk3
        have hne := row_ne hrow4 hblk4 (by decide)
        refine hK _ _ ⟨⟨hbl5.size, fun a ha hb => World.cell?_of_block (hfar5.2.1 a.block hb (by rw [ha]; exact hne))⟩, ?_⟩
        clear hK
        refine wpG_do (by rfl) (fun w6 hx6 K hK => ?_)
        go_wp2_with fail
        refine ⟨EOn.of_ext ((Ext.refl w6).alloc _), ?_⟩
        refine wpG_do (by rfl) (fun w7 hx7 K hK => ?_)
        have hx57 : Ext w5 w7 := (hx6.alloc _).trans hx7
        have hrow7 := ownsRow_ext hrow5 hx57
        have hnew := hx7.blk (World.alloc_heap_new w6 _)
        have hblk7 := hx57.blk (hfar5.blk hblk4 hne)
        have hX7 : Ext w1 w7 := Ext.trans (Below.trans hxB hbl5) hx57
        refine wp_append_lies w7 (.tmp 41) (.tmp 45) 45 rfl w1.heap.size 5 i0 (.int .u8 0) 1 1 Try.underlying45 hi hz0 hz1 hz2 rfl (by decide)
          _ ((bs ++ numB g1) ++ numB g2).length (byV ((bs ++ numB g1) ++ numB g2)) rfl hrow7 ⟨w6.heap.size, 0, none⟩ 1 1 [.int .u8 x.cl] rfl rfl (World.news_of_block hnew) (by intro u hu; simp at hu; rw [hu]; rfl) (by decide)
          (by have := numB_length 2 g1 (by omega); have := numB_length 2 g2 (by omega); unfold maxLen; simp only [List.length_append]; omega) (by have := numB_length 2 g1 (by omega); have := numB_length 2 g2 (by omega); simp only [List.length_append]; omega) hX7.sz _ rfl ?_
        intro g' cap' w8 hown8 hgrow8 hlies8 hglt8
        have hne8 := row_ne hrow7 hblk7 (by decide)
        refine hK _ _ ⟨⟨hgrow8.size, fun a ha hb => World.cell?_of_block (hgrow8.block a.block hb (by rw [ha]; exact hne8))⟩, ?_⟩
        clear hK
        repeat first
          | refine wpG_move (by rfl) (by simp only [Act.eval, Array.getD_eq_getD_getElem?, List.getElem?_toArray, List.getElem?_cons_succ, List.getElem?_cons_zero, Option.getD_some]; try rfl) (by simp only [Act.put, List.setIfInBounds_toArray, List.set_cons_succ, List.set_cons_zero]; rfl) ?_
          | refine wpG_assign (by rfl) (by simp only [Act.eval, Array.getD_eq_getD_getElem?, List.getElem?_toArray, List.getElem?_cons_succ, List.getElem?_cons_zero, Option.getD_some]; try rfl) (by simp only [Act.put, List.setIfInBounds_toArray, List.set_cons_succ, List.set_cons_zero]; rfl) ?_
          | refine wpG_val (by rfl) (fun w' hx => (by go_simp; first | (go_bits; first | exact rfl | exact ⟨by omega, rfl⟩) | exact rfl | exact (if_neg (by omega)).trans rfl | exact ⟨by omega, rfl⟩)) (by simp only [Act.put, List.setIfInBounds_toArray, List.set_cons_succ, List.set_cons_zero]; rfl) ?_
          | refine wpG_no (by rfl) (by simp only [Act.put, List.setIfInBounds_toArray, List.set_cons_succ, List.set_cons_zero]; rfl) ?_
        refine wpG_end (fun w9 hx9 => wpList_nil (gQ_normal ?_))
        have hrow9 := ownsRow_ext hown8 hx9
        have hblk9 := hx9.blk ((hgrow8.block _ (blk_lt hblk7) hne8).trans hblk7)
        have hX9 : Ext w1 w9 := Ext.trans (Below.grown hX7 hgrow8 hX7.sz (fun k e => (hrow7.lt k e).1)) hx9
        have k2 := cell_blk hblk9 1
        simp only [List.getElem?_toArray, List.getElem?_cons_succ, List.getElem?_cons_zero] at k2
        clear hown8 hgrow8 hrow7 hblk7 hnew
        go_wp2_with fail
        go_roundw
        case rel =>
          have ebs : bs ++ numB g1 ++ numB g2 ++ [x.cl] ++ rgB (x.hi + 1) (L.drop (i + 1)) = bytesOf rest L := by
            have := hbs.out
            simp only [rgB, hg1, hg2, Int.toNat_natCast] at this
            rw [← this]
            simp only [List.append_assoc, List.cons_append, List.nil_append]
          refine ⟨i + 1, x.hi + 1, bs ++ numB g1 ++ numB g2 ++ [x.cl], by simp, rfl, by omega, by omega, Lib.hid ebs, by have := numB_length 2 g1 (by omega); have := numB_length 2 g2 (by omega); simp only [List.length_append, List.length_cons, List.length_nil]; omega, s6, ?_, hX9⟩
          have e : (bs ++ numB g1 ++ numB g2 ++ [x.cl]).length = (bs ++ numB g1 ++ numB g2).length + 1 := by rw [List.length_append]; rfl
          rw [byV_append, e]
          exact hrow9
        case measure =>
          show L.length + 1 - (intOf (.int .i64 ((i : Nat) + 1 : Int))).toNat < L.length + 1 - (intOf (.int .i64 ((i : Nat) : Int))).toNat
          simp [intOf]
          omega
      · clear q1 q2 q3
        go_wp2_with fail
        refine ⟨EOn.of_ext ((Ext.refl w4).alloc _), ?_⟩
        refine wpG_do (by rfl) (fun w5 hx5 K hK => ?_)
        go_wp2_with fail
        have hx35 : Ext w3 w5 := (hx4.alloc _).trans hx5
        have hrow5 := ownsRow_ext hrow3 hx35
        have hxB := Ext.trans hx3 hx35
        refine (c_number _ (bs ++ numB g1) g2 w1.heap.size w5 hrow5 hxB.sz (by omega) (by have := numB_length 2 g1 (by omega); simp; omega)).mono ?_
        rintro e w6 ⟨b6, rfl, hrow6, hbl6, hfar6⟩
        have hblk5 := hx35.blk hblk3
        have hne := row_ne hrow5 hblk5 (by decide)
        refine hK _ _ ⟨⟨hbl6.size, fun a ha hb => World.cell?_of_block (hfar6.2.1 a.block hb (by rw [ha]; exact hne))⟩, ?_⟩
        clear hK
        refine wpG_do (by rfl) (fun w7 hx7 K hK => ?_)
        have hrow7 := ownsRow_ext hrow6 hx7
        have hnew := hx7.blk (hfar6.blk (hx5.blk (World.alloc_heap_new w4 _)) (fun e => by have := (hrow3.lt w4.heap.size e.symm).2; have := hx4.sz; omega))
        have hblk7 := hx7.blk (hfar6.blk hblk5 hne)
        have hX7 : Ext w1 w7 := Ext.trans (Below.trans hxB hbl6) hx7
        refine wp_append_lies w7 (.tmp 41) (.tmp 45) 45 rfl w1.heap.size 5 i0 (.int .u8 0) 1 1 Try.underlying45 hi hz0 hz1 hz2 rfl (by decide)
          _ ((bs ++ numB g1) ++ numB g2).length (byV ((bs ++ numB g1) ++ numB g2)) rfl hrow7 ⟨w4.heap.size, 0, none⟩ 1 1 [.int .u8 x.cl] rfl rfl (World.news_of_block hnew) (by intro u hu; simp at hu; rw [hu]; rfl) (by decide)
          (by have := numB_length 2 g1 (by omega); have := numB_length 2 g2 (by omega); unfold maxLen; simp only [List.length_append]; omega) (by have := numB_length 2 g1 (by omega); have := numB_length 2 g2 (by omega); simp only [List.length_append]; omega) hX7.sz _ rfl ?_
        intro g' cap' w8 hown8 hgrow8 hlies8 hglt8
        have hne8 := row_ne hrow7 hblk7 (by decide)
        refine hK _ _ ⟨⟨hgrow8.size, fun a ha hb => World.cell?_of_block (hgrow8.block a.block hb (by rw [ha]; exact hne8))⟩, ?_⟩
        clear hK
        repeat first
          | refine wpG_move (by rfl) (by simp only [Act.eval, Array.getD_eq_getD_getElem?, List.getElem?_toArray, List.getElem?_cons_succ, List.getElem?_cons_zero, Option.getD_some]; try rfl) (by simp only [Act.put, List.setIfInBounds_toArray, List.set_cons_succ, List.set_cons_zero]; rfl) ?_
          | refine wpG_assign (by rfl) (by simp only [Act.eval, Array.getD_eq_getD_getElem?, List.getElem?_toArray, List.getElem?_cons_succ, List.getElem?_cons_zero, Option.getD_some]; try rfl) (by simp only [Act.put, List.setIfInBounds_toArray, List.set_cons_succ, List.set_cons_zero]; rfl) ?_
          | refine wpG_val (by rfl) (fun w' hx => (by go_simp; first | (go_bits; first | exact rfl | exact ⟨by omega, rfl⟩) | exact rfl | exact (if_neg (by omega)).trans rfl | exact ⟨by omega, rfl⟩)) (by simp only [Act.put, List.setIfInBounds_toArray, List.set_cons_succ, List.set_cons_zero]; rfl) ?_
          | refine wpG_no (by rfl) (by simp only [Act.put, List.setIfInBounds_toArray, List.set_cons_succ, List.set_cons_zero]; rfl) ?_
        refine wpG_end (fun w9 hx9 => wpList_nil (gQ_normal ?_))
        have hrow9 := ownsRow_ext hown8 hx9
        have hblk9 := hx9.blk ((hgrow8.block _ (blk_lt hblk7) hne8).trans hblk7)
        have hX9 : Ext w1 w9 := Ext.trans (Below.grown hX7 hgrow8 hX7.sz (fun k e => (hrow7.lt k e).1)) hx9
        have k2 := cell_blk hblk9 1
        simp only [List.getElem?_toArray, List.getElem?_cons_succ, List.getElem?_cons_zero] at k2
        clear hown8 hgrow8 hrow7 hblk7 hnew
        go_wp2_with fail
        go_roundw
        case rel =>
          have ebs : bs ++ numB g1 ++ numB g2 ++ [x.cl] ++ rgB (x.hi + 1) (L.drop (i + 1)) = bytesOf rest L := by
            have := hbs.out
            simp only [rgB, hg1, hg2, Int.toNat_natCast] at this
            rw [← this]
            simp only [List.append_assoc, List.cons_append, List.nil_append]
          refine ⟨i + 1, x.hi + 1, bs ++ numB g1 ++ numB g2 ++ [x.cl], by simp, rfl, by omega, by omega, Lib.hid ebs, by have := numB_length 2 g1 (by omega); have := numB_length 2 g2 (by omega); simp only [List.length_append, List.length_cons, List.length_nil]; omega, s6, ?_, hX9⟩
          have e : (bs ++ numB g1 ++ numB g2 ++ [x.cl]).length = (bs ++ numB g1 ++ numB g2).length + 1 := by rw [List.length_append]; rfl
          rw [byV_append, e]
          exact hrow9
        case measure =>
          show L.length + 1 - (intOf (.int .i64 ((i : Nat) + 1 : Int))).toNat < L.length + 1 - (intOf (.int .i64 ((i : Nat) : Int))).toNat
          simp [intOf]
          omega
    · have hd : decide (i < L.length) = false := decide_eq_false hlt
      go_wp2_with fail
      go_ret
      have hi2 : i = L.length := by omega
      subst hi2
      refine ⟨_, l, rfl, hr, ?_, Ext.trans hx1 hx⟩
      have e : bs = bytesOf rest L := by have := hbs.out; rw [List.drop_length] at this; simpa [rgB] using this
      rw [HL.out, ← e]
      exact own_lower hrow hs1
end Go.Proofs.Ytbbemipidkhmfaa
