/-
  The paragraphs of some boxes; the last boxes of their lines.
-/
import Derived.Test.YtlmkbldiicbejaaGreatDoorWrH
namespace Go.Proofs.YtlmkbldiicbejaaGreatDoor
open Go.RowKit Go.Rp Go.Maps Go.Cl Go.Shelf Go.Gr

/-- Paragraphs in cells. -/
def pgW (g o cap : Nat) (W F R H : Int) (O : List (Nat × Nat)) : List Value := O.flatMap fun x => [.slice (some ⟨g, o + x.1 * 4, none⟩) (x.2 - x.1) (cap - x.1), .int .i64 (x.1 : Nat), .int .i64 W, .int .i64 F, .int .i64 R, .int .i64 H]
theorem pgW_app (g o cap : Nat) (W F R H : Int) (a b : List (Nat × Nat)) : pgW g o cap W F R H (a ++ b) = pgW g o cap W F R H a ++ pgW g o cap W F R H b := by simp [pgW]
theorem Tryz.infoPg : (Tryz.prog.info? 61).map (fun i => (i.zero, i.size, i.bytes)) = some (some (.agg #[.slice none 0 0, .int .i64 0, .int .i64 0, .int .i64 0, .int .i64 0, .int .i64 0]), 6, 64) := by kernel_rfl
theorem parsL_next (l : List Wp.Bx) {p i : Nat} (hp : p ≤ i) (hi : i < l.length) (hm : ∀ j, p ≤ j → j < i → (Wp.gB l j).m = false) (he : (Wp.gB l i).m = true ∨ i + 1 = l.length) : Wp.parsL l l.length p = (p, i + 1) :: Wp.parsL l l.length (i + 1) := by
  have hl : Wp.lst l p = i := Wp.lst_uniq l hp (fun q => by rcases he with e | e; rw [e] at q; cases q.2; omega) (fun j h1 h2 => ⟨by omega, hm j h1 h2⟩)
  rw [Wp.parsL_fuel l l.length (l.length + 1) p (by omega) (by omega), Wp.parsL, if_pos (by omega), hl]
set_option maxRecDepth 100000 in
set_option maxHeartbeats 4000000 in
theorem c_pars (g o cap : Nat) (W F R H : Int) (l : List Wp.Bx) (w : World) (hrow : BxRow w (.slice (some ⟨g, o, none⟩) l.length cap) (l.map bxI)) (hl : l.length ≤ 4096) :
    Calls Tryz.prog 26 #[.slice (some ⟨g, o, none⟩) l.length cap, .agg #[.int .i64 W, .int .i64 F, .int .i64 R, .int .i64 H]] w fun e w' => ∃ v, e = .returned v ∧ w'.ownsRow w.heap.size 61 6 v (Wp.parsL l l.length 0).length (pgW g o cap W F R H (Wp.parsL l l.length 0)) ∧ Ext w w' := by
  have HROW := Lib.hid hrow
  have hlI : ((l.length : Nat) : Int) ≤ 4096 := by omega
  have hcap : l.length ≤ cap := by
    obtain ⟨p', cap', e, hc, _⟩ := hrow
    rw [List.length_map] at e hc
    obtain ⟨-, -, rfl⟩ := Value.slice.inj e
    exact hc
  obtain ⟨G, hG⟩ : ∃ G, Wp.parsL l l.length 0 = G := ⟨_, rfl⟩
  rw [hG]
  have HG := Lib.hid hG
  clear hG hrow
  go_enter Tryz.func26, Tryz.ntmps26
  go_wp2_with fail
  have hbo := World.alloc_heap_new w (.cells #[.int .i64 W, .int .i64 F, .int .i64 R, .int .i64 H] 24)
  have hx0 := (Ext.refl w).alloc (.cells #[.int .i64 W, .int .i64 F, .int .i64 R, .int .i64 H] 24)
  generalize w.alloc (.cells #[.int .i64 W, .int .i64 F, .int .i64 R, .int .i64 H] 24) = w1 at hbo hx0 ⊢
  obtain ⟨B, hB⟩ : ∃ B, w.heap.size = B := ⟨_, rfl⟩
  rw [hB] at hbo ⊢
  have HB := Lib.hid hB
  have HO := Lib.hid hbo
  have HX0 := Lib.hid hx0
  clear hbo hx0 hB
  go_loopw [5, 6, 7, 8, 11] (fun ov fv _ _ cv V => ∃ (i p : Nat) (O : List (Nat × Nat)), cv = .int .i64 (i : Nat) ∧ fv = .int .i64 (p : Nat) ∧ p ≤ i ∧ i ≤ l.length ∧ O.length ≤ i ∧ Hid (∀ j, p ≤ j → j < i → (Wp.gB l j).m = false) ∧ Hid (O ++ Wp.parsL l l.length p = G) ∧ Hid (V.ownsRow (B + 1) 61 6 ov O.length (pgW g o cap W F R H O)) ∧ Hid (V.heap[B]? = some (.cells #[.int .i64 W, .int .i64 F, .int .i64 R, .int .i64 H] 24 (0, 0)) ∧ Ext w V) ∧ Hid (i = l.length → p = l.length)) (fun _ _ _ _ cv _ => l.length + 1 - (intOf cv).toNat)
  case atStart => exact ⟨0, 0, [], rfl, rfl, Nat.le_refl _, Nat.zero_le _, Nat.zero_le _, Lib.hid (fun j h1 h2 => by omega), HG, Lib.hid (World.ownsRow_nil _ _ _ _), Lib.hid ⟨HO.out, HX0.out⟩, Lib.hid id⟩
  case round =>
    obtain ⟨i, p, O, rfl, rfl, hpi, hin, hOi, HM, HGO, HOW, HST, HLE⟩ := hrel
    obtain ⟨V, rfl⟩ : ∃ V, V = wr := ⟨_, rfl⟩
    obtain ⟨po, co, rfl⟩ := own_slice HOW.out
    by_cases hil : i < l.length
    · have hI : ((i : Nat) : Int) < (l.length : Nat) := by omega
      have hd : decide (i < l.length) = true := decide_eq_true hil
      obtain ⟨p', cap', e', _, hcc⟩ := HROW.out.ext HST.out.2
      rw [List.length_map] at e'
      obtain ⟨rfl, -, rfl⟩ := Value.slice.inj e'
      obtain ⟨g', o', e2, _, h6⟩ := hcc (by intro e; have := congrArg List.length e; rw [List.length_map, List.length_nil] at this; omega)
      obtain ⟨rfl, rfl, -⟩ := Addr.mk.inj (Option.some.inj e2)
      have h7 := h6 i (by rw [List.length_map]; exact hil)
      have hgb : (l.map bxI)[i]'(by rw [List.length_map]; exact hil) = bxI (Wp.gB l i) := by
        unfold Wp.gB
        rw [List.getD_eq_getElem?_getD, List.getElem?_eq_getElem hil]
        simp
      rw [hgb] at h7
      have HNX := Lib.hid (parsL_next l hpi hil HM.out)
      have HM2 := Lib.hid (show (Wp.gB l i).m = false → ∀ j, p ≤ j → j < i + 1 → (Wp.gB l j).m = false from fun h j h1 h2 => by
        by_cases e : j = i
        · subst e; exact h
        · exact HM.out j h1 (by omega))
      generalize Wp.gB l i = x at h7 HNX HM2
      obtain ⟨xw, xb, xh, xm⟩ := x
      simp only [bxI] at h7 HNX HM2
      obtain ⟨d0, d1, d2, d3⟩ := h7
      clear h6 hcc e' e2 hgb
      cases xm
      · by_cases hlast : i + 1 = l.length
        · have hq : (((i : Nat) : Int) == (l.length : Nat) - 1) = true := by simp; omega
          have HNY := Lib.hid (HNX.out (.inr hlast))
          clear hlast
          go_wp2_with fail
          have hxb := (Ext.refl V).alloc (.cells #[.int .i64 (xw : Nat), .int .i64 (xb : Nat), .int .i64 (xh : Nat), .bool false] 45)
          generalize V.alloc (.cells #[.int .i64 (xw : Nat), .int .i64 (xb : Nat), .int .i64 (xh : Nat), .bool false] 45) = V1 at hxb ⊢
          have hb1 := hxb.blk HST.out.1
          have s0 : ∀ w', EOn (fun a => a.block ≤ B) V1 w' → w'.cell? ⟨B, 0, none⟩ = some (.int .i64 W) := fun w' h => h.cell (Nat.le_refl B) ((cell_blk hb1 0).trans rfl)
          have s1 : ∀ w', EOn (fun a => a.block ≤ B) V1 w' → w'.cell? ⟨B, 1, none⟩ = some (.int .i64 F) := fun w' h => h.cell (Nat.le_refl B) ((cell_blk hb1 1).trans rfl)
          have s2 : ∀ w', EOn (fun a => a.block ≤ B) V1 w' → w'.cell? ⟨B, 2, none⟩ = some (.int .i64 R) := fun w' h => h.cell (Nat.le_refl B) ((cell_blk hb1 2).trans rfl)
          have s3 : ∀ w', EOn (fun a => a.block ≤ B) V1 w' → w'.cell? ⟨B, 3, none⟩ = some (.int .i64 H) := fun w' h => h.cell (Nat.le_refl B) ((cell_blk hb1 3).trans rfl)
          have hp1 : ((p : Nat) : Int) ≤ (i : Nat) + 1 := by omega
          have hp2 : p ≤ i + 1 := by omega
          have hc1 : ((i : Nat) : Int) + 1 ≤ (cap : Nat) := by omega
          have hc2 : i + 1 ≤ cap := by omega
          have hcp : ¬ cap = p := by omega
          refine wp_lex (fun a => a.block ≤ B) [true, true, true, true, true, true, true, true, true, false, false] (by kernel_rfl) (by kernel_rfl) ?_
          repeat first
            | refine wpG_move' ?_
            | refine wpG_assign' ?_
            | refine wpG_val' ?_
            | refine wpG_no' ?_
          clear s0 s1 s2 s3 hb1
          refine wpG_do (by rfl) (fun w7 hx7 K hK => ?_)
          go_wp2_with fail
          have hnew := World.alloc_heap_new w7 (.cells #[.slice (some ⟨g, o + p * 4, none⟩) (i + 1 - p) (cap - p), .int .i64 (p : Nat), .int .i64 W, .int .i64 F, .int .i64 R, .int .i64 H] 61)
          have hx8 := hx7.alloc (.cells #[.slice (some ⟨g, o + p * 4, none⟩) (i + 1 - p) (cap - p), .int .i64 (p : Nat), .int .i64 W, .int .i64 F, .int .i64 R, .int .i64 H] 61)
          refine ⟨EOn.of_ext ((Ext.refl w7).alloc _), ?_⟩
          generalize w7.alloc (.cells #[.slice (some ⟨g, o + p * 4, none⟩) (i + 1 - p) (cap - p), .int .i64 (p : Nat), .int .i64 W, .int .i64 F, .int .i64 R, .int .i64 H] 61) = w8 at hnew hx8 ⊢
          generalize w7.heap.size = nb at hnew ⊢
          have HXA := Lib.hid (hxb.trans hx8)
          have HOA := Lib.hid (ownsRow_ext HOW.out HXA.out)
          clear hx7 hx8 hxb
          obtain ⟨i0, hi0, hz0, hz1, hz3⟩ := info_parts Tryz.infoPg
          refine wpG_push rfl (fun a w h => by obtain ⟨_, e, _⟩ := h; cases e) (.tmp 25) (.tmp 34) 58 rfl 61 i0 (.agg #[.slice none 0 0, .int .i64 0, .int .i64 0, .int .i64 0, .int .i64 0, .int .i64 0]) 6 64 Tryz.underlying58 hi0 hz0 hz1 hz3 rfl (by decide) rfl HOA.out (by have := blk_lt (HXA.out.blk HST.out.1); omega) [.slice (some ⟨g, o + p * 4, none⟩) (i + 1 - p) (cap - p), .int .i64 (p : Nat), .int .i64 W, .int .i64 F, .int .i64 R, .int .i64 H] nb 0 1 1 rfl rfl (fun j hj => by
            match j, hj with
            | 0, _ => exact (cell_blk hnew 0).trans rfl
            | 1, _ => exact (cell_blk hnew 1).trans rfl
            | 2, _ => exact (cell_blk hnew 2).trans rfl
            | 3, _ => exact (cell_blk hnew 3).trans rfl
            | 4, _ => exact (cell_blk hnew 4).trans rfl
            | 5, _ => exact (cell_blk hnew 5).trans rfl) (by intro u hu; simp at hu; rcases hu with rfl | rfl | rfl | rfl | rfl | rfl <;> rfl) (fun ad hS eq => by
            have h1 := (HOA.out.lt _ eq).1
            have h2 : ad.block ≤ B := hS
            omega) (by omega) (by decide) ?_
          intro v' w9 w10 hx9 g1 g2 g4
          obtain ⟨pv, cv9, rfl⟩ := own_slice g1
          have hO9 := ownsRow_ext HOA.out hx9
          have hh : Ext V w9 := HXA.out.trans hx9
          have hX10 : Ext w w10 := Below.grown (HST.out.2.trans hh) g2 (HST.out.2.trans hh).sz (fun k e => by have := (hO9.lt k e).1; rw [HB.out]; omega)
          have hB10 : w10.heap[B]? = _ := (g2.block B (blk_lt (hh.blk HST.out.1)) (fun e => by have := (hO9.lt B e.symm).1; omega)).trans (hh.blk HST.out.1)
          refine wpG_end (fun w11 hx11 => ?_)
          have HF := Lib.hid (And.intro (ownsRow_ext g1 hx11) (And.intro (hx11.blk hB10) (hX10.trans hx11)))
          clear hx9 hx11 g1 g2 g4 hO9 hX10 hnew hh hB10
          go_wp2_with fail
          refine gQ_normal ?_
          go_wp2_with fail
          refine ⟨⟨i + 1, i + 1, O ++ [(p, i + 1)], by simp, by simp, Nat.le_refl _, by omega, by rw [List.length_append]; simp; omega, Lib.hid (fun j h1 h2 => by omega), Lib.hid ?_, Lib.hid ?_, Lib.hid HF.out.2, Lib.hid id⟩, by simp only [intOf]; omega⟩
          · rw [List.append_assoc, ← HGO.out, HNY.out]
            rfl
          · rw [pgW_app, List.length_append]
            exact HF.out.1
        · have hq : (((i : Nat) : Int) == (l.length : Nat) - 1) = false := by simp; omega
          have HM3 := Lib.hid (HM2.out rfl)
          go_wp2_with fail
          have hxb := (Ext.refl V).alloc (.cells #[.int .i64 (xw : Nat), .int .i64 (xb : Nat), .int .i64 (xh : Nat), .bool false] 45)
          exact ⟨⟨i + 1, p, O, by simp, rfl, by omega, by omega, by omega, HM3, HGO, Lib.hid (ownsRow_ext HOW.out hxb), Lib.hid ⟨hxb.blk HST.out.1, HST.out.2.trans hxb⟩, Lib.hid (fun h => by omega)⟩, by simp only [intOf]; omega⟩
      · have HNY := Lib.hid (HNX.out (.inl rfl))
        go_wp2_with fail
        have hxb := (Ext.refl V).alloc (.cells #[.int .i64 (xw : Nat), .int .i64 (xb : Nat), .int .i64 (xh : Nat), .bool true] 45)
        generalize V.alloc (.cells #[.int .i64 (xw : Nat), .int .i64 (xb : Nat), .int .i64 (xh : Nat), .bool true] 45) = V1 at hxb ⊢
        have hb1 := hxb.blk HST.out.1
        have s0 : ∀ w', EOn (fun a => a.block ≤ B) V1 w' → w'.cell? ⟨B, 0, none⟩ = some (.int .i64 W) := fun w' h => h.cell (Nat.le_refl B) ((cell_blk hb1 0).trans rfl)
        have s1 : ∀ w', EOn (fun a => a.block ≤ B) V1 w' → w'.cell? ⟨B, 1, none⟩ = some (.int .i64 F) := fun w' h => h.cell (Nat.le_refl B) ((cell_blk hb1 1).trans rfl)
        have s2 : ∀ w', EOn (fun a => a.block ≤ B) V1 w' → w'.cell? ⟨B, 2, none⟩ = some (.int .i64 R) := fun w' h => h.cell (Nat.le_refl B) ((cell_blk hb1 2).trans rfl)
        have s3 : ∀ w', EOn (fun a => a.block ≤ B) V1 w' → w'.cell? ⟨B, 3, none⟩ = some (.int .i64 H) := fun w' h => h.cell (Nat.le_refl B) ((cell_blk hb1 3).trans rfl)
        have hp1 : ((p : Nat) : Int) ≤ (i : Nat) + 1 := by omega
        have hp2 : p ≤ i + 1 := by omega
        have hc1 : ((i : Nat) : Int) + 1 ≤ (cap : Nat) := by omega
        have hc2 : i + 1 ≤ cap := by omega
        have hcp : ¬ cap = p := by omega
        refine wp_lex (fun a => a.block ≤ B) [true, true, true, true, true, true, true, true, true, false, false] (by kernel_rfl) (by kernel_rfl) ?_
        repeat first
          | refine wpG_move' ?_
          | refine wpG_assign' ?_
          | refine wpG_val' ?_
          | refine wpG_no' ?_
        clear s0 s1 s2 s3 hb1
        refine wpG_do (by rfl) (fun w7 hx7 K hK => ?_)
        go_wp2_with fail
        have hnew := World.alloc_heap_new w7 (.cells #[.slice (some ⟨g, o + p * 4, none⟩) (i + 1 - p) (cap - p), .int .i64 (p : Nat), .int .i64 W, .int .i64 F, .int .i64 R, .int .i64 H] 61)
        have hx8 := hx7.alloc (.cells #[.slice (some ⟨g, o + p * 4, none⟩) (i + 1 - p) (cap - p), .int .i64 (p : Nat), .int .i64 W, .int .i64 F, .int .i64 R, .int .i64 H] 61)
        refine ⟨EOn.of_ext ((Ext.refl w7).alloc _), ?_⟩
        generalize w7.alloc (.cells #[.slice (some ⟨g, o + p * 4, none⟩) (i + 1 - p) (cap - p), .int .i64 (p : Nat), .int .i64 W, .int .i64 F, .int .i64 R, .int .i64 H] 61) = w8 at hnew hx8 ⊢
        generalize w7.heap.size = nb at hnew ⊢
        have HXA := Lib.hid (hxb.trans hx8)
        have HOA := Lib.hid (ownsRow_ext HOW.out HXA.out)
        clear hx7 hx8 hxb
        obtain ⟨i0, hi0, hz0, hz1, hz3⟩ := info_parts Tryz.infoPg
        refine wpG_push rfl (fun a w h => by obtain ⟨_, e, _⟩ := h; cases e) (.tmp 25) (.tmp 34) 58 rfl 61 i0 (.agg #[.slice none 0 0, .int .i64 0, .int .i64 0, .int .i64 0, .int .i64 0, .int .i64 0]) 6 64 Tryz.underlying58 hi0 hz0 hz1 hz3 rfl (by decide) rfl HOA.out (by have := blk_lt (HXA.out.blk HST.out.1); omega) [.slice (some ⟨g, o + p * 4, none⟩) (i + 1 - p) (cap - p), .int .i64 (p : Nat), .int .i64 W, .int .i64 F, .int .i64 R, .int .i64 H] nb 0 1 1 rfl rfl (fun j hj => by
          match j, hj with
          | 0, _ => exact (cell_blk hnew 0).trans rfl
          | 1, _ => exact (cell_blk hnew 1).trans rfl
          | 2, _ => exact (cell_blk hnew 2).trans rfl
          | 3, _ => exact (cell_blk hnew 3).trans rfl
          | 4, _ => exact (cell_blk hnew 4).trans rfl
          | 5, _ => exact (cell_blk hnew 5).trans rfl) (by intro u hu; simp at hu; rcases hu with rfl | rfl | rfl | rfl | rfl | rfl <;> rfl) (fun ad hS eq => by
          have h1 := (HOA.out.lt _ eq).1
          have h2 : ad.block ≤ B := hS
          omega) (by omega) (by decide) ?_
        intro v' w9 w10 hx9 g1 g2 g4
        obtain ⟨pv, cv9, rfl⟩ := own_slice g1
        have hO9 := ownsRow_ext HOA.out hx9
        have hh : Ext V w9 := HXA.out.trans hx9
        have hX10 : Ext w w10 := Below.grown (HST.out.2.trans hh) g2 (HST.out.2.trans hh).sz (fun k e => by have := (hO9.lt k e).1; rw [HB.out]; omega)
        have hB10 : w10.heap[B]? = _ := (g2.block B (blk_lt (hh.blk HST.out.1)) (fun e => by have := (hO9.lt B e.symm).1; omega)).trans (hh.blk HST.out.1)
        refine wpG_end (fun w11 hx11 => ?_)
        have HF := Lib.hid (And.intro (ownsRow_ext g1 hx11) (And.intro (hx11.blk hB10) (hX10.trans hx11)))
        clear hx9 hx11 g1 g2 g4 hO9 hX10 hnew hh hB10
        go_wp2_with fail
        refine gQ_normal ?_
        go_wp2_with fail
        refine ⟨⟨i + 1, i + 1, O ++ [(p, i + 1)], by simp, by simp, Nat.le_refl _, by omega, by rw [List.length_append]; simp; omega, Lib.hid (fun j h1 h2 => by omega), Lib.hid ?_, Lib.hid ?_, Lib.hid HF.out.2, Lib.hid id⟩, by simp only [intOf]; omega⟩
        · rw [List.append_assoc, ← HGO.out, HNY.out]
          rfl
        · rw [pgW_app, List.length_append]
          exact HF.out.1
    · have hI : ¬ ((i : Nat) : Int) < (l.length : Nat) := by omega
      have hd : decide (i < l.length) = false := decide_eq_false hil
      have HGE := Lib.hid (show O = G by
        rw [← HGO.out, HLE.out (by omega), Wp.parsL_fuel l l.length 0 l.length (by omega) (by omega)]
        exact (List.append_nil O).symm)
      go_wp2_with fail
      refine ret_one rfl rfl rfl ⟨_, rfl, ?_, HST.out.2⟩
      rw [← HGE.out, HB.out]
      exact own_lower HOW.out (Nat.le_succ _)
end Go.Proofs.YtlmkbldiicbejaaGreatDoor
