/-
  The even lines of a paragraph, walked.
-/
import Derived.Test.YtlmkbldiicbejaaGreatDoorWrEG
namespace Go.Proofs.YtlmkbldiicbejaaGreatDoor
open Go.RowKit Go.Rp Go.Maps Go.Cl Go.Shelf Go.Gr

theorem Tryz.infoY : (Tryz.prog.info? 80).map (fun i => (i.zero, i.size, i.bytes)) = some (some (.agg #[.int .i64 0, .int .i64 0, .int .i64 0]), 3, 24) := by kernel_rfl
theorem made_zero (N : Nat) : madeCells (Value.agg #[.int .i64 0, .int .i64 0, .int .i64 0]).cells N = (List.replicate N (Value.int .i64 0)).toArray := by
  apply Array.ext'
  simp only [madeCells, Array.toList_map, Array.toList_range]
  rw [List.eq_replicate_iff]
  refine ⟨by simp, fun b hb => ?_⟩
  obtain ⟨x, _, rfl⟩ := List.mem_map.1 hb
  have h3 : x % 3 = 0 ∨ x % 3 = 1 ∨ x % 3 = 2 := by omega
  rcases h3 with h | h | h <;> simp [Value.cells, h]
theorem wyW_zero : ∀ m : Nat, wyW (List.replicate m ⟨0, 0, 0⟩) = List.replicate (m * 3) (Value.int .i64 0)
  | 0 => rfl
  | m + 1 => by
    have e : ∀ (z : Wp.Way) (l : List Wp.Way), wyW (z :: l) = .int .i64 z.c :: .int .i64 (z.k : Nat) :: .int .i64 (z.e : Nat) :: wyW l := fun z l => by simp [wyW]
    rw [List.replicate_succ, e, wyW_zero m, show (m + 1) * 3 = m * 3 + 1 + 1 + 1 by omega, List.replicate_succ, List.replicate_succ, List.replicate_succ]
    rfl
theorem run_mkY (n : Nat) (w : World) (hn : n ≤ 1000) : (Instr.makeSlice 78 (.int .i64 ((n : Nat) + 1)) (.int .i64 ((n : Nat) + 1))).run Tryz.prog w = .ok (.slice (some ⟨w.heap.size, 0, none⟩) (n + 1) (n + 1)) (w.alloc (.cells (wyW (List.replicate (n + 1) ⟨0, 0, 0⟩)).toArray 80)) := by
  obtain ⟨i0, hi0, hz0, hz1, hz3⟩ := info_parts Tryz.infoY
  rw [run_make w 78 80 i0 (.agg #[.int .i64 0, .int .i64 0, .int .i64 0]) Tryz.underlying78 hi0 hz0 .i64 .i64 ((n : Nat) + 1) ((n : Nat) + 1) (by omega) (by omega) (by rw [hz3]; omega) (by omega), hz1, show ((n : Int) + 1).toNat = n + 1 by omega, made_zero, wyW_zero]
/-- The whole number in a box. -/
def boxI (v : Value) (V : World) : Int := match v with
  | .pointer (some q) => (match V.cell? q with
    | some (.int _ n) => n
    | _ => 0)
  | _ => 0
theorem boxI_eq {V : World} {b : Nat} {n : Int} {t : TypeId} (h : Boxed V b t (.int .i64 n)) : boxI (.pointer (some ⟨b, 0, none⟩)) V = n := by
  unfold boxI
  simp only [h.cell]
set_option maxRecDepth 100000 in
set_option maxHeartbeats 4000000 in
theorem c_even (p : Option Addr) (c : Nat) (f : Nat) (W F R H : Int) (L : List Wp.Bx) (w : World) (hrow : BxRow w (.slice p L.length c) (L.map bxI)) (hsm : SmB L) (hpar : IsPar L) (hn : L.length ≤ 64) (hW : InK W) (hF : InK F) (hR : InK R) (hf : f ≤ 4096) :
    Calls Tryz.prog 28 #[pgV p L.length c f W F R H] w fun e w' => ∃ v, e = .returned v ∧ w'.ownsRow w.heap.size 3 1 v (Wp.even ⟨W, F, R⟩ L L.length 0).length (nW ((Wp.even ⟨W, F, R⟩ L L.length 0).map (f + ·))) ∧ Ext w w' := by
  have HROW := Lib.hid hrow
  have HSM := Lib.hid hsm
  have HPAR := Lib.hid hpar
  have HK := Lib.hid (And.intro hW (And.intro hF hR))
  have hnI : ((L.length : Nat) : Int) ≤ 64 := by omega
  have hfI : ((f : Nat) : Int) ≤ 4096 := by omega
  obtain ⟨G, hG⟩ : ∃ G, Wp.even ⟨W, F, R⟩ L L.length 0 = G := ⟨_, rfl⟩
  rw [hG]
  have HG := Lib.hid hG
  clear hG hrow hsm hpar hW hF hR
  unfold pgV
  go_enter Tryz.func28, Tryz.ntmps28
  have hmk := fun w => run_mkY L.length w (by omega)
  go_wp2_with fail
  clear hmk
  have hpb := World.alloc_heap_new w (pgC p L.length c f W F R H)
  have hx1 := (Ext.refl w).alloc (pgC p L.length c f W F R H)
  have hs1 := World.size_alloc w (pgC p L.length c f W F R H)
  unfold pgC at hpb hx1 hs1
  generalize w.alloc (.cells #[.slice p L.length c, .int .i64 (f : Nat), .int .i64 W, .int .i64 F, .int .i64 R, .int .i64 H] 61) = w1 at hpb hx1 hs1 ⊢
  have hgb := World.alloc_heap_new w1 (.cells (wyW (List.replicate (L.length + 1) ⟨0, 0, 0⟩)).toArray 80)
  have hx2 := (Ext.refl w1).alloc (.cells (wyW (List.replicate (L.length + 1) ⟨0, 0, 0⟩)).toArray 80)
  have hs2 := World.size_alloc w1 (.cells (wyW (List.replicate (L.length + 1) ⟨0, 0, 0⟩)).toArray 80)
  generalize w1.alloc (.cells (wyW (List.replicate (L.length + 1) ⟨0, 0, 0⟩)).toArray 80) = w2 at hgb hx2 hs2 ⊢
  obtain ⟨B, hB⟩ : ∃ B, w.heap.size = B := ⟨_, rfl⟩
  rw [hB] at hpb hs1 ⊢
  rw [hs1] at hgb hs2
  have hvb := Boxed.new w2 78 (.slice (some ⟨B + 1, 0, none⟩) (L.length + 1) (L.length + 1))
  have hx3 := (Ext.refl w2).alloc (.cells #[.slice (some ⟨B + 1, 0, none⟩) (L.length + 1) (L.length + 1)] 78)
  have hs3 := World.size_alloc w2 (.cells #[.slice (some ⟨B + 1, 0, none⟩) (L.length + 1) (L.length + 1)] 78)
  generalize w2.alloc (.cells #[.slice (some ⟨B + 1, 0, none⟩) (L.length + 1) (L.length + 1)] 78) = w3 at hvb hx3 hs3 ⊢
  rw [hs2] at hvb hs3
  have hib := Boxed.new w3 3 (.int .i64 ((L.length : Nat) - 1))
  have hx4 := (Ext.refl w3).alloc (.cells #[.int .i64 ((L.length : Nat) - 1)] 3)
  generalize w3.alloc (.cells #[.int .i64 ((L.length : Nat) - 1)] 3) = w4 at hib hx4 ⊢
  rw [hs3] at hib
  have HB := Lib.hid hB
  have HP0 := Lib.hid (show w4.heap[B]? = _ from hx4.blk (hx3.blk (hx2.blk hpb)))
  have HG0 := Lib.hid (show WyIs w4 (B + 1) (allT ⟨W, F, R⟩ L L.length) by rw [allT_zero]; exact hx4.blk (hx3.blk hgb))
  have HV0 := Lib.hid (hvb.ext hx4)
  have HI0 := Lib.hid hib
  have HX0 := Lib.hid (hx1.trans (hx2.trans (hx3.trans hx4)))
  clear hpb hgb hvb hib hx1 hx2 hx3 hx4 hs1 hs2 hs3 hB
  go_loopw [4, 5] (fun iv _ V => ∃ k ib : Nat, iv = .pointer (some ⟨ib, 0, none⟩) ∧ k ≤ L.length ∧ Hid (Boxed V ib 3 (.int .i64 ((k : Nat) - 1))) ∧ Hid (V.heap[B]? = some (.cells #[.slice p L.length c, .int .i64 (f : Nat), .int .i64 W, .int .i64 F, .int .i64 R, .int .i64 H] 61 (0, 0)) ∧ Boxed V (B + 1 + 1) 78 (.slice (some ⟨B + 1, 0, none⟩) (L.length + 1) (L.length + 1)) ∧ WyIs V (B + 1) (allT ⟨W, F, R⟩ L k) ∧ Ext w V)) (fun iv _ V => (boxI iv V + 1).toNat)
  case atStart => exact ⟨L.length, B + 1 + 1 + 1, rfl, Nat.le_refl _, HI0, Lib.hid ⟨HP0.out, HV0.out, HG0.out, HX0.out⟩⟩
  case round =>
    obtain ⟨k, ib, rfl, hk, HIB, HST⟩ := hrel
    obtain ⟨V, rfl⟩ : ∃ V, V = wr := ⟨_, rfl⟩
    have i0 := HIB.out.cell
    have k0 := (cell_blk HST.out.1 0).trans rfl
    have k1 := (cell_blk HST.out.1 1).trans rfl
    have k2 := (cell_blk HST.out.1 2).trans rfl
    have k3 := (cell_blk HST.out.1 3).trans rfl
    have k4 := (cell_blk HST.out.1 4).trans rfl
    have k5 := (cell_blk HST.out.1 5).trans rfl
    by_cases hk0 : k = 0
    · subst hk0
      go_wp2_with fail
      have HVZ := Lib.hid (show B ≤ V.heap.size from Nat.le_of_lt (blk_lt HST.out.1))
      obtain ⟨Y, hY⟩ : ∃ Y, V.heap.size = Y := ⟨_, rfl⟩
      rw [hY] at HVZ
      have HY := Lib.hid hY
      clear hY i0
      go_loopw [6, 7] (fun ov iv V2 => ∃ (i : Nat) (O : List Nat), iv = .int .i64 (i : Nat) ∧ i ≤ L.length ∧ O.length ≤ i ∧ Hid (V2.ownsRow Y 3 1 ov O.length (nW (O.map (f + ·)))) ∧ Hid (O ++ Wp.even ⟨W, F, R⟩ L L.length i = G) ∧ Hid (Ext V V2)) (fun _ iv _ => L.length + 1 - (intOf iv).toNat)
      case atStart => exact ⟨0, [], rfl, Nat.zero_le _, Nat.zero_le _, Lib.hid (World.ownsRow_nil _ _ _ _), HG, Lib.hid (Ext.refl _)⟩
      case round =>
        obtain ⟨i, O, rfl, hi, hO, HOW, HGO, HXV⟩ := hrel
        obtain ⟨V2, rfl⟩ : ∃ V2, V2 = wr := ⟨_, rfl⟩
        have k0 := HXV.out.cell k0
        have k1 := HXV.out.cell k1
        have hvc := (HST.out.2.1.ext HXV.out).cell
        obtain ⟨po, co, rfl⟩ := own_slice HOW.out
        by_cases hil : i < L.length
        · have hI : ((i : Nat) : Int) < (L.length : Nat) := by omega
          have hd : decide (i < L.length) = true := decide_eq_true hil
          have hw2 := HST.out.2.2.1
          obtain ⟨d0, d1, d2⟩ := hw2.at (i := i) (by rw [allT_len]; omega)
          have hgt := allT_get ⟨W, F, R⟩ L 0 i hi
          rw [if_neg (Nat.not_lt_zero _), List.getElem?_eq_getElem (by rw [allT_len]; omega)] at hgt
          rw [Option.some.inj hgt] at d0 d1 d2
          obtain ⟨n, hn2⟩ : ∃ n, L.length = n + 1 := ⟨L.length - 1, by omega⟩
          have hsp := Wp.bestW_spec ⟨W, F, R⟩ L n i (by omega) hil
          rw [← hn2] at hsp
          have hlst := HPAR.out.lst hil
          have HEV := Lib.hid (show Wp.even ⟨W, F, R⟩ L L.length i = (Wp.bestW ⟨W, F, R⟩ L L.length i).e :: Wp.even ⟨W, F, R⟩ L L.length ((Wp.bestW ⟨W, F, R⟩ L L.length i).e + 1) by
            have := hsp.1
            rw [Wp.even_fuel ⟨W, F, R⟩ L L.length (L.length + 1) i (by omega) (by omega), Wp.even, if_pos hil])
          have hbe : i ≤ (Wp.bestW ⟨W, F, R⟩ L L.length i).e ∧ (Wp.bestW ⟨W, F, R⟩ L L.length i).e < L.length := by have h1 := hsp.1; have h2 := hsp.2.1; omega
          clear hsp hn2 hlst hgt hw2
          generalize Wp.bestW ⟨W, F, R⟩ L L.length i = bw at d0 d1 d2 HEV hbe
          obtain ⟨bc, bk, be⟩ := bw
          simp only at d0 d1 d2 HEV hbe
          have hbeI : ((be : Nat) : Int) ≤ 64 := by omega
          have hi1 : i < L.length + 1 := by omega
          have hi2 : ((i : Nat) : Int) < (L.length : Nat) + 1 := by omega
          have hBY : B + 1 + 1 < Y := by rw [← HY.out]; exact blk_lt HST.out.2.1
          have s1 : ∀ w', EOn (fun a => a.block < Y) V2 w' → w'.cell? ⟨B, 1, none⟩ = some (.int .i64 (f : Nat)) := fun w' h => h.cell (show B < Y by omega) k1
          have s2 : ∀ w', EOn (fun a => a.block < Y) V2 w' → w'.cell? ⟨B + 1 + 1, 0, none⟩ = some (.slice (some ⟨B + 1, 0, none⟩) (L.length + 1) (L.length + 1)) := fun w' h => h.cell (show B + 1 + 1 < Y by omega) hvc
          have s3 : ∀ w', EOn (fun a => a.block < Y) V2 w' → w'.cell? ⟨B + 1, i * 3 + 2, none⟩ = some (.int .i64 (be : Nat)) := fun w' h => h.cell (show B + 1 < Y by omega) (HXV.out.cell d2)
          go_wp2_with fail
          refine wp_lex (fun a => a.block < Y) [true, true, true, true, true, true, true, true, true, false, false] (by kernel_rfl) (by kernel_rfl) ?_
          repeat first
            | refine wpG_move' ?_
            | refine wpG_assign' ?_
            | refine wpG_val' ?_
            | refine wpG_no' ?_
          clear s1 s2 s3
          refine wpG_do (by rfl) (fun w7 hx7 K hK => ?_)
          go_wp2_with fail
          have hnew := World.alloc_heap_new w7 (.cells #[.int .i64 ((f : Nat) + (be : Nat))] 3)
          have hx8 := hx7.alloc (.cells #[.int .i64 ((f : Nat) + (be : Nat))] 3)
          refine ⟨EOn.of_ext ((Ext.refl w7).alloc _), ?_⟩
          generalize w7.alloc (.cells #[.int .i64 ((f : Nat) + (be : Nat))] 3) = w8 at hnew hx8 ⊢
          generalize w7.heap.size = nb at hnew ⊢
          have HOA := Lib.hid (ownsRow_ext HOW.out hx8)
          have HXA := Lib.hid (HXV.out.trans hx8)
          clear hx7 hx8
          obtain ⟨i0, hi0, hz0, hz1, hz3⟩ := info_parts Tryz.infoI
          refine wpG_push rfl (fun a w h => by obtain ⟨_, e, _⟩ := h; cases e) (.tmp 37) (.tmp 46) 33 rfl 3 i0 (.int .i64 0) 1 8 Tryz.underlying33 hi0 hz0 hz1 hz3 rfl (by decide) rfl HOA.out (by rw [← HY.out]; exact HXA.out.sz) [.int .i64 ((f : Nat) + (be : Nat))] nb 0 1 1 rfl rfl (fun j hj => by
            match j, hj with
            | 0, _ => exact (cell_blk hnew 0).trans rfl) (by intro u hu; simp at hu; subst hu; rfl) (fun ad hS eq => by
            have h1 := (HOA.out.lt _ eq).1
            omega) (by omega) (by decide) ?_
          intro v' w9 w10 hx9 g1 g2 g4
          obtain ⟨pv, cv9, rfl⟩ := own_slice g1
          have hO9 := ownsRow_ext HOA.out hx9
          have hX10 : Ext V w10 := by
            have hh : Ext V w9 := HXA.out.trans hx9
            exact Below.grown hh g2 hh.sz (fun k e => by rw [HY.out]; exact (hO9.lt k e).1)
          refine wpG_end (fun w11 hx11 => ?_)
          have HF := Lib.hid (And.intro (ownsRow_ext g1 hx11) (hX10.trans hx11))
          have hvc' := (HST.out.2.1.ext HF.out.2).cell
          have d3 := HF.out.2.cell d2
          clear hx9 hx11 g1 g2 g4 hO9 hX10 hnew d0 d1 d2 k0 k1 hvc
          go_wp2_with fail
          refine gQ_normal ?_
          go_wp2_with fail
          refine ⟨⟨be + 1, O ++ [be], by simp, by omega, by rw [List.length_append]; simp; omega, Lib.hid ?_, Lib.hid ?_, Lib.hid HF.out.2⟩, by simp only [intOf]; omega⟩
          · rw [List.map_append, nW_app, List.length_append]
            exact HF.out.1
          · rw [List.append_assoc, ← HGO.out, HEV.out]
            rfl
        · have hI : ¬ ((i : Nat) : Int) < (L.length : Nat) := by omega
          have hd : decide (i < L.length) = false := decide_eq_false hil
          have HGE := Lib.hid (show O = G by
            rw [← HGO.out, Wp.even_fuel ⟨W, F, R⟩ L L.length 0 i (by omega) (by omega)]
            exact (List.append_nil O).symm)
          go_wp2_with fail
          refine ret_one rfl rfl rfl ⟨_, rfl, ?_, HST.out.2.2.2.trans HXV.out⟩
          rw [← HGE.out, HB.out]
          exact own_lower HOW.out HVZ.out
    · obtain ⟨i, rfl⟩ : ∃ i, k = i + 1 := ⟨k - 1, by omega⟩
      have hie : (((i + 1 : Nat) : Int) - 1) = ((i : Nat) : Int) := by omega
      rw [hie] at i0
      have HIB2 := Lib.hid (show Boxed V ib 3 (.int .i64 (i : Nat)) by rw [← hie]; exact HIB.out)
      have v0 : ∀ o, (V.alloc o).cell? ⟨B, 0, none⟩ = _ := fun o => ((Ext.refl V).alloc o).cell k0
      have v1 : ∀ o, (V.alloc o).cell? ⟨B, 1, none⟩ = _ := fun o => ((Ext.refl V).alloc o).cell k1
      have v2 : ∀ o, (V.alloc o).cell? ⟨B, 2, none⟩ = _ := fun o => ((Ext.refl V).alloc o).cell k2
      have v3 : ∀ o, (V.alloc o).cell? ⟨B, 3, none⟩ = _ := fun o => ((Ext.refl V).alloc o).cell k3
      have v4 : ∀ o, (V.alloc o).cell? ⟨B, 4, none⟩ = _ := fun o => ((Ext.refl V).alloc o).cell k4
      have v5 : ∀ o, (V.alloc o).cell? ⟨B, 5, none⟩ = _ := fun o => ((Ext.refl V).alloc o).cell k5
      have v6 : ∀ o, (V.alloc o).cell? ⟨ib, 0, none⟩ = _ := fun o => ((Ext.refl V).alloc o).cell i0
      have hil : i < L.length := by omega
      go_wp2_with fail
      clear v0 v1 v2 v3 v4 v5 v6 k0 k1 k2 k3 k4 k5 i0
      have hfb := Boxed.new V 4 (.bool false)
      have hx2 := (Ext.refl V).alloc (.cells #[.bool false] 4)
      generalize V.alloc (.cells #[.bool false] 4) = V2 at hfb hx2 ⊢
      have hwB : w.heap.size = B := HB.out
      have hgl := blk_lt HST.out.2.2.1
      generalize hfbn : V.heap.size = fb at hfb hgl ⊢
      have HFB := Lib.hid hgl
      have hacc : (accW ⟨W, F, R⟩ L i i).isSome = false := by rw [accW_self]; rfl
      refine (c_sizes 42 #[.pointer (some ⟨B, 0, none⟩), .pointer (some ⟨ib, 0, none⟩), .pointer (some ⟨B + 1 + 1, 0, none⟩), .pointer (some ⟨fb, 0, none⟩)] L p c f W F R H i V2
        (EvI p c f W F R H L i B ib (B + 1 + 1) fb (B + 1) (L.length + 1) w) (fun _ => False) (enters_of Tryz.func42 (by kernel_rfl) rfl)
        (fun j W' h => h.row) (fun j A B h hx => h.ext hx) HSM.out (Nat.le_of_lt hil)
        (fun j W' h1 h2 h3 _ => EvI.next (w0 := V2) HPAR.out HSM.out hn hil HK.out.1 HK.out.2.1 HK.out.2.2 HROW.out (by omega) (by omega) (Nat.lt_of_lt_of_le (blk_lt HST.out.2.2.1) hx2.sz) (blk_lt hfb) j W' h1 h2 h3)
        ⟨HROW.out.ext (HST.out.2.2.2.trans hx2), hx2.blk HST.out.1, HIB2.out.ext hx2, HST.out.2.1.ext hx2, by rw [hacc]; exact hfb, by rw [wayT_start]; exact HST.out.2.2.1.ext hx2, HST.out.2.2.2.trans hx2⟩).mono ?_
      rintro e V3 ⟨⟨v, rfl⟩, hG3⟩
      have hG3 := hG3.resolve_right id
      have hw3 := hG3.hw
      rw [wayT_end HPAR.out ⟨W, F, R⟩ hil] at hw3
      have HG3 := Lib.hid hG3
      have HW3 := Lib.hid hw3
      have e3 := hG3.hi.cell
      clear hG3 hx2 hfb hacc hw3
      go_wp2_with fail
      have hbn := Boxed.new V3 3 (.int .i64 ((i : Nat) - 1))
      have hxn := (Ext.refl V3).alloc (.cells #[.int .i64 ((i : Nat) - 1)] 3)
      refine ⟨⟨i, _, rfl, by omega, Lib.hid hbn, Lib.hid ⟨hxn.blk HG3.out.hp, HG3.out.hv.ext hxn, HW3.out.ext hxn, HG3.out.x.trans hxn⟩⟩, ?_⟩
      rw [boxI_eq hbn, boxI_eq HIB.out]
      omega
end Go.Proofs.YtlmkbldiicbejaaGreatDoor
