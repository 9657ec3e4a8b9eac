/-
  The last boxes of the lines.
-/
import Derived.Test.YtlmkbldiicbejaaGreatDoorWrI
namespace Go.Proofs.YtlmkbldiicbejaaGreatDoor
open Go.RowKit Go.Rp Go.Maps Go.Cl Go.Shelf Go.Gr

theorem sub_map (l : List Wp.Bx) (p t : Nat) : ((l.map bxI).take t).drop p = (Wp.subB l p t).map bxI := by
  unfold Wp.subB
  rw [List.map_drop, List.map_take]
theorem par_is {l : List Wp.Bx} {p t : Nat} (h : Wp.Par l p t) : IsPar (Wp.subB l p t) := fun j hj => by
  have hl := h.le
  have he := h.e
  rw [h.len] at hj
  rw [Wp.subB_get hl.2 (by omega)]
  exact (Wp.lst_mid l (i := p) (j := p + j) (by omega) (by omega)).2
theorem SmB.sub {l : List Wp.Bx} (h : SmB l) (p t : Nat) : SmB (Wp.subB l p t) := by
  refine ⟨?_, fun x hx => h.2 x (List.mem_of_mem_take (List.mem_of_mem_drop hx))⟩
  have := h.1
  unfold Wp.subB
  rw [List.length_drop, List.length_take]
  omega
theorem pgW_get (g o cap : Nat) (W F R H : Int) : ∀ (O : List (Nat × Nat)) (i : Nat) (h : i < O.length), (pgW g o cap W F R H O)[i * 6]? = some (.slice (some ⟨g, o + O[i].1 * 4, none⟩) (O[i].2 - O[i].1) (cap - O[i].1)) ∧ (pgW g o cap W F R H O)[i * 6 + 1]? = some (.int .i64 (O[i].1 : Nat)) ∧ (pgW g o cap W F R H O)[i * 6 + 2]? = some (.int .i64 W) ∧ (pgW g o cap W F R H O)[i * 6 + 3]? = some (.int .i64 F) ∧ (pgW g o cap W F R H O)[i * 6 + 4]? = some (.int .i64 R) ∧ (pgW g o cap W F R H O)[i * 6 + 5]? = some (.int .i64 H)
  | [], i, h => by simp at h
  | x :: l, 0, _ => by simp [pgW]
  | x :: l, i + 1, h => by
    have ih := pgW_get g o cap W F R H l i (by simpa using h)
    have e : pgW g o cap W F R H (x :: l) = [.slice (some ⟨g, o + x.1 * 4, none⟩) (x.2 - x.1) (cap - x.1), .int .i64 (x.1 : Nat), .int .i64 W, .int .i64 F, .int .i64 R, .int .i64 H] ++ pgW g o cap W F R H l := by simp [pgW]
    have key : ∀ k, (pgW g o cap W F R H (x :: l))[(i + 1) * 6 + k]? = (pgW g o cap W F R H l)[i * 6 + k]? := fun k => by
      rw [e, List.getElem?_append_right (by simp; omega)]
      congr 1
      simp
      omega
    have k0 := key 0
    rw [Nat.add_zero, Nat.add_zero] at k0
    rw [k0, key 1, key 2, key 3, key 4, key 5]
    simpa using ih
theorem greedy_len (r : Wp.Wr) (l : List Wp.Bx) : ∀ f i, l.length ≤ f + i → (Wp.greedy r l f i).length ≤ l.length - i
  | 0, i, h => by rw [Wp.greedy]; simp
  | f + 1, i, h => by
    rw [Wp.greedy]
    split
    · have h3 := (Wp.bestG_spec r l i).2.1
      have := greedy_len r l f (Wp.bestG r l i + 1) (by omega)
      simp only [List.length_cons]
      omega
    · simp
theorem even_len (r : Wp.Wr) (l : List Wp.Bx) : ∀ f i, l.length ≤ f + i → (Wp.even r l f i).length ≤ l.length - i
  | 0, i, h => by rw [Wp.even]; simp
  | f + 1, i, h => by
    rw [Wp.even]
    split
    · rename_i hi
      obtain ⟨n, hn⟩ : ∃ n, l.length = n + 1 := ⟨l.length - 1, by omega⟩
      have h3 := (Wp.bestW_spec r l n i (by omega) hi).1
      rw [hn]
      have := even_len r l f ((Wp.bestW r l (n + 1) i).e + 1) (by omega)
      simp only [List.length_cons]
      omega
    · simp
theorem greedy_one (r : Wp.Wr) (l : List Wp.Bx) (h : 0 < l.length) : 1 ≤ (Wp.greedy r l l.length 0).length := by
  obtain ⟨n, hn⟩ : ∃ n, l.length = n + 1 := ⟨l.length - 1, by omega⟩
  rw [hn, Wp.greedy, if_pos (by omega)]
  simp
theorem even_one (r : Wp.Wr) (l : List Wp.Bx) (h : 0 < l.length) : 1 ≤ (Wp.even r l l.length 0).length := by
  obtain ⟨n, hn⟩ : ∃ n, l.length = n + 1 := ⟨l.length - 1, by omega⟩
  rw [hn, Wp.even, if_pos (by omega)]
  simp
theorem chkK_ok (W F R H : Int) (l : List Wp.Bx) (hsm : SmB l) (hn : l.length ≤ 64) (hok : WrOk W F R H) : chkK (l.map bxI) W F R H = (0, 0) := by
  unfold chkK
  rw [if_pos hok, if_neg (by rw [List.length_map]; omega)]
  have key : ∀ (m : List Wp.Bx) (k : Nat), (∀ x ∈ m, x.w ≤ 100000 ∧ x.b ≤ 100000 ∧ x.h ≤ 100000) → badK (m.map bxI) k = (0, 0) := by
    intro m
    induction m with
    | nil => intro k _; rfl
    | cons x m ih =>
      intro k hx
      have h1 := hx x (by simp)
      rw [List.map_cons, badK, if_pos (by unfold BxOk InK bxI; simp only; omega)]
      exact ih _ (fun y hy => hx y (by simp [hy]))
  exact key l 0 hsm.2
set_option maxRecDepth 100000 in
set_option maxHeartbeats 4000000 in
theorem c_Lines (g o cap : Nat) (W F R H : Int) (l : List Wp.Bx) (w : World) (hrow : BxRow w (.slice (some ⟨g, o, none⟩) l.length cap) (l.map bxI)) (hsm : SmB l) (hn : l.length ≤ 64) (hok : WrOk W F R H) :
    Calls Tryz.prog 14 #[.slice (some ⟨g, o, none⟩) l.length cap, .agg #[.int .i64 W, .int .i64 F, .int .i64 R, .int .i64 H]] w fun e w' => ∃ v, e = .returned (.tuple #[v, .int .i64 0]) ∧ w'.ownsRow w.heap.size 3 1 v (Wp.linesK ⟨W, F, R⟩ (H == 1) l).length (nW (Wp.linesK ⟨W, F, R⟩ (H == 1) l)) ∧ Ext w w' := by
  have HROW := Lib.hid hrow
  have HSM := Lib.hid hsm
  have HOK := Lib.hid hok
  have hchk := chkK_ok W F R H l hsm hn hok
  have HCK := Lib.hid hchk
  have hlI : ((l.length : Nat) : Int) ≤ 64 := by omega
  have hcap : l.length ≤ cap := by
    obtain ⟨p', cap', e, hc, _⟩ := hrow
    rw [List.length_map] at e hc
    simp only [Value.slice.injEq] at e
    omega
  obtain ⟨LK, hLK⟩ : ∃ LK, Wp.linesK ⟨W, F, R⟩ (H == 1) l = LK := ⟨_, rfl⟩
  rw [hLK]
  have HLK := Lib.hid hLK
  clear hrow hsm hchk hLK
  go_enter Tryz.func14, Tryz.ntmps14
  go_wp2_with fail
  have hbo := World.alloc_heap_new w (.cells #[.int .i64 W, .int .i64 F, .int .i64 R, .int .i64 H] 24)
  have hx0 := (Ext.refl w).alloc (.cells #[.int .i64 W, .int .i64 F, .int .i64 R, .int .i64 H] 24)
  generalize w.alloc (.cells #[.int .i64 W, .int .i64 F, .int .i64 R, .int .i64 H] 24) = w1 at hbo hx0 ⊢
  obtain ⟨B, hB⟩ : ∃ B, w.heap.size = B := ⟨_, rfl⟩
  rw [hB] at hbo ⊢
  have HB := Lib.hid hB
  refine (c_wrCheck _ (l.map bxI) W F R H w1 (HROW.out.ext hx0)).mono ?_
  rintro e w2 ⟨rfl, hx2⟩
  rw [HCK.out]
  have HX2 := Lib.hid (hx0.trans hx2)
  have HO2 := Lib.hid (hx2.blk hbo)
  have m0 : w2.cell? ⟨B, 0, none⟩ = some (.int .i64 W) := (cell_blk HO2.out 0).trans rfl
  have m1 : w2.cell? ⟨B, 1, none⟩ = some (.int .i64 F) := (cell_blk HO2.out 1).trans rfl
  have m2 : w2.cell? ⟨B, 2, none⟩ = some (.int .i64 R) := (cell_blk HO2.out 2).trans rfl
  have m3 : w2.cell? ⟨B, 3, none⟩ = some (.int .i64 H) := (cell_blk HO2.out 3).trans rfl
  clear hbo hx0 hx2 hB
  go_wp2_with fail
  refine (c_pars g o cap W F R H l w2 (HROW.out.ext HX2.out) (by omega)).mono ?_
  rintro e w3 ⟨vp, rfl, hownp, hx3⟩
  obtain ⟨pp, cp, rfl⟩ := own_slice hownp
  have HOP := Lib.hid hownp
  have HX3 := Lib.hid (HX2.out.trans hx3)
  have HO3 := Lib.hid (hx3.blk HO2.out)
  have HPR := Lib.hid (Wp.parsL_par l l.length 0 (fun _ => rfl))
  have hpl : (Wp.parsL l l.length 0).length ≤ 64 := by
    have h1 := (Wp.greedy_pars ⟨W, F, R⟩ l l.length 0 (by omega)).1
    have := greedy_len ⟨W, F, R⟩ l l.length 0 (by omega)
    omega
  have HGR := Lib.hid (Wp.parsL_greedy ⟨W, F, R⟩ l l.length 0 (by omega) (fun _ => rfl))
  have HEV := Lib.hid (Wp.parsL_even ⟨W, F, R⟩ l l.length 0 (by omega) (fun _ => rfl))
  generalize Wp.parsL l l.length 0 = O at HOP HPR HGR HEV hpl ⊢
  have hplI : ((O.length : Nat) : Int) ≤ 64 := by omega
  have hwY : B ≤ w3.heap.size := by rw [← HB.out]; exact HX3.out.sz
  obtain ⟨Y, hY⟩ : ∃ Y, w3.heap.size = Y := ⟨_, rfl⟩
  rw [hY] at hwY
  have HY := Lib.hid hY
  clear hownp hx3 m0 m1 m2 m3 hY
  rcases hok.2.2.2.2 with rfl | rfl
  · have HSE := Lib.hid (show LK = O.flatMap fun x => (Wp.greedy ⟨W, F, R⟩ (Wp.subB l x.1 x.2) (Wp.subB l x.1 x.2).length 0).map (x.1 + ·) from HLK.out.symm.trans HGR.out)
    clear HGR HEV
    go_wp2_with fail
    go_loopw [8, 10, 24] (fun ov _ cv V => ∃ (i : Nat) (U : List Nat), cv = .int .i64 (i : Nat) ∧ i ≤ O.length ∧ U.length ≤ 64 * i ∧ Hid (V.ownsRow Y 3 1 ov U.length (nW U)) ∧ Hid (U = (O.take i).flatMap fun x => (Wp.greedy ⟨W, F, R⟩ (Wp.subB l x.1 x.2) (Wp.subB l x.1 x.2).length 0).map (x.1 + ·)) ∧ Hid (Ext w3 V)) (fun _ _ cv _ => O.length + 1 - (intOf cv).toNat)
    case atStart => exact ⟨0, [], rfl, Nat.zero_le _, Nat.zero_le _, Lib.hid (World.ownsRow_nil _ _ _ _), Lib.hid rfl, Lib.hid (Ext.refl _)⟩
    case round =>
      obtain ⟨i, U, rfl, hi, hU, HOW, HU, HXV⟩ := hrel
      obtain ⟨V, rfl⟩ : ∃ V, V = wr := ⟨_, rfl⟩
      obtain ⟨po, co, rfl⟩ := own_slice HOW.out
      by_cases hil : i < O.length
      · have hI : ((i : Nat) : Int) < (O.length : Nat) := by omega
        have hd : decide (i < O.length) = true := decide_eq_true hil
        obtain ⟨gp, rfl, _, _, hgc⟩ := own_at HOP.out (by omega)
        obtain ⟨e0, e1, e2, e3, e4, e5⟩ := pgW_get g o cap W F R (0 : Int) O i hil
        have d0 := HXV.out.cell ((hgc (i * 6) (by omega)).trans e0)
        have d1 := HXV.out.cell ((hgc (i * 6 + 1) (by omega)).trans e1)
        have d2 := HXV.out.cell ((hgc (i * 6 + 2) (by omega)).trans e2)
        have d3 := HXV.out.cell ((hgc (i * 6 + 3) (by omega)).trans e3)
        have d4 := HXV.out.cell ((hgc (i * 6 + 4) (by omega)).trans e4)
        have d5 := HXV.out.cell ((hgc (i * 6 + 5) (by omega)).trans e5)
        have hpx := HPR.out O[i] (List.getElem_mem hil)
        have HTK := Lib.hid (show O.take (i + 1) = O.take i ++ [O[i]] from List.take_succ_eq_append_getElem hil)
        generalize O[i] = x at d0 d1 d2 d3 d4 d5 hpx HTK
        have hpl2 := hpx.le
        have hpn := hpx.len
        have o3 : ∀ ob, (V.alloc ob).cell? ⟨B, 3, none⟩ = some (.int .i64 (0 : Int)) := fun ob => ((HXV.out.alloc ob)).cell ((cell_blk HO3.out 3).trans rfl)
        clear hgc e0 e1 e2 e3 e4 e5
        go_wp2_with fail
        have hxa := (Ext.refl V).alloc (.cells #[.slice (some ⟨g, o + x.1 * 4, none⟩) (x.2 - x.1) (cap - x.1), .int .i64 (x.1 : Nat), .int .i64 W, .int .i64 F, .int .i64 R, .int .i64 (0 : Int)] 61)
        generalize V.alloc (.cells #[.slice (some ⟨g, o + x.1 * 4, none⟩) (x.2 - x.1) (cap - x.1), .int .i64 (x.1 : Nat), .int .i64 W, .int .i64 F, .int .i64 R, .int .i64 (0 : Int)] 61) = V1 at hxa ⊢
        have HXA := Lib.hid hxa
        have hsub : BxRow V1 (.slice (some ⟨g, o + x.1 * 4, none⟩) (Wp.subB l x.1 x.2).length (cap - x.1)) ((Wp.subB l x.1 x.2).map bxI) := by
          have h := BxRow.sub (HROW.out.ext (HX3.out.trans (HXV.out.trans HXA.out))) (i := x.1) (j := x.2) (c := cap - x.1) (by omega) (by rw [List.length_map]; omega) (by omega)
          rw [sub_map, ← hpn] at h
          exact h
        have hk1 := greedy_one ⟨W, F, R⟩ (Wp.subB l x.1 x.2) (by omega)
        have hk2 := greedy_len ⟨W, F, R⟩ (Wp.subB l x.1 x.2) (Wp.subB l x.1 x.2).length 0 (by omega)
        have key := c_greedy (some ⟨g, o + x.1 * 4, none⟩) (cap - x.1) x.1 W F R 0 (Wp.subB l x.1 x.2) V1 hsub (SmB.sub HSM.out _ _) (par_is hpx) HOK.out.2.1 HOK.out.2.2.1 HOK.out.2.2.2.1 (by omega)
        obtain ⟨G, hG⟩ : ∃ G, Wp.greedy ⟨W, F, R⟩ (Wp.subB l x.1 x.2) (Wp.subB l x.1 x.2).length 0 = G := ⟨_, rfl⟩
        rw [hG] at key hk1 hk2
        rw [hpn] at key hk2
        have HG := Lib.hid hG
        clear hG hsub
        refine key.mono ?_
        rintro e V2 ⟨v, rfl, hown, hx2⟩
        clear key
        obtain ⟨pv, cv, rfl⟩ := own_slice hown
        obtain ⟨gv, rfl, _, _, hcv⟩ := own_at hown (by omega)
        have HX2V := Lib.hid (HXV.out.trans (HXA.out.trans hx2))
        have HOW1 := Lib.hid (ownsRow_ext HOW.out (HXA.out.trans hx2))
        have HCV := Lib.hid hcv
        clear hxa hx2 hown hcv
        go_wp2_with (at_builtin; refine Hid.out ?_)
        obtain ⟨i0, hi0, hz0, hz1, hz3⟩ := info_parts Tryz.infoI
        refine wpList_append_own_at V2 rfl (.tmp 31) (.tmp 33) 33 rfl Y 3 i0 (.int .i64 0) 1 8 Tryz.underlying33 hi0 hz0 hz1 hz3 rfl (by decide) _ U.length (nW U) rfl HOW1.out ⟨gv, 0, none⟩ G.length _ (nW (G.map (x.1 + ·))) rfl (by simp [nW]) (fun j u hj => ?_) (by intro u hu; obtain ⟨k, _, rfl⟩ := List.mem_map.mp hu; rfl) (by unfold maxLen; omega) (by omega) (by rw [← HY.out]; exact HX2V.out.sz) ?_
        · rw [Addr.add_lit]
          have hj2 : j < G.length := by
            have := (List.getElem?_eq_some_iff.mp hj).1
            simpa [nW] using this
          rw [Nat.zero_add]
          exact (HCV.out j (by omega)).trans hj
        intro v' w9 g1 g2 _ _
        obtain ⟨pv9, cv9, rfl⟩ := own_slice g1
        have HF := Lib.hid (And.intro g1 (Below.grown HX2V.out g2 HX2V.out.sz (fun k e => by rw [HY.out]; exact (HOW1.out.lt k e).1)))
        have HUN := Lib.hid (show U ++ G.map (x.1 + ·) = (O.take (i + 1)).flatMap fun x => (Wp.greedy ⟨W, F, R⟩ (Wp.subB l x.1 x.2) (Wp.subB l x.1 x.2).length 0).map (x.1 + ·) by rw [HTK.out, List.flatMap_append, ← HU.out, List.flatMap_cons, List.flatMap_nil, List.append_nil, HG.out])
        clear g1 g2
        go_wp2_with fail
        refine ⟨⟨i + 1, U ++ G.map (x.1 + ·), by simp, by omega, by rw [List.length_append, List.length_map]; omega, Lib.hid ?_, Lib.hid HUN.out, Lib.hid HF.out.2⟩, by simp only [intOf]; omega⟩
        have h := HF.out.1
        rw [← nW_app] at h
        rw [List.length_append, List.length_map]
        exact h
      · have hI : ¬ ((i : Nat) : Int) < (O.length : Nat) := by omega
        have hd : decide (i < O.length) = false := decide_eq_false hil
        have HUE := Lib.hid (show U = LK by rw [HU.out, HSE.out, List.take_of_length_le (by omega)])
        go_wp2_with fail
        refine ret_two rfl rfl rfl rfl ⟨_, rfl, ?_, HX3.out.trans HXV.out⟩
        rw [← HUE.out]
        exact own_lower HOW.out (by rw [HB.out]; exact hwY)
  · have HSE := Lib.hid (show LK = O.flatMap fun x => (Wp.even ⟨W, F, R⟩ (Wp.subB l x.1 x.2) (Wp.subB l x.1 x.2).length 0).map (x.1 + ·) from HLK.out.symm.trans HEV.out)
    clear HGR HEV
    go_wp2_with fail
    go_loopw [8, 10, 24] (fun ov _ cv V => ∃ (i : Nat) (U : List Nat), cv = .int .i64 (i : Nat) ∧ i ≤ O.length ∧ U.length ≤ 64 * i ∧ Hid (V.ownsRow Y 3 1 ov U.length (nW U)) ∧ Hid (U = (O.take i).flatMap fun x => (Wp.even ⟨W, F, R⟩ (Wp.subB l x.1 x.2) (Wp.subB l x.1 x.2).length 0).map (x.1 + ·)) ∧ Hid (Ext w3 V)) (fun _ _ cv _ => O.length + 1 - (intOf cv).toNat)
    case atStart => exact ⟨0, [], rfl, Nat.zero_le _, Nat.zero_le _, Lib.hid (World.ownsRow_nil _ _ _ _), Lib.hid rfl, Lib.hid (Ext.refl _)⟩
    case round =>
      obtain ⟨i, U, rfl, hi, hU, HOW, HU, HXV⟩ := hrel
      obtain ⟨V, rfl⟩ : ∃ V, V = wr := ⟨_, rfl⟩
      obtain ⟨po, co, rfl⟩ := own_slice HOW.out
      by_cases hil : i < O.length
      · have hI : ((i : Nat) : Int) < (O.length : Nat) := by omega
        have hd : decide (i < O.length) = true := decide_eq_true hil
        obtain ⟨gp, rfl, _, _, hgc⟩ := own_at HOP.out (by omega)
        obtain ⟨e0, e1, e2, e3, e4, e5⟩ := pgW_get g o cap W F R (1 : Int) O i hil
        have d0 := HXV.out.cell ((hgc (i * 6) (by omega)).trans e0)
        have d1 := HXV.out.cell ((hgc (i * 6 + 1) (by omega)).trans e1)
        have d2 := HXV.out.cell ((hgc (i * 6 + 2) (by omega)).trans e2)
        have d3 := HXV.out.cell ((hgc (i * 6 + 3) (by omega)).trans e3)
        have d4 := HXV.out.cell ((hgc (i * 6 + 4) (by omega)).trans e4)
        have d5 := HXV.out.cell ((hgc (i * 6 + 5) (by omega)).trans e5)
        have hpx := HPR.out O[i] (List.getElem_mem hil)
        have HTK := Lib.hid (show O.take (i + 1) = O.take i ++ [O[i]] from List.take_succ_eq_append_getElem hil)
        generalize O[i] = x at d0 d1 d2 d3 d4 d5 hpx HTK
        have hpl2 := hpx.le
        have hpn := hpx.len
        have o3 : ∀ ob, (V.alloc ob).cell? ⟨B, 3, none⟩ = some (.int .i64 (1 : Int)) := fun ob => ((HXV.out.alloc ob)).cell ((cell_blk HO3.out 3).trans rfl)
        clear hgc e0 e1 e2 e3 e4 e5
        go_wp2_with fail
        have hxa := (Ext.refl V).alloc (.cells #[.slice (some ⟨g, o + x.1 * 4, none⟩) (x.2 - x.1) (cap - x.1), .int .i64 (x.1 : Nat), .int .i64 W, .int .i64 F, .int .i64 R, .int .i64 (1 : Int)] 61)
        generalize V.alloc (.cells #[.slice (some ⟨g, o + x.1 * 4, none⟩) (x.2 - x.1) (cap - x.1), .int .i64 (x.1 : Nat), .int .i64 W, .int .i64 F, .int .i64 R, .int .i64 (1 : Int)] 61) = V1 at hxa ⊢
        have HXA := Lib.hid hxa
        have hsub : BxRow V1 (.slice (some ⟨g, o + x.1 * 4, none⟩) (Wp.subB l x.1 x.2).length (cap - x.1)) ((Wp.subB l x.1 x.2).map bxI) := by
          have h := BxRow.sub (HROW.out.ext (HX3.out.trans (HXV.out.trans HXA.out))) (i := x.1) (j := x.2) (c := cap - x.1) (by omega) (by rw [List.length_map]; omega) (by omega)
          rw [sub_map, ← hpn] at h
          exact h
        have hk1 := even_one ⟨W, F, R⟩ (Wp.subB l x.1 x.2) (by omega)
        have hk2 := even_len ⟨W, F, R⟩ (Wp.subB l x.1 x.2) (Wp.subB l x.1 x.2).length 0 (by omega)
        have key := c_even (some ⟨g, o + x.1 * 4, none⟩) (cap - x.1) x.1 W F R 1 (Wp.subB l x.1 x.2) V1 hsub (SmB.sub HSM.out _ _) (par_is hpx) (by omega) HOK.out.2.1 HOK.out.2.2.1 HOK.out.2.2.2.1 (by omega)
        obtain ⟨G, hG⟩ : ∃ G, Wp.even ⟨W, F, R⟩ (Wp.subB l x.1 x.2) (Wp.subB l x.1 x.2).length 0 = G := ⟨_, rfl⟩
        rw [hG] at key hk1 hk2
        rw [hpn] at key hk2
        have HG := Lib.hid hG
        clear hG hsub
        refine key.mono ?_
        rintro e V2 ⟨v, rfl, hown, hx2⟩
        clear key
        obtain ⟨pv, cv, rfl⟩ := own_slice hown
        obtain ⟨gv, rfl, _, _, hcv⟩ := own_at hown (by omega)
        have HX2V := Lib.hid (HXV.out.trans (HXA.out.trans hx2))
        have HOW1 := Lib.hid (ownsRow_ext HOW.out (HXA.out.trans hx2))
        have HCV := Lib.hid hcv
        clear hxa hx2 hown hcv
        go_wp2_with (at_builtin; refine Hid.out ?_)
        obtain ⟨i0, hi0, hz0, hz1, hz3⟩ := info_parts Tryz.infoI
        refine wpList_append_own_at V2 rfl (.tmp 35) (.tmp 37) 33 rfl Y 3 i0 (.int .i64 0) 1 8 Tryz.underlying33 hi0 hz0 hz1 hz3 rfl (by decide) _ U.length (nW U) rfl HOW1.out ⟨gv, 0, none⟩ G.length _ (nW (G.map (x.1 + ·))) rfl (by simp [nW]) (fun j u hj => ?_) (by intro u hu; obtain ⟨k, _, rfl⟩ := List.mem_map.mp hu; rfl) (by unfold maxLen; omega) (by omega) (by rw [← HY.out]; exact HX2V.out.sz) ?_
        · rw [Addr.add_lit]
          have hj2 : j < G.length := by
            have := (List.getElem?_eq_some_iff.mp hj).1
            simpa [nW] using this
          rw [Nat.zero_add]
          exact (HCV.out j (by omega)).trans hj
        intro v' w9 g1 g2 _ _
        obtain ⟨pv9, cv9, rfl⟩ := own_slice g1
        have HF := Lib.hid (And.intro g1 (Below.grown HX2V.out g2 HX2V.out.sz (fun k e => by rw [HY.out]; exact (HOW1.out.lt k e).1)))
        have HUN := Lib.hid (show U ++ G.map (x.1 + ·) = (O.take (i + 1)).flatMap fun x => (Wp.even ⟨W, F, R⟩ (Wp.subB l x.1 x.2) (Wp.subB l x.1 x.2).length 0).map (x.1 + ·) by rw [HTK.out, List.flatMap_append, ← HU.out, List.flatMap_cons, List.flatMap_nil, List.append_nil, HG.out])
        clear g1 g2
        go_wp2_with fail
        refine ⟨⟨i + 1, U ++ G.map (x.1 + ·), by simp, by omega, by rw [List.length_append, List.length_map]; omega, Lib.hid ?_, Lib.hid HUN.out, Lib.hid HF.out.2⟩, by simp only [intOf]; omega⟩
        have h := HF.out.1
        rw [← nW_app] at h
        rw [List.length_append, List.length_map]
        exact h
      · have hI : ¬ ((i : Nat) : Int) < (O.length : Nat) := by omega
        have hd : decide (i < O.length) = false := decide_eq_false hil
        have HUE := Lib.hid (show U = LK by rw [HU.out, HSE.out, List.take_of_length_le (by omega)])
        go_wp2_with fail
        refine ret_two rfl rfl rfl rfl ⟨_, rfl, ?_, HX3.out.trans HXV.out⟩
        rw [← HUE.out]
        exact own_lower HOW.out (by rw [HB.out]; exact hwY)
end Go.Proofs.YtlmkbldiicbejaaGreatDoor
