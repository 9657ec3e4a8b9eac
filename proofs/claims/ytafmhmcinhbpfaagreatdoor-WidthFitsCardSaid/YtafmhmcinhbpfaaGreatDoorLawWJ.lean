/-
  The law of texts put together.
-/
import Derived.Test.YtafmhmcinhbpfaaGreatDoorWaIL
namespace Go.Proofs.YtafmhmcinhbpfaaGreatDoor
open Go.RowKit Go.Rp Go.Maps Go.Cl Go.Shelf Go.Gr

theorem subS_eq (s : ByteArray) (p : Nat × Nat) : subS s p = (s.data.toList.take p.2).drop p.1 := by
  unfold subS
  rw [toList_extract, List.drop_take]
theorem colS_text (a t : Nat) (s : ByteArray) : ∀ (ps : List (Nat × Nat)) (col : Nat), colS a t s col ps = textC (lwT (cellK a t)) enT t col (ps.map fun p => (s.data.toList.take p.2).drop p.1)
  | [], _ => rfl
  | p :: ps, col => by
    have h := colS_text a t s ps (bhK a t col (subS s p))
    rw [List.map_cons, ← subS_eq]
    exact h
theorem txtK_text (a t st : Nat) (s : ByteArray) : txtK a t st s = textC (lwT (cellK a t)) enT t st (letters clsG s.data.toList) := colS_text a t s _ st
theorem txtK_app (a t st : Nat) (s u : ByteArray) (h : s.data.toList = [] ∨ u.data.toList = [] ∨ s.size ∈ bdG (s ++ u)) : txtK a t st (s ++ u) = txtK a t (txtK a t st s) u := by
  have e : (s ++ u).data.toList = s.data.toList ++ u.data.toList := by simp
  rw [txtK_text, txtK_text, txtK_text, e, letters_app clsG, textC_app]
  rcases h with h | h | h
  · exact .inl h
  · exact .inr (.inl h)
  · refine .inr (.inr ?_)
    unfold bdG at h
    rw [e] at h
    rwa [len_eq]
set_option maxRecDepth 100000 in
set_option maxHeartbeats 4000000 in
theorem c_joins (s u : ByteArray) (a t st : Int) (w : World) (hT : TabsW w) (hs : s.size ≤ 140737488351232) (hu : u.size ≤ 140737488351232) :
    Calls Tryz.prog 5 #[.string s, .string u, .agg #[.int .i64 a, .int .i64 t, .int .i64 st]] w fun e w' => e = .returned (.bool true) ∧ Ext w w' := by
  have HT := Lib.hid hT
  have hwr : wrap64 (((s.size : Nat) : Int) + (u.size : Nat)) = ((s.size : Nat) : Int) + (u.size : Nat) := IntWalk.wrap64_in _ (by omega)
  have hsI : ((s.size : Nat) : Int) ≤ 140737488351232 := by omega
  have huI : ((u.size : Nat) : Int) ≤ 140737488351232 := by omega
  by_cases hbig : (100 : Int) < ((s.size : Nat) : Int) + (u.size : Nat)
  · go_enter Tryz.func5, Tryz.ntmps5
    go_wp2_with fail
    have HXL := Lib.hid ((Ext.refl w).alloc (.cells #[.int .i64 a, .int .i64 t, .int .i64 st] 23))
    generalize w.alloc (.cells #[.int .i64 a, .int .i64 t, .int .i64 st] 23) = w1 at HXL ⊢
    refine (c_live w1 (HT.out.ext HXL.out)).mono ?_
    rintro e W9 ⟨rfl, hx9⟩
    have HX9 := Lib.hid (Ext.trans HXL.out hx9)
    clear hx9
    go_wp2_with fail
    exact ret_one rfl rfl rfl ⟨rfl, HX9.out⟩
  · by_cases ho : CellOk a t st
    · obtain ⟨A, rfl⟩ : ∃ A : Nat, a = A := ⟨a.toNat, by unfold CellOk at ho; omega⟩
      obtain ⟨T, rfl⟩ : ∃ T : Nat, t = T := ⟨t.toNat, by unfold CellOk at ho; omega⟩
      obtain ⟨S, rfl⟩ : ∃ S : Nat, st = S := ⟨st.toNat, by unfold CellOk at ho; omega⟩
      have hz1 : s.size ≤ 65536 := by omega
      have hz2 : u.size ≤ 65536 := by omega
      have hsu : (s ++ u).size = s.size + u.size := by simp
      have hz3 : (s ++ u).size ≤ 65536 := by omega
      have HZ := Lib.hid (And.intro hz1 (And.intro hz2 hz3))
      have HAPP := Lib.hid (txtK_app A T S s u)
      clear hsu
      go_enter Tryz.func5, Tryz.ntmps5
      go_wp2_with fail
      have hbo := World.alloc_heap_new w (.cells #[.int .i64 (A : Nat), .int .i64 (T : Nat), .int .i64 (S : Nat)] 23)
      have HX := Lib.hid ((Ext.refl w).alloc (.cells #[.int .i64 (A : Nat), .int .i64 (T : Nat), .int .i64 (S : Nat)] 23))
      generalize w.alloc (.cells #[.int .i64 (A : Nat), .int .i64 (T : Nat), .int .i64 (S : Nat)] 23) = w1 at hbo HX ⊢
      generalize w.heap.size = ob at hbo ⊢
      refine (c_wCheck (A : Nat) (T : Nat) (S : Nat) w1).mono ?_
      rintro e w2 ⟨rfl, hx⟩
      rw [if_pos ho]
      have HBO := Lib.hid (hx.blk hbo)
      have HX2 := Lib.hid (Ext.trans HX.out hx)
      have o0 : w2.cell? ⟨ob, 0, none⟩ = some (.int .i64 (A : Nat)) := (cell_blk HBO.out 0).trans rfl
      have o1 : w2.cell? ⟨ob, 1, none⟩ = some (.int .i64 (T : Nat)) := (cell_blk HBO.out 1).trans rfl
      have o2 : w2.cell? ⟨ob, 2, none⟩ = some (.int .i64 (S : Nat)) := (cell_blk HBO.out 2).trans rfl
      clear hx hbo
      go_wp2_with fail
      refine (c_num 0 w2).mono ?_
      rintro e w3 ⟨rfl, rfl⟩
      go_wp2_with fail
      refine (c_gCount (s ++ u) w3 (HT.out.ext HX2.out) HZ.out.2.2).mono ?_
      rintro e w4 ⟨rfl, hx4⟩
      have hl3 := bdG_len (s ++ u)
      obtain ⟨n3, hn3⟩ : ∃ n, (bdG (s ++ u)).length - 1 = n := ⟨_, rfl⟩
      have h3I : n3 ≤ 65537 := by have := HZ.out.2.2; omega
      rw [hn3]
      have HX4 := Lib.hid (Ext.trans HX2.out hx4)
      have q0 := hx4.cell o0
      have q1 := hx4.cell o1
      have q2 := hx4.cell o2
      clear hx4 hl3 hn3 o0 o1 o2
      go_wp2_with fail
      refine (c_gCount s w4 (HT.out.ext HX4.out) HZ.out.1).mono ?_
      rintro e w5 ⟨rfl, hx5⟩
      have hl1 := bdG_len s
      obtain ⟨n1, hn1⟩ : ∃ n, (bdG s).length - 1 = n := ⟨_, rfl⟩
      have h1I : n1 ≤ 65537 := by omega
      rw [hn1]
      have HX5 := Lib.hid (Ext.trans HX4.out hx5)
      have r0 := hx5.cell q0
      have r1 := hx5.cell q1
      have r2 := hx5.cell q2
      clear hx5 hl1 hn1 q0 q1 q2
      go_wp2_with fail
      refine (c_gCount u w5 (HT.out.ext HX5.out) HZ.out.2.1).mono ?_
      rintro e w6 ⟨rfl, hx6⟩
      have hl2 := bdG_len u
      obtain ⟨n2, hn2⟩ : ∃ n, (bdG u).length - 1 = n := ⟨_, rfl⟩
      have h2I : n2 ≤ 65537 := by omega
      rw [hn2]
      have HX6 := Lib.hid (Ext.trans HX5.out hx6)
      have t0 := hx6.cell r0
      have t1 := hx6.cell r1
      have t2 := hx6.cell r2
      clear hx6 hl2 hn2 r0 r1 r2
      by_cases hc : n3 = n1 + n2
      · have hce : (((n3 : Nat) : Int) == (n1 : Nat) + (n2 : Nat)) = true := by simp; omega
        have hce2 : ((n3 : Nat) : Int) = (n1 : Nat) + (n2 : Nat) := by omega
        clear hc
        by_cases hs0 : s.size = 0
        · have HE := Lib.hid (HAPP.out (.inl (List.length_eq_zero_iff.1 ((len_eq s).trans hs0))))
          have hs1 : ¬ (0 : Int) < (s.size : Nat) := by omega
          clear hs0
          have v0 : ∀ o, (w6.alloc o).cell? ⟨ob, 0, none⟩ = some (.int .i64 (A : Nat)) := fun o => ((Ext.refl w6).alloc o).cell t0
          have v1 : ∀ o, (w6.alloc o).cell? ⟨ob, 1, none⟩ = some (.int .i64 (T : Nat)) := fun o => ((Ext.refl w6).alloc o).cell t1
          have v2 : ∀ o, (w6.alloc o).cell? ⟨ob, 2, none⟩ = some (.int .i64 (S : Nat)) := fun o => ((Ext.refl w6).alloc o).cell t2
          go_wp2_with fail
          have hob : ob < w6.heap.size := cell_lt t0
          have hpb := World.alloc_heap_new w6 (.cells #[.int .i64 (A : Nat), .int .i64 (T : Nat), .int .i64 (S : Nat)] 23)
          have HXP := Lib.hid (HX6.out.alloc (.cells #[.int .i64 (A : Nat), .int .i64 (T : Nat), .int .i64 (S : Nat)] 23))
          have x0 := v0 (.cells #[.int .i64 (A : Nat), .int .i64 (T : Nat), .int .i64 (S : Nat)] 23)
          have x1 := v1 (.cells #[.int .i64 (A : Nat), .int .i64 (T : Nat), .int .i64 (S : Nat)] 23)
          have x2 := v2 (.cells #[.int .i64 (A : Nat), .int .i64 (T : Nat), .int .i64 (S : Nat)] 23)
          have HWS := Lib.hid (show w.heap.size ≤ w6.heap.size from HX6.out.sz)
          clear v0 v1 v2 t0 t1 t2
          generalize w6.alloc (.cells #[.int .i64 (A : Nat), .int .i64 (T : Nat), .int .i64 (S : Nat)] 23) = WP at hpb HXP x0 x1 x2 ⊢
          generalize w6.heap.size = pb at hob hpb HWS ⊢
          have HOB := Lib.hid (show ob ≠ pb by omega)
          clear hob
          refine (c_wText A T S s WP ho (HT.out.ext HXP.out) HZ.out.1).mono ?_
          rintro e WQ ⟨rfl, hxq⟩
          have htx := txtK_le A T S s ho HZ.out.1
          generalize txtK A T S s = tx at HE htx ⊢
          have HXQ := Lib.hid (Ext.trans HXP.out hxq)
          have HPB := Lib.hid (hxq.blk hpb)
          have HX0 := Lib.hid (And.intro (hxq.cell x0) (And.intro (hxq.cell x1) (hxq.cell x2)))
          clear hxq hpb x0 x1 x2
          have z2 := frz_blk HPB.out 2
          have z3 : WQ.cell? ⟨pb, 2, none⟩ = some (.int .i64 (S : Nat)) := (cell_blk HPB.out 2).trans rfl
          have htI : ((tx : Nat) : Int) ≤ 1080000000 := by omega
          have HR := Lib.hid (show (WQ.setCell ⟨pb, 2, none⟩ (.int .i64 (tx : Nat))).heap[pb]? = some (.cells #[.int .i64 (A : Nat), .int .i64 (T : Nat), .int .i64 (tx : Nat)] 23 (0, 0)) from set_blk HPB.out 2 _)
          have y2 : (WQ.setCell ⟨pb, 2, none⟩ (.int .i64 (tx : Nat))).cell? ⟨pb, 2, none⟩ = some (.int .i64 (tx : Nat)) := (cell_blk HR.out 2).trans rfl
          have hgr := grown_cell WQ pb 2 (.int .i64 (tx : Nat))
          have y3 := (hgr.cell_far _ (cell_lt HX0.out.1) (fun e => HOB.out (Option.some.inj e))).trans HX0.out.1
          have y4 := (hgr.cell_far _ (cell_lt HX0.out.2.1) (fun e => HOB.out (Option.some.inj e))).trans HX0.out.2.1
          have y5 := (hgr.cell_far _ (cell_lt HX0.out.2.2) (fun e => HOB.out (Option.some.inj e))).trans HX0.out.2.2
          have HXR := Lib.hid (show Ext w (WQ.setCell ⟨pb, 2, none⟩ (.int .i64 (tx : Nat))) from Ext.setCell HXQ.out HWS.out _)
          clear hgr htx
          have y0 : (WQ.setCell ⟨pb, 2, none⟩ (.int .i64 (tx : Nat))).cell? ⟨pb, 0, none⟩ = some (.int .i64 (A : Nat)) := (cell_blk HR.out 0).trans rfl
          have y1 : (WQ.setCell ⟨pb, 2, none⟩ (.int .i64 (tx : Nat))).cell? ⟨pb, 1, none⟩ = some (.int .i64 (T : Nat)) := (cell_blk HR.out 1).trans rfl
          have s0 : ∀ w', EOn (fun _ => True) (WQ.setCell ⟨pb, 2, none⟩ (.int .i64 (tx : Nat))) w' → w'.cell? ⟨pb, 0, none⟩ = some (.int .i64 (A : Nat)) := fun w' h => h.cell trivial y0
          have s1 : ∀ w', EOn (fun _ => True) (WQ.setCell ⟨pb, 2, none⟩ (.int .i64 (tx : Nat))) w' → w'.cell? ⟨pb, 1, none⟩ = some (.int .i64 (T : Nat)) := fun w' h => h.cell trivial y1
          have s2 : ∀ w', EOn (fun _ => True) (WQ.setCell ⟨pb, 2, none⟩ (.int .i64 (tx : Nat))) w' → w'.cell? ⟨pb, 2, none⟩ = some (.int .i64 (tx : Nat)) := fun w' h => h.cell trivial y2
          have s3 : ∀ w', EOn (fun _ => True) (WQ.setCell ⟨pb, 2, none⟩ (.int .i64 (tx : Nat))) w' → w'.cell? ⟨ob, 0, none⟩ = some (.int .i64 (A : Nat)) := fun w' h => h.cell trivial y3
          have s4 : ∀ w', EOn (fun _ => True) (WQ.setCell ⟨pb, 2, none⟩ (.int .i64 (tx : Nat))) w' → w'.cell? ⟨ob, 1, none⟩ = some (.int .i64 (T : Nat)) := fun w' h => h.cell trivial y4
          have s5 : ∀ w', EOn (fun _ => True) (WQ.setCell ⟨pb, 2, none⟩ (.int .i64 (tx : Nat))) w' → w'.cell? ⟨ob, 2, none⟩ = some (.int .i64 (S : Nat)) := fun w' h => h.cell trivial y5
          clear y0 y1 y2 y3 y4 y5
          by_cases hgt : (1073741824 : Int) < (tx : Nat)
          · go_wp2_with fail
            generalize WQ.setCell ⟨pb, 2, none⟩ (.int .i64 (tx : Nat)) = WR at HXR s0 s1 s2 s3 s4 s5 ⊢
            refine wp_lex (fun _ => True) [true, true, true, true, true, true, true, true, true, true, true, true, true, true, true, false, true, true] (by kernel_rfl) (by kernel_rfl) ?_
            repeat first
              | refine wpG_move' ?_
              | refine wpG_assign' ?_
              | refine wpG_val' ?_
              | refine wpG_no' ?_
            refine wpG_do (by rfl) (fun wa hxa K hK => ?_)
            go_wp2_with fail
            refine (c_live wa (HT.out.ext (HXR.out.trans hxa))).mono ?_
            rintro e wb ⟨rfl, hxb⟩
            have HXB := Lib.hid (HXR.out.trans (hxa.trans hxb))
            refine hK _ _ ⟨EOn.of_ext hxb, ?_⟩
            clear hK hxa hxb s0 s1 s2 s3 s4 s5
            repeat first
              | refine wpG_move' ?_
              | refine wpG_assign' ?_
              | refine wpG_val' ?_
              | refine wpG_no' ?_
            refine wpG_end (fun wc hxc => ?_)
            have HXC := Lib.hid (HXB.out.trans hxc)
            clear hxc
            go_wp2_with fail
            refine gQ_normal ?_
            go_wp2_with fail
            exact ret_one rfl rfl rfl ⟨rfl, HXC.out⟩
          · have HO2 := Lib.hid (show CellOk (A : Nat) (T : Nat) (tx : Nat) by have := ho; unfold CellOk at this ⊢; omega)
            go_wp2_with fail
            generalize WQ.setCell ⟨pb, 2, none⟩ (.int .i64 (tx : Nat)) = WR at HXR s0 s1 s2 s3 s4 s5 ⊢
            have hgd : decide ((1073741824 : Int) < (tx : Nat)) = false := decide_eq_false (by omega)
            have hgd2 : ¬ (1073741824 : Int) < (tx : Nat) := by omega
            refine wp_perm (fun _ => True) [0, 1, 2, 3, 4, 5, 6, 7, 9, 10, 8, 11, 12, 13, 14, 15, 16, 17] [true, true, true, true, true, true, true, true, true, true, false, false, true, true, true, false, true, true] (by kernel_rfl) (by kernel_rfl) (by simp only [List.map_cons, List.map_nil, nth]; rfl) ?_
            repeat first
              | refine wpG_move' ?_
              | refine wpG_assign' ?_
              | refine wpG_val' ?_
              | refine wpG_no' ?_
            refine wpG_do (by rfl) (fun wa hxa K hK => ?_)
            go_wp2_with fail
            refine (c_wText A T S (s ++ u) wa ho (HT.out.ext (HXR.out.trans hxa)) HZ.out.2.2).mono ?_
            rintro e wb ⟨rfl, hxb⟩
            rw [HE.out]
            have HXB := Lib.hid (HXR.out.trans (hxa.trans hxb))
            refine hK _ _ ⟨EOn.of_ext hxb, ?_⟩
            clear hK hxa hxb s0 s1 s2 s3 s4 s5
            refine wpG_do (by rfl) (fun wa hxa K hK => ?_)
            go_wp2_with fail
            refine (c_wText A T tx u wa HO2.out (HT.out.ext (HXB.out.trans hxa)) HZ.out.2.1).mono ?_
            rintro e wc ⟨rfl, hxc⟩
            have HXC := Lib.hid (HXB.out.trans (hxa.trans hxc))
            refine hK _ _ ⟨EOn.of_ext hxc, ?_⟩
            clear hK hxa hxc
            generalize txtK A T tx u = ty
            repeat first
              | refine wpG_move' ?_
              | refine wpG_assign' ?_
              | refine wpG_val' ?_
              | refine wpG_no' ?_
            refine wpG_do (by rfl) (fun wa hxa K hK => ?_)
            go_wp2_with fail
            refine (c_live wa (HT.out.ext (HXC.out.trans hxa))).mono ?_
            rintro e wd ⟨rfl, hxd⟩
            have HXD := Lib.hid (HXC.out.trans (hxa.trans hxd))
            refine hK _ _ ⟨EOn.of_ext hxd, ?_⟩
            clear hK hxa hxd
            repeat first
              | refine wpG_move' ?_
              | refine wpG_assign' ?_
              | refine wpG_val' ?_
              | refine wpG_no' ?_
            refine wpG_end (fun we hxe => ?_)
            have HXE := Lib.hid (HXD.out.trans hxe)
            clear hxe
            go_wp2_with fail
            refine gQ_normal ?_
            go_wp2_with fail
            exact ret_one rfl rfl rfl ⟨rfl, HXE.out⟩
        · have hs1 : (0 : Int) < (s.size : Nat) := by omega
          clear hs0
          by_cases hu0 : u.size = 0
          · have HE := Lib.hid (HAPP.out (.inr (.inl (List.length_eq_zero_iff.1 ((len_eq u).trans hu0)))))
            have hu1 : ¬ (0 : Int) < (u.size : Nat) := by omega
            clear hu0
            have v0 : ∀ o, (w6.alloc o).cell? ⟨ob, 0, none⟩ = some (.int .i64 (A : Nat)) := fun o => ((Ext.refl w6).alloc o).cell t0
            have v1 : ∀ o, (w6.alloc o).cell? ⟨ob, 1, none⟩ = some (.int .i64 (T : Nat)) := fun o => ((Ext.refl w6).alloc o).cell t1
            have v2 : ∀ o, (w6.alloc o).cell? ⟨ob, 2, none⟩ = some (.int .i64 (S : Nat)) := fun o => ((Ext.refl w6).alloc o).cell t2
            go_wp2_with fail
            have hob : ob < w6.heap.size := cell_lt t0
            have hpb := World.alloc_heap_new w6 (.cells #[.int .i64 (A : Nat), .int .i64 (T : Nat), .int .i64 (S : Nat)] 23)
            have HXP := Lib.hid (HX6.out.alloc (.cells #[.int .i64 (A : Nat), .int .i64 (T : Nat), .int .i64 (S : Nat)] 23))
            have x0 := v0 (.cells #[.int .i64 (A : Nat), .int .i64 (T : Nat), .int .i64 (S : Nat)] 23)
            have x1 := v1 (.cells #[.int .i64 (A : Nat), .int .i64 (T : Nat), .int .i64 (S : Nat)] 23)
            have x2 := v2 (.cells #[.int .i64 (A : Nat), .int .i64 (T : Nat), .int .i64 (S : Nat)] 23)
            have HWS := Lib.hid (show w.heap.size ≤ w6.heap.size from HX6.out.sz)
            clear v0 v1 v2 t0 t1 t2
            generalize w6.alloc (.cells #[.int .i64 (A : Nat), .int .i64 (T : Nat), .int .i64 (S : Nat)] 23) = WP at hpb HXP x0 x1 x2 ⊢
            generalize w6.heap.size = pb at hob hpb HWS ⊢
            have HOB := Lib.hid (show ob ≠ pb by omega)
            clear hob
            refine (c_wText A T S s WP ho (HT.out.ext HXP.out) HZ.out.1).mono ?_
            rintro e WQ ⟨rfl, hxq⟩
            have htx := txtK_le A T S s ho HZ.out.1
            generalize txtK A T S s = tx at HE htx ⊢
            have HXQ := Lib.hid (Ext.trans HXP.out hxq)
            have HPB := Lib.hid (hxq.blk hpb)
            have HX0 := Lib.hid (And.intro (hxq.cell x0) (And.intro (hxq.cell x1) (hxq.cell x2)))
            clear hxq hpb x0 x1 x2
            have z2 := frz_blk HPB.out 2
            have z3 : WQ.cell? ⟨pb, 2, none⟩ = some (.int .i64 (S : Nat)) := (cell_blk HPB.out 2).trans rfl
            have htI : ((tx : Nat) : Int) ≤ 1080000000 := by omega
            have HR := Lib.hid (show (WQ.setCell ⟨pb, 2, none⟩ (.int .i64 (tx : Nat))).heap[pb]? = some (.cells #[.int .i64 (A : Nat), .int .i64 (T : Nat), .int .i64 (tx : Nat)] 23 (0, 0)) from set_blk HPB.out 2 _)
            have y2 : (WQ.setCell ⟨pb, 2, none⟩ (.int .i64 (tx : Nat))).cell? ⟨pb, 2, none⟩ = some (.int .i64 (tx : Nat)) := (cell_blk HR.out 2).trans rfl
            have hgr := grown_cell WQ pb 2 (.int .i64 (tx : Nat))
            have y3 := (hgr.cell_far _ (cell_lt HX0.out.1) (fun e => HOB.out (Option.some.inj e))).trans HX0.out.1
            have y4 := (hgr.cell_far _ (cell_lt HX0.out.2.1) (fun e => HOB.out (Option.some.inj e))).trans HX0.out.2.1
            have y5 := (hgr.cell_far _ (cell_lt HX0.out.2.2) (fun e => HOB.out (Option.some.inj e))).trans HX0.out.2.2
            have HXR := Lib.hid (show Ext w (WQ.setCell ⟨pb, 2, none⟩ (.int .i64 (tx : Nat))) from Ext.setCell HXQ.out HWS.out _)
            clear hgr htx
            have y0 : (WQ.setCell ⟨pb, 2, none⟩ (.int .i64 (tx : Nat))).cell? ⟨pb, 0, none⟩ = some (.int .i64 (A : Nat)) := (cell_blk HR.out 0).trans rfl
            have y1 : (WQ.setCell ⟨pb, 2, none⟩ (.int .i64 (tx : Nat))).cell? ⟨pb, 1, none⟩ = some (.int .i64 (T : Nat)) := (cell_blk HR.out 1).trans rfl
            have s0 : ∀ w', EOn (fun _ => True) (WQ.setCell ⟨pb, 2, none⟩ (.int .i64 (tx : Nat))) w' → w'.cell? ⟨pb, 0, none⟩ = some (.int .i64 (A : Nat)) := fun w' h => h.cell trivial y0
            have s1 : ∀ w', EOn (fun _ => True) (WQ.setCell ⟨pb, 2, none⟩ (.int .i64 (tx : Nat))) w' → w'.cell? ⟨pb, 1, none⟩ = some (.int .i64 (T : Nat)) := fun w' h => h.cell trivial y1
            have s2 : ∀ w', EOn (fun _ => True) (WQ.setCell ⟨pb, 2, none⟩ (.int .i64 (tx : Nat))) w' → w'.cell? ⟨pb, 2, none⟩ = some (.int .i64 (tx : Nat)) := fun w' h => h.cell trivial y2
            have s3 : ∀ w', EOn (fun _ => True) (WQ.setCell ⟨pb, 2, none⟩ (.int .i64 (tx : Nat))) w' → w'.cell? ⟨ob, 0, none⟩ = some (.int .i64 (A : Nat)) := fun w' h => h.cell trivial y3
            have s4 : ∀ w', EOn (fun _ => True) (WQ.setCell ⟨pb, 2, none⟩ (.int .i64 (tx : Nat))) w' → w'.cell? ⟨ob, 1, none⟩ = some (.int .i64 (T : Nat)) := fun w' h => h.cell trivial y4
            have s5 : ∀ w', EOn (fun _ => True) (WQ.setCell ⟨pb, 2, none⟩ (.int .i64 (tx : Nat))) w' → w'.cell? ⟨ob, 2, none⟩ = some (.int .i64 (S : Nat)) := fun w' h => h.cell trivial y5
            clear y0 y1 y2 y3 y4 y5
            by_cases hgt : (1073741824 : Int) < (tx : Nat)
            · go_wp2_with fail
              generalize WQ.setCell ⟨pb, 2, none⟩ (.int .i64 (tx : Nat)) = WR at HXR s0 s1 s2 s3 s4 s5 ⊢
              refine wp_lex (fun _ => True) [true, true, true, true, true, true, true, true, true, true, true, true, true, true, true, false, true, true] (by kernel_rfl) (by kernel_rfl) ?_
              repeat first
                | refine wpG_move' ?_
                | refine wpG_assign' ?_
                | refine wpG_val' ?_
                | refine wpG_no' ?_
              refine wpG_do (by rfl) (fun wa hxa K hK => ?_)
              go_wp2_with fail
              refine (c_live wa (HT.out.ext (HXR.out.trans hxa))).mono ?_
              rintro e wb ⟨rfl, hxb⟩
              have HXB := Lib.hid (HXR.out.trans (hxa.trans hxb))
              refine hK _ _ ⟨EOn.of_ext hxb, ?_⟩
              clear hK hxa hxb s0 s1 s2 s3 s4 s5
              repeat first
                | refine wpG_move' ?_
                | refine wpG_assign' ?_
                | refine wpG_val' ?_
                | refine wpG_no' ?_
              refine wpG_end (fun wc hxc => ?_)
              have HXC := Lib.hid (HXB.out.trans hxc)
              clear hxc
              go_wp2_with fail
              refine gQ_normal ?_
              go_wp2_with fail
              exact ret_one rfl rfl rfl ⟨rfl, HXC.out⟩
            · have HO2 := Lib.hid (show CellOk (A : Nat) (T : Nat) (tx : Nat) by have := ho; unfold CellOk at this ⊢; omega)
              go_wp2_with fail
              generalize WQ.setCell ⟨pb, 2, none⟩ (.int .i64 (tx : Nat)) = WR at HXR s0 s1 s2 s3 s4 s5 ⊢
              have hgd : decide ((1073741824 : Int) < (tx : Nat)) = false := decide_eq_false (by omega)
              have hgd2 : ¬ (1073741824 : Int) < (tx : Nat) := by omega
              refine wp_perm (fun _ => True) [0, 1, 2, 3, 4, 5, 6, 7, 9, 10, 8, 11, 12, 13, 14, 15, 16, 17] [true, true, true, true, true, true, true, true, true, true, false, false, true, true, true, false, true, true] (by kernel_rfl) (by kernel_rfl) (by simp only [List.map_cons, List.map_nil, nth]; rfl) ?_
              repeat first
                | refine wpG_move' ?_
                | refine wpG_assign' ?_
                | refine wpG_val' ?_
                | refine wpG_no' ?_
              refine wpG_do (by rfl) (fun wa hxa K hK => ?_)
              go_wp2_with fail
              refine (c_wText A T S (s ++ u) wa ho (HT.out.ext (HXR.out.trans hxa)) HZ.out.2.2).mono ?_
              rintro e wb ⟨rfl, hxb⟩
              rw [HE.out]
              have HXB := Lib.hid (HXR.out.trans (hxa.trans hxb))
              refine hK _ _ ⟨EOn.of_ext hxb, ?_⟩
              clear hK hxa hxb s0 s1 s2 s3 s4 s5
              refine wpG_do (by rfl) (fun wa hxa K hK => ?_)
              go_wp2_with fail
              refine (c_wText A T tx u wa HO2.out (HT.out.ext (HXB.out.trans hxa)) HZ.out.2.1).mono ?_
              rintro e wc ⟨rfl, hxc⟩
              have HXC := Lib.hid (HXB.out.trans (hxa.trans hxc))
              refine hK _ _ ⟨EOn.of_ext hxc, ?_⟩
              clear hK hxa hxc
              generalize txtK A T tx u = ty
              repeat first
                | refine wpG_move' ?_
                | refine wpG_assign' ?_
                | refine wpG_val' ?_
                | refine wpG_no' ?_
              refine wpG_do (by rfl) (fun wa hxa K hK => ?_)
              go_wp2_with fail
              refine (c_live wa (HT.out.ext (HXC.out.trans hxa))).mono ?_
              rintro e wd ⟨rfl, hxd⟩
              have HXD := Lib.hid (HXC.out.trans (hxa.trans hxd))
              refine hK _ _ ⟨EOn.of_ext hxd, ?_⟩
              clear hK hxa hxd
              repeat first
                | refine wpG_move' ?_
                | refine wpG_assign' ?_
                | refine wpG_val' ?_
                | refine wpG_no' ?_
              refine wpG_end (fun we hxe => ?_)
              have HXE := Lib.hid (HXD.out.trans hxe)
              clear hxe
              go_wp2_with fail
              refine gQ_normal ?_
              go_wp2_with fail
              exact ret_one rfl rfl rfl ⟨rfl, HXE.out⟩
          · have hu1 : (0 : Int) < (u.size : Nat) := by omega
            clear hu0
            go_wp2_with fail
            refine (c_gIs (s ++ u) s.size w6 (HT.out.ext HX6.out) HZ.out.2.2).mono ?_
            rintro e w7 ⟨rfl, hx7⟩
            have HX7 := Lib.hid (Ext.trans HX6.out hx7)
            have t0' := hx7.cell t0
            have t1' := hx7.cell t1
            have t2' := hx7.cell t2
            clear hx7 t0 t1 t2
            by_cases hin : s.size ∈ bdG (s ++ u)
            · have HE := Lib.hid (HAPP.out (.inr (.inr hin)))
              rw [decide_eq_true hin]
              clear hin
              have v0 : ∀ o, (w7.alloc o).cell? ⟨ob, 0, none⟩ = some (.int .i64 (A : Nat)) := fun o => ((Ext.refl w7).alloc o).cell t0'
              have v1 : ∀ o, (w7.alloc o).cell? ⟨ob, 1, none⟩ = some (.int .i64 (T : Nat)) := fun o => ((Ext.refl w7).alloc o).cell t1'
              have v2 : ∀ o, (w7.alloc o).cell? ⟨ob, 2, none⟩ = some (.int .i64 (S : Nat)) := fun o => ((Ext.refl w7).alloc o).cell t2'
              go_wp2_with fail
              have hob : ob < w7.heap.size := cell_lt t0'
              have hpb := World.alloc_heap_new w7 (.cells #[.int .i64 (A : Nat), .int .i64 (T : Nat), .int .i64 (S : Nat)] 23)
              have HXP := Lib.hid (HX7.out.alloc (.cells #[.int .i64 (A : Nat), .int .i64 (T : Nat), .int .i64 (S : Nat)] 23))
              have x0 := v0 (.cells #[.int .i64 (A : Nat), .int .i64 (T : Nat), .int .i64 (S : Nat)] 23)
              have x1 := v1 (.cells #[.int .i64 (A : Nat), .int .i64 (T : Nat), .int .i64 (S : Nat)] 23)
              have x2 := v2 (.cells #[.int .i64 (A : Nat), .int .i64 (T : Nat), .int .i64 (S : Nat)] 23)
              have HWS := Lib.hid (show w.heap.size ≤ w7.heap.size from HX7.out.sz)
              clear v0 v1 v2 t0' t1' t2'
              generalize w7.alloc (.cells #[.int .i64 (A : Nat), .int .i64 (T : Nat), .int .i64 (S : Nat)] 23) = WP at hpb HXP x0 x1 x2 ⊢
              generalize w7.heap.size = pb at hob hpb HWS ⊢
              have HOB := Lib.hid (show ob ≠ pb by omega)
              clear hob
              refine (c_wText A T S s WP ho (HT.out.ext HXP.out) HZ.out.1).mono ?_
              rintro e WQ ⟨rfl, hxq⟩
              have htx := txtK_le A T S s ho HZ.out.1
              generalize txtK A T S s = tx at HE htx ⊢
              have HXQ := Lib.hid (Ext.trans HXP.out hxq)
              have HPB := Lib.hid (hxq.blk hpb)
              have HX0 := Lib.hid (And.intro (hxq.cell x0) (And.intro (hxq.cell x1) (hxq.cell x2)))
              clear hxq hpb x0 x1 x2
              have z2 := frz_blk HPB.out 2
              have z3 : WQ.cell? ⟨pb, 2, none⟩ = some (.int .i64 (S : Nat)) := (cell_blk HPB.out 2).trans rfl
              have htI : ((tx : Nat) : Int) ≤ 1080000000 := by omega
              have HR := Lib.hid (show (WQ.setCell ⟨pb, 2, none⟩ (.int .i64 (tx : Nat))).heap[pb]? = some (.cells #[.int .i64 (A : Nat), .int .i64 (T : Nat), .int .i64 (tx : Nat)] 23 (0, 0)) from set_blk HPB.out 2 _)
              have y2 : (WQ.setCell ⟨pb, 2, none⟩ (.int .i64 (tx : Nat))).cell? ⟨pb, 2, none⟩ = some (.int .i64 (tx : Nat)) := (cell_blk HR.out 2).trans rfl
              have hgr := grown_cell WQ pb 2 (.int .i64 (tx : Nat))
              have y3 := (hgr.cell_far _ (cell_lt HX0.out.1) (fun e => HOB.out (Option.some.inj e))).trans HX0.out.1
              have y4 := (hgr.cell_far _ (cell_lt HX0.out.2.1) (fun e => HOB.out (Option.some.inj e))).trans HX0.out.2.1
              have y5 := (hgr.cell_far _ (cell_lt HX0.out.2.2) (fun e => HOB.out (Option.some.inj e))).trans HX0.out.2.2
              have HXR := Lib.hid (show Ext w (WQ.setCell ⟨pb, 2, none⟩ (.int .i64 (tx : Nat))) from Ext.setCell HXQ.out HWS.out _)
              clear hgr htx
              have y0 : (WQ.setCell ⟨pb, 2, none⟩ (.int .i64 (tx : Nat))).cell? ⟨pb, 0, none⟩ = some (.int .i64 (A : Nat)) := (cell_blk HR.out 0).trans rfl
              have y1 : (WQ.setCell ⟨pb, 2, none⟩ (.int .i64 (tx : Nat))).cell? ⟨pb, 1, none⟩ = some (.int .i64 (T : Nat)) := (cell_blk HR.out 1).trans rfl
              have s0 : ∀ w', EOn (fun _ => True) (WQ.setCell ⟨pb, 2, none⟩ (.int .i64 (tx : Nat))) w' → w'.cell? ⟨pb, 0, none⟩ = some (.int .i64 (A : Nat)) := fun w' h => h.cell trivial y0
              have s1 : ∀ w', EOn (fun _ => True) (WQ.setCell ⟨pb, 2, none⟩ (.int .i64 (tx : Nat))) w' → w'.cell? ⟨pb, 1, none⟩ = some (.int .i64 (T : Nat)) := fun w' h => h.cell trivial y1
              have s2 : ∀ w', EOn (fun _ => True) (WQ.setCell ⟨pb, 2, none⟩ (.int .i64 (tx : Nat))) w' → w'.cell? ⟨pb, 2, none⟩ = some (.int .i64 (tx : Nat)) := fun w' h => h.cell trivial y2
              have s3 : ∀ w', EOn (fun _ => True) (WQ.setCell ⟨pb, 2, none⟩ (.int .i64 (tx : Nat))) w' → w'.cell? ⟨ob, 0, none⟩ = some (.int .i64 (A : Nat)) := fun w' h => h.cell trivial y3
              have s4 : ∀ w', EOn (fun _ => True) (WQ.setCell ⟨pb, 2, none⟩ (.int .i64 (tx : Nat))) w' → w'.cell? ⟨ob, 1, none⟩ = some (.int .i64 (T : Nat)) := fun w' h => h.cell trivial y4
              have s5 : ∀ w', EOn (fun _ => True) (WQ.setCell ⟨pb, 2, none⟩ (.int .i64 (tx : Nat))) w' → w'.cell? ⟨ob, 2, none⟩ = some (.int .i64 (S : Nat)) := fun w' h => h.cell trivial y5
              clear y0 y1 y2 y3 y4 y5
              by_cases hgt : (1073741824 : Int) < (tx : Nat)
              · go_wp2_with fail
                generalize WQ.setCell ⟨pb, 2, none⟩ (.int .i64 (tx : Nat)) = WR at HXR s0 s1 s2 s3 s4 s5 ⊢
                refine wp_lex (fun _ => True) [true, true, true, true, true, true, true, true, true, true, true, true, true, true, true, false, true, true] (by kernel_rfl) (by kernel_rfl) ?_
                repeat first
                  | refine wpG_move' ?_
                  | refine wpG_assign' ?_
                  | refine wpG_val' ?_
                  | refine wpG_no' ?_
                refine wpG_do (by rfl) (fun wa hxa K hK => ?_)
                go_wp2_with fail
                refine (c_live wa (HT.out.ext (HXR.out.trans hxa))).mono ?_
                rintro e wb ⟨rfl, hxb⟩
                have HXB := Lib.hid (HXR.out.trans (hxa.trans hxb))
                refine hK _ _ ⟨EOn.of_ext hxb, ?_⟩
                clear hK hxa hxb s0 s1 s2 s3 s4 s5
                repeat first
                  | refine wpG_move' ?_
                  | refine wpG_assign' ?_
                  | refine wpG_val' ?_
                  | refine wpG_no' ?_
                refine wpG_end (fun wc hxc => ?_)
                have HXC := Lib.hid (HXB.out.trans hxc)
                clear hxc
                go_wp2_with fail
                refine gQ_normal ?_
                go_wp2_with fail
                exact ret_one rfl rfl rfl ⟨rfl, HXC.out⟩
              · have HO2 := Lib.hid (show CellOk (A : Nat) (T : Nat) (tx : Nat) by have := ho; unfold CellOk at this ⊢; omega)
                go_wp2_with fail
                generalize WQ.setCell ⟨pb, 2, none⟩ (.int .i64 (tx : Nat)) = WR at HXR s0 s1 s2 s3 s4 s5 ⊢
                have hgd : decide ((1073741824 : Int) < (tx : Nat)) = false := decide_eq_false (by omega)
                have hgd2 : ¬ (1073741824 : Int) < (tx : Nat) := by omega
                refine wp_perm (fun _ => True) [0, 1, 2, 3, 4, 5, 6, 7, 9, 10, 8, 11, 12, 13, 14, 15, 16, 17] [true, true, true, true, true, true, true, true, true, true, false, false, true, true, true, false, true, true] (by kernel_rfl) (by kernel_rfl) (by simp only [List.map_cons, List.map_nil, nth]; rfl) ?_
                repeat first
                  | refine wpG_move' ?_
                  | refine wpG_assign' ?_
                  | refine wpG_val' ?_
                  | refine wpG_no' ?_
                refine wpG_do (by rfl) (fun wa hxa K hK => ?_)
                go_wp2_with fail
                refine (c_wText A T S (s ++ u) wa ho (HT.out.ext (HXR.out.trans hxa)) HZ.out.2.2).mono ?_
                rintro e wb ⟨rfl, hxb⟩
                rw [HE.out]
                have HXB := Lib.hid (HXR.out.trans (hxa.trans hxb))
                refine hK _ _ ⟨EOn.of_ext hxb, ?_⟩
                clear hK hxa hxb s0 s1 s2 s3 s4 s5
                refine wpG_do (by rfl) (fun wa hxa K hK => ?_)
                go_wp2_with fail
                refine (c_wText A T tx u wa HO2.out (HT.out.ext (HXB.out.trans hxa)) HZ.out.2.1).mono ?_
                rintro e wc ⟨rfl, hxc⟩
                have HXC := Lib.hid (HXB.out.trans (hxa.trans hxc))
                refine hK _ _ ⟨EOn.of_ext hxc, ?_⟩
                clear hK hxa hxc
                generalize txtK A T tx u = ty
                repeat first
                  | refine wpG_move' ?_
                  | refine wpG_assign' ?_
                  | refine wpG_val' ?_
                  | refine wpG_no' ?_
                refine wpG_do (by rfl) (fun wa hxa K hK => ?_)
                go_wp2_with fail
                refine (c_live wa (HT.out.ext (HXC.out.trans hxa))).mono ?_
                rintro e wd ⟨rfl, hxd⟩
                have HXD := Lib.hid (HXC.out.trans (hxa.trans hxd))
                refine hK _ _ ⟨EOn.of_ext hxd, ?_⟩
                clear hK hxa hxd
                repeat first
                  | refine wpG_move' ?_
                  | refine wpG_assign' ?_
                  | refine wpG_val' ?_
                  | refine wpG_no' ?_
                refine wpG_end (fun we hxe => ?_)
                have HXE := Lib.hid (HXD.out.trans hxe)
                clear hxe
                go_wp2_with fail
                refine gQ_normal ?_
                go_wp2_with fail
                exact ret_one rfl rfl rfl ⟨rfl, HXE.out⟩
            · rw [decide_eq_false hin]
              clear hin
              go_wp2_with fail
              refine (c_live w7 (HT.out.ext HX7.out)).mono ?_
              rintro e W9 ⟨rfl, hx9⟩
              have HX9 := Lib.hid (Ext.trans HX7.out hx9)
              clear hx9
              go_wp2_with fail
              exact ret_one rfl rfl rfl ⟨rfl, HX9.out⟩
      · have hce : ¬ ((n3 : Nat) : Int) = (n1 : Nat) + (n2 : Nat) := by omega
        clear hc
        go_wp2_with fail
        refine (c_live w6 (HT.out.ext HX6.out)).mono ?_
        rintro e W9 ⟨rfl, hx9⟩
        have HX9 := Lib.hid (Ext.trans HX6.out hx9)
        clear hx9
        go_wp2_with fail
        exact ret_one rfl rfl rfl ⟨rfl, HX9.out⟩
    · go_enter Tryz.func5, Tryz.ntmps5
      go_wp2_with fail
      have HX := Lib.hid ((Ext.refl w).alloc (.cells #[.int .i64 a, .int .i64 t, .int .i64 st] 23))
      generalize w.alloc (.cells #[.int .i64 a, .int .i64 t, .int .i64 st] 23) = w1 at HX ⊢
      refine (c_wCheck a t st w1).mono ?_
      rintro e w2 ⟨rfl, hx⟩
      rw [if_neg ho]
      have HXL := Lib.hid (Ext.trans HX.out hx)
      clear hx ho
      go_wp2_with fail
      refine (c_num 2 w2).mono ?_
      rintro e w3 ⟨rfl, rfl⟩
      go_wp2_with fail
      refine (c_live w3 (HT.out.ext HXL.out)).mono ?_
      rintro e W9 ⟨rfl, hx9⟩
      have HX9 := Lib.hid (Ext.trans HXL.out hx9)
      clear hx9
      go_wp2_with fail
      exact ret_one rfl rfl rfl ⟨rfl, HX9.out⟩
end Go.Proofs.YtafmhmcinhbpfaaGreatDoor
