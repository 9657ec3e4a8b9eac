/-
  The law of what was cut and what was made plain.
-/
import Derived.Test.YtafmhmcinhbpfaaGreatDoorWaO
import Derived.Test.YtafmhmcinhbpfaaGreatDoorUtR
namespace Go.Proofs.YtafmhmcinhbpfaaGreatDoor
open Go.RowKit Go.Rp Go.Maps Go.Cl Go.Shelf Go.Gr

attribute [local go_sem] Oper.semAt_some
theorem eqf_in (w : World) (d : Nat) (f : FuncId) (lb : Array Value) : (Op.equalIn (d + 1) 29 (.func (.func f) #[] lb) .nilFunc).run Tryz.prog w = .ok false w := by
  simp [Op.equalIn, run_underlying Tryz.underlying29]
theorem eqf_nil (f : FuncId) (lb : Array Value) (w : World) : (binOp .eql 29 (.func (.func f) #[] lb) .nilFunc).run Tryz.prog w = .ok (.bool false) w := by
  simp only [binOp]
  simp [Op.equal, Op.maxDepth, eqf_in w 9999]
set_option maxRecDepth 100000 in
set_option maxHeartbeats 4000000 in
theorem c_fits (s : ByteArray) (cells a t st : Int) (w : World) (hT : TabsW w) (hs : s.size ≤ 140737488351232) :
    Calls Tryz.prog 7 #[.string s, .int .i64 cells, .agg #[.int .i64 a, .int .i64 t, .int .i64 st]] w fun e w' => e = .returned (.bool true) ∧ Ext w w' := by
  have HT := Lib.hid hT
  have hsI : ((s.size : Nat) : Int) ≤ 140737488351232 := by omega
  by_cases hbig : (100 : Int) < ((s.size : Nat) : Int)
  · go_enter Tryz.func7, Tryz.ntmps7
    go_wp2_with fail
    have hbo := (Below.heap_alloc (w.alloc (.cells #[.int .i64 a, .int .i64 t, .int .i64 st] 23)) (.cells #[.bool false] 4) w.heap.size (by simp)).trans (World.alloc_heap_new w (.cells #[.int .i64 a, .int .i64 t, .int .i64 st] 23))
    have hrb := Boxed.new (w.alloc (.cells #[.int .i64 a, .int .i64 t, .int .i64 st] 23)) 4 (.bool false)
    rw [World.size_alloc] at hrb
    have HX := Lib.hid (((Ext.refl w).alloc (.cells #[.int .i64 a, .int .i64 t, .int .i64 st] 23)).alloc (.cells #[.bool false] 4))
    generalize (w.alloc (.cells #[.int .i64 a, .int .i64 t, .int .i64 st] 23)).alloc (.cells #[.bool false] 4) = w1 at hbo hrb HX ⊢
    generalize hob : w.heap.size = ob at hbo hrb ⊢
    have HOB := Lib.hid (show w.heap.size ≤ ob from Nat.le_of_eq hob)
    clear hob
    have HR := Lib.hid hrb
    clear hrb
    have HXL := HX
    have HRL := HR
    refine (c_live w1 (HT.out.ext HXL.out)).mono ?_
    rintro e W9 ⟨rfl, hx9⟩
    have HX9 := Lib.hid (Ext.trans HXL.out hx9)
    have HR9 := Lib.hid (HRL.out.ext hx9)
    have r1 := HR9.out.cell
    have r2 := HR9.out.frozen
    clear hx9
    go_wp2_with fail
    have hs := HR9.out.set (.bool true)
    have hxs : Ext w (W9.setCell ⟨ob + 1, 0, none⟩ (.bool true)) := Ext.setCell HX9.out (show w.heap.size ≤ ob + 1 by have := HOB.out; omega) _
    have r3 := hs.cell
    exact bodyPost_ret (v := .bool true) (by simp [results, r3, go_sem]) rfl ⟨rfl, hxs⟩
  · by_cases ho : CellOk a t st
    · obtain ⟨A, rfl⟩ : ∃ A : Nat, a = A := ⟨a.toNat, by unfold CellOk at ho; omega⟩
      obtain ⟨T, rfl⟩ : ∃ T : Nat, t = T := ⟨t.toNat, by unfold CellOk at ho; omega⟩
      obtain ⟨S, rfl⟩ : ∃ S : Nat, st = S := ⟨st.toNat, by unfold CellOk at ho; omega⟩
      have hz : s.size ≤ 100 := by omega
      have HZ := Lib.hid hz
      have HCT := Lib.hid (cutK_text A T S s cells)
      have HCF := Lib.hid (cutK_fit A T S s cells)
      have HCP := Lib.hid (cutK_pre A T S s cells)
      have HCW := Lib.hid (fun w1 h => c_wCut A T S s cells w1 ho h (by omega))
      refine (callsIn_wide (n := 3)).1 ?_
      have hall : ∀ f, Fence.wide.fn f := fun _ => trivial
      have hro : Fence.wide.round = none := rfl
      refine callsIn_of_wp_marks Tryz.func7 rfl (hall _) ?_ rfl
      simp only [Tryz.ntmps7, List.size_toArray, List.length_cons, List.length_nil, Nat.reduceAdd, Nat.reduceSub, Array.replicate_succ, Array.replicate_zero, List.push_toArray, List.append_toArray, List.nil_append, List.cons_append]
      refine wpIn_wide.2 ?_
      go_wp2_with fail
      have hbo := (Below.heap_alloc (w.alloc (.cells #[.int .i64 (A : Nat), .int .i64 (T : Nat), .int .i64 (S : Nat)] 23)) (.cells #[.bool false] 4) w.heap.size (by simp)).trans (World.alloc_heap_new w (.cells #[.int .i64 (A : Nat), .int .i64 (T : Nat), .int .i64 (S : Nat)] 23))
      have hrb := Boxed.new (w.alloc (.cells #[.int .i64 (A : Nat), .int .i64 (T : Nat), .int .i64 (S : Nat)] 23)) 4 (.bool false)
      rw [World.size_alloc] at hrb
      have HX := Lib.hid (((Ext.refl w).alloc (.cells #[.int .i64 (A : Nat), .int .i64 (T : Nat), .int .i64 (S : Nat)] 23)).alloc (.cells #[.bool false] 4))
      generalize (w.alloc (.cells #[.int .i64 (A : Nat), .int .i64 (T : Nat), .int .i64 (S : Nat)] 23)).alloc (.cells #[.bool false] 4) = w1 at hbo hrb HX ⊢
      generalize hob : w.heap.size = ob at hbo hrb ⊢
      have HOB := Lib.hid (show w.heap.size ≤ ob from Nat.le_of_eq hob)
      clear hob
      have HR := Lib.hid hrb
      clear hrb
      refine (c_wCheck (A : Nat) (T : Nat) (S : Nat) w1).mono ?_
      rintro e w2 ⟨rfl, hx⟩
      rw [if_pos ho]
      have HBO := Lib.hid (hx.blk hbo)
      have HX2 := Lib.hid (Ext.trans HX.out hx)
      have HR2 := Lib.hid (HR.out.ext hx)
      have o0 : w2.cell? ⟨ob, 0, none⟩ = some (.int .i64 (A : Nat)) := (cell_blk HBO.out 0).trans rfl
      have o1 : w2.cell? ⟨ob, 1, none⟩ = some (.int .i64 (T : Nat)) := (cell_blk HBO.out 1).trans rfl
      have o2 : w2.cell? ⟨ob, 2, none⟩ = some (.int .i64 (S : Nat)) := (cell_blk HBO.out 2).trans rfl
      clear hx hbo
      go_wp2_with fail
      refine (c_num 0 w2).mono ?_
      rintro e w3 ⟨rfl, rfl⟩
      go_wp2_with fail
      refine (HCW.out w3 (HT.out.ext HX2.out)).mono ?_
      rintro e w4 ⟨rfl, hx4⟩
      have HX4 := Lib.hid (Ext.trans HX2.out hx4)
      have HR4 := Lib.hid (HR2.out.ext hx4)
      have q0 := hx4.cell o0
      have q1 := hx4.cell o1
      have q2 := hx4.cell o2
      clear hx4 o0 o1 o2 HCW
      generalize cutK A T S s cells = cu at HCT HCF HCP ⊢
      obtain ⟨ca, cn⟩ := cu
      have hca : ca.size ≤ s.size := HCP.out.1
      have hct : txtK A T S ca = cn := HCT.out
      go_wp2_with fail
      refine (c_wText A T S ca w4 ho (HT.out.ext HX4.out) (by omega)).mono ?_
      rintro e w5 ⟨rfl, hx5⟩
      rw [hct]
      have HX5 := Lib.hid (Ext.trans HX4.out hx5)
      have HR5 := Lib.hid (HR4.out.ext hx5)
      have p0 := hx5.cell q0
      have p1 := hx5.cell q1
      have p2 := hx5.cell q2
      clear hx5 q0 q1 q2 hct
      have hcaI : ¬ ((s.size : Nat) : Int) < (ca.size : Nat) := by omega
      have hcaI2 : ((ca.size : Nat) : Int) ≤ (s.size : Nat) := by omega
      have hex : s.extract 0 ca.size = ca := HCP.out.2
      have hcf : ((cn : Nat) : Int) ≤ cells ∨ cn = S := HCF.out
      clear HCT HCF HCP
      by_cases hgt : cells < (cn : Nat)
      · obtain rfl : S = cn := by omega
        clear hcf
        go_wp2_with fail
        refine (c_wPlain A T S s w5 ho (HT.out.ext HX5.out) (by omega)).mono ?_
        rintro e w6 ⟨rfl, hx6⟩
        have HX6 := Lib.hid (Ext.trans HX5.out hx6)
        have HR6 := Lib.hid (HR5.out.ext hx6)
        have q0 := hx6.cell p0
        have q1 := hx6.cell p1
        have q2 := hx6.cell p2
        have h1t : 1 ≤ T ∧ T ≤ 64 := by unfold CellOk at ho; omega
        have HPL := Lib.hid (plainK_len A T S s h1t.1 h1t.2)
        have HP9 := Lib.hid (plainK_no9 A T S s h1t.1)
        have HPT := Lib.hid (txtK_plain A T S s h1t.1)
        generalize plainK A T S s = PL at HPL HP9 HPT ⊢
        obtain ⟨P, hP⟩ : ∃ P : ByteArray, P = ⟨PL.toArray⟩ := ⟨_, rfl⟩
        have HPZ := Lib.hid (show P.size ≤ 64 * s.size by rw [hP, ← len_eq]; exact HPL.out)
        have HP8 := Lib.hid (show ∀ i (h : i < P.size), (((P[i].toNat : Nat) : Int) == 9) = false from fun i h => by
          have h9 : 9 ∉ P.data.toList := by rw [hP]; exact HP9.out
          have hne : P[i] ≠ 9 := fun e => h9 (by rw [← e]; exact List.getElem_mem (by rw [len_eq]; exact h))
          have : P[i].toNat ≠ 9 := fun e => hne (UInt8.toNat_inj.1 e)
          simp; omega)
        rw [← hP] at HPT ⊢
        clear HPL HP9 hP
        clear hx6 h1t p0 p1 p2
        go_wp2_with fail
        refine (c_gEach P _).mono ?_
        rintro e w7 ⟨rfl, rfl⟩
        have hnf := eqf_nil 62
        go_wp2_with fail
        clear hnf
        obtain ⟨wE, hwE⟩ : ∃ wE, wE = ((w6.alloc (.cells #[.string P] 9)).alloc (.cells #[.string P] 9)) := ⟨_, rfl⟩
        have hszE : wE.heap.size = w6.heap.size + 2 := by rw [hwE]; simp
        have hxE : Ext w6 wE := by rw [hwE]; exact ((Ext.refl w6).alloc _).alloc _
        have bP : Boxed wE w6.heap.size 9 (.string P) := by rw [hwE]; exact (Boxed.new _ _ _).alloc _
        have bQ : Boxed wE (w6.heap.size + 1) 9 (.string P) := by rw [hwE]; have := Boxed.new (w6.alloc (.cells #[.string P] 9)) 9 (.string P); rw [World.size_alloc] at this; exact this
        rw [← hwE]
        clear hwE
        generalize w6.heap.size = pb at hszE bP bQ ⊢
        have HXE := Lib.hid hxE
        have HBP := Lib.hid bP
        have hpz : P.size ≤ 65536 := by
          have h1 := HPZ.out
          omega
        refine (wpIn_wide (n := 3)).1 ?_
        refine wpIn_rangeFunc_ownF hro (by decide) (gf := 62) (lb := #[.pointer (some ⟨pb + 1, 0, none⟩)]) rfl (hall _) (enters_of Tryz.func62 (by kernel_rfl) rfl)
          (g_stops (fun x : Sub P => x.1) (pairsA P) P (pairsA_val _) (3 - 1) (pb + 1) wE.heap.size wE wE (HT.out.ext (HX6.out.trans HXE.out)) hpz (Ext.refl _) (Nat.le_refl _) bQ) (fun h k => h.trans k)
          (fun W l o o' _ h ho _ => KI.put W l o o' h ho) (Below.refl _ _) (fun _ => rfl)
          (fun _ W => Below wE.heap.size wE W) (fun _ _ _ => False) (fun _ X Y row h hg hr => Below.grown h hg h.size (fun k e => (hr k e).1)) (fun _ _ _ _ _ hs _ _ => hs)
          (Below.refl _ _) ?a11 ?assign1 ?body1 ?done1 ?stop1
        case assign1 =>
          intro l x W K hK
          gi_wp2
          exact hK
        case stop1 =>
          rintro D c pre W _ _ h _
          exact h.elim
        case body1 =>
          rintro l pre x W hI hlt
          obtain ⟨⟨x1, x2⟩, hx1, hx2⟩ := x
          simp only at hx1 hx2
          have HI := Lib.hid hI
          have hpc := (HBP.out.ext hI).cell
          have hxl : x1 < P.size := by omega
          have hxlI : ((x1 : Nat) : Int) < (P.size : Nat) := by omega
          have hx9 := HP8.out x1 hxl
          generalize hq : ((P[x1].toNat : Nat) : Int) = q at hx9
          clear hI hlt
          gi_wp2_with fail
          exact ⟨keeps_ext (Ext.refl W), KI.of_ext (Ext.refl W), HI.out⟩
        case done1 =>
          rintro D ys W hD rfl hI hK
          have HD := Lib.hid (show W.heap[D]? = some (.deferred (some [])) ∧ wE.heap.size ≤ D from ⟨hK, hD⟩)
          have HXW := Lib.hid (show Ext w W from HX6.out.trans (HXE.out.trans hI))
          have HRW := Lib.hid (HR6.out.ext (HXE.out.trans hI))
          have k0 := Ext.cell (HXE.out.trans hI) q0
          have k1 := Ext.cell (HXE.out.trans hI) q1
          have k2 := Ext.cell (HXE.out.trans hI) q2
          have k3 := (HBP.out.ext hI).cell
          clear hI hD hK q0 q1 q2
          go_wp2_with fail
          refine (c_Runes s W (by have := HZ.out; omega)).mono ?_
          rintro e w8 ⟨v, rfl, hown, hx8⟩
          obtain ⟨pr, cr, rfl⟩ := own_slice hown
          have HOW := Lib.hid hown
          have HX8 := Lib.hid hx8
          have hml : (mk s).length ≤ 100 := by have := mk_len s; have := HZ.out; omega
          have hmlI : (((mk s).length : Nat) : Int) ≤ 100 := by omega
          clear hown
          go_wp2_with fail
          go_loopw [13] (fun iv W' => ∃ i : Nat, iv = .int .i64 (i : Nat) ∧ i ≤ (mk s).length ∧ Hid (∀ j (h : j < (mk s).length), j < i → clsG (mk s)[j].1 ≠ 6) ∧ Hid (Ext w8 W')) (fun iv _ => (mk s).length + 1 - (intOf iv).toNat)
          case atStart => exact ⟨0, rfl, Nat.zero_le _, Lib.hid (fun j h hj => by omega), Lib.hid (Ext.refl _)⟩
          case round =>
            obtain ⟨i, rfl, hi, HJ, HXR⟩ := hrel
            by_cases hil : i < (mk s).length
            · have hI : ((i : Nat) : Int) < ((mk s).length : Nat) := by omega
              have hd : decide (i < (mk s).length) = true := decide_eq_true hil
              obtain ⟨g, rfl, _, _, hg⟩ := own_at HOW.out (by omega)
              have hc : wr.cell? ⟨g, i, none⟩ = some (.int .i32 ((mk s)[i].1 : Nat)) := by
                refine HXR.out.cell ((hg i (by omega)).trans ?_)
                simp [rW, hil]
              have hrx := (mk_ok s (by have := HZ.out; omega) _ (List.getElem_mem hil)).1
              obtain ⟨r, hr⟩ : ∃ r, (mk s)[i].1 = r := ⟨_, rfl⟩
              rw [hr] at hc hrx
              have HRR := Lib.hid hr
              have HGC := Lib.hid (c_gClass (r : Nat) wr (HT.out.ext (HXW.out.trans (HX8.out.trans HXR.out))) (by omega) (by omega))
              clear hg hr
              go_wp2_with fail
              refine HGC.out.mono ?_
              rintro e w9 ⟨rfl, hx9⟩
              rw [rnN_nat r hrx]
              have HXR9 := Lib.hid (HXR.out.trans hx9)
              clear hx9 HGC hc
              by_cases h6 : clsG r = 6
              · rw [h6]
                go_wp2_with fail
                refine (c_live w9 (HT.out.ext (HXW.out.trans (HX8.out.trans HXR9.out)))).mono ?_
                rintro e wf ⟨rfl, hxf⟩
                have HXF := Lib.hid (Ext.trans HX8.out (HXR9.out.trans hxf))
                clear hxf
                have HR9 := Lib.hid (HRW.out.ext HXF.out)
                have hr1 := HR9.out.cell
                have hr2 := HR9.out.frozen
                go_wp2_with fail
                skip
                have hs := HR9.out.set (.bool true)
                have hgr := grown_cell wf (ob + 1) 0 (.bool true)
                have hDlt : D < W.heap.size := (Array.getElem?_eq_some_iff.1 HD.out.1).1
                have hob1 : ob + 1 < wE.heap.size := blk_lt (HR6.out.ext HXE.out)
                have hD1 : (wf.setCell ⟨ob + 1, 0, none⟩ (.bool true)).heap[D]? = some (.deferred (some [])) := (hgr.block D (Nat.lt_of_lt_of_le hDlt HXF.out.sz) (fun e => by have h1 := Option.some.inj e; have h2 := HD.out.2; omega)).trans ((HXF.out.block D hDlt).trans HD.out.1)
                have hwE : w.heap.size ≤ wE.heap.size := (HX6.out.trans HXE.out).sz
                have hxs : Ext w (wf.setCell ⟨ob + 1, 0, none⟩ (.bool true)) := Ext.setCell (HXW.out.trans HXF.out) (show w.heap.size ≤ ob + 1 by have := HOB.out; omega) _
                have hs2 : Boxed ((wf.setCell ⟨ob + 1, 0, none⟩ (.bool true)).putObj D (.deferred none)) (ob + 1) 4 (.bool true) := (World.putObj_heap_other (by have h2 := HD.out.2; omega)).trans hs
                have r3 := hs2.cell
                refine ⟨by simp, .inl ⟨_, _, rfl, run_takeDeferred hD1, ?_⟩⟩
                refine ⟨.bool true, by simp [results, r3, go_sem], rfl, Below.trans (show Below w.heap.size w _ from hxs) (belowK_b (w := w) (Nat.le_refl _) _ D _ _ (by have h2 := HD.out.2; omega) hD1 rfl rfl)⟩
              · have h6I : ¬ ((clsG r : Nat) : Int) = 6 := by omega
                have h6J : (((clsG r : Nat) : Int) == 6) = false := by simp; omega
                have HJ2 := Lib.hid (show ∀ j (h : j < (mk s).length), j < i + 1 → clsG (mk s)[j].1 ≠ 6 from fun j h hj => by
                  by_cases e : j = i
                  · subst e; rw [HRR.out]; exact h6
                  · exact HJ.out j h (by omega))
                generalize clsG r = cc at h6I h6J ⊢
                clear h6
                go_wp2_with fail
                exact ⟨⟨i + 1, by simp, by omega, HJ2, HXR9⟩, by simp only [intOf]; omega⟩
            · have hI : ¬ ((i : Nat) : Int) < ((mk s).length : Nat) := by omega
              have hd : decide (i < (mk s).length) = false := decide_eq_false hil
              have HPE := Lib.hid (HPT.out (fun r hr => by
                unfold runesOf at hr
                obtain ⟨m, hm, rfl⟩ := List.mem_map.1 hr
                have hm2 : m ∈ mk s := by unfold mk; rw [len_eq] at hm; exact hm
                obtain ⟨j, hj, rfl⟩ := List.getElem_of_mem hm2
                exact HJ.out j hj (by omega)))
              have g0 := Ext.cell (HX8.out.trans HXR.out) k0
              have g1 := Ext.cell (HX8.out.trans HXR.out) k1
              have g2 := Ext.cell (HX8.out.trans HXR.out) k2
              have g3 := Ext.cell (HX8.out.trans HXR.out) k3
              have s0 : ∀ w', EOn (fun _ => True) wr w' → w'.cell? ⟨ob, 0, none⟩ = some (.int .i64 (A : Nat)) := fun w' h => h.cell trivial g0
              have s1 : ∀ w', EOn (fun _ => True) wr w' → w'.cell? ⟨ob, 1, none⟩ = some (.int .i64 (T : Nat)) := fun w' h => h.cell trivial g1
              have s2 : ∀ w', EOn (fun _ => True) wr w' → w'.cell? ⟨ob, 2, none⟩ = some (.int .i64 (S : Nat)) := fun w' h => h.cell trivial g2
              have s3 : ∀ w', EOn (fun _ => True) wr w' → w'.cell? ⟨pb, 0, none⟩ = some (.string P) := fun w' h => h.cell trivial g3
              clear g0 g1 g2 g3
              go_wp2_with fail
              refine wp_perm (fun _ => True) [0, 1, 3, 4, 2, 5, 6, 7, 8, 9, 10] [true, true, true, true, false, false, true, true, false, true] (by kernel_rfl) (by kernel_rfl) (by simp only [List.map_cons, List.map_nil, nth]; rfl) ?_
              repeat first
                | refine wpG_move' ?_
                | refine wpG_assign' ?_
                | refine wpG_val' ?_
                | refine wpG_no' ?_
              clear s0 s1 s2 s3
              have HXR0 := Lib.hid (show Ext w wr from HXW.out.trans (HX8.out.trans HXR.out))
              refine wpG_do (by rfl) (fun wa hxa K hK => ?_)
              go_wp2_with fail
              refine (c_wText A T S P wa ho (HT.out.ext (HXR0.out.trans hxa)) hpz).mono ?_
              rintro e wb ⟨rfl, hxb⟩
              rw [HPE.out]
              have HXB := Lib.hid (hxa.trans hxb)
              refine hK _ _ ⟨EOn.of_ext hxb, ?_⟩
              clear hK hxa hxb
              refine wpG_do (by rfl) (fun wa hxa K hK => ?_)
              go_wp2_with fail
              refine (c_wText A T S s wa ho (HT.out.ext (HXR0.out.trans (HXB.out.trans hxa))) (by have := HZ.out; omega)).mono ?_
              rintro e wc ⟨rfl, hxc⟩
              generalize txtK A T S s = ty
              have HXC := Lib.hid (HXB.out.trans (hxa.trans hxc))
              refine hK _ _ ⟨EOn.of_ext hxc, ?_⟩
              clear hK hxa hxc
              repeat first
                | refine wpG_move' ?_
                | refine wpG_assign' ?_
                | refine wpG_val' ?_
                | refine wpG_no' ?_
              refine wpG_do (by rfl) (fun wa hxa K hK => ?_)
              go_wp2_with fail
              refine (c_live wa (HT.out.ext (HXR0.out.trans (HXC.out.trans hxa)))).mono ?_
              rintro e wd ⟨rfl, hxd⟩
              have HXD := Lib.hid (HXC.out.trans (hxa.trans hxd))
              refine hK _ _ ⟨EOn.of_ext hxd, ?_⟩
              clear hK hxa hxd
              repeat first
                | refine wpG_move' ?_
                | refine wpG_assign' ?_
                | refine wpG_val' ?_
                | refine wpG_no' ?_
              refine wpG_end (fun we hxe => ?_)
              have HXF := Lib.hid (Ext.trans HX8.out (HXR.out.trans (HXD.out.trans hxe)))
              clear hxe
              have HR9 := Lib.hid (HRW.out.ext HXF.out)
              have hr1 := HR9.out.cell
              have hr2 := HR9.out.frozen
              go_wp2_with fail
              (refine gQ_normal ?_; go_wp2_with fail)
              have hs := HR9.out.set (.bool true)
              have hgr := grown_cell we (ob + 1) 0 (.bool true)
              have hDlt : D < W.heap.size := (Array.getElem?_eq_some_iff.1 HD.out.1).1
              have hob1 : ob + 1 < wE.heap.size := blk_lt (HR6.out.ext HXE.out)
              have hD1 : (we.setCell ⟨ob + 1, 0, none⟩ (.bool true)).heap[D]? = some (.deferred (some [])) := (hgr.block D (Nat.lt_of_lt_of_le hDlt HXF.out.sz) (fun e => by have h1 := Option.some.inj e; have h2 := HD.out.2; omega)).trans ((HXF.out.block D hDlt).trans HD.out.1)
              have hwE : w.heap.size ≤ wE.heap.size := (HX6.out.trans HXE.out).sz
              have hxs : Ext w (we.setCell ⟨ob + 1, 0, none⟩ (.bool true)) := Ext.setCell (HXW.out.trans HXF.out) (show w.heap.size ≤ ob + 1 by have := HOB.out; omega) _
              have hs2 : Boxed ((we.setCell ⟨ob + 1, 0, none⟩ (.bool true)).putObj D (.deferred none)) (ob + 1) 4 (.bool true) := (World.putObj_heap_other (by have h2 := HD.out.2; omega)).trans hs
              have r3 := hs2.cell
              refine ⟨by simp, .inl ⟨_, _, rfl, run_takeDeferred hD1, ?_⟩⟩
              refine ⟨.bool true, by simp [results, r3, go_sem], rfl, Below.trans (show Below w.heap.size w _ from hxs) (belowK_b (w := w) (Nat.le_refl _) _ D _ _ (by have h2 := HD.out.2; omega) hD1 rfl rfl)⟩
      · clear hcf
        go_wp2_with fail
        refine (c_wPlain A T S s w5 ho (HT.out.ext HX5.out) (by omega)).mono ?_
        rintro e w6 ⟨rfl, hx6⟩
        have HX6 := Lib.hid (Ext.trans HX5.out hx6)
        have HR6 := Lib.hid (HR5.out.ext hx6)
        have q0 := hx6.cell p0
        have q1 := hx6.cell p1
        have q2 := hx6.cell p2
        have h1t : 1 ≤ T ∧ T ≤ 64 := by unfold CellOk at ho; omega
        have HPL := Lib.hid (plainK_len A T S s h1t.1 h1t.2)
        have HP9 := Lib.hid (plainK_no9 A T S s h1t.1)
        have HPT := Lib.hid (txtK_plain A T S s h1t.1)
        generalize plainK A T S s = PL at HPL HP9 HPT ⊢
        obtain ⟨P, hP⟩ : ∃ P : ByteArray, P = ⟨PL.toArray⟩ := ⟨_, rfl⟩
        have HPZ := Lib.hid (show P.size ≤ 64 * s.size by rw [hP, ← len_eq]; exact HPL.out)
        have HP8 := Lib.hid (show ∀ i (h : i < P.size), (((P[i].toNat : Nat) : Int) == 9) = false from fun i h => by
          have h9 : 9 ∉ P.data.toList := by rw [hP]; exact HP9.out
          have hne : P[i] ≠ 9 := fun e => h9 (by rw [← e]; exact List.getElem_mem (by rw [len_eq]; exact h))
          have : P[i].toNat ≠ 9 := fun e => hne (UInt8.toNat_inj.1 e)
          simp; omega)
        rw [← hP] at HPT ⊢
        clear HPL HP9 hP
        clear hx6 h1t p0 p1 p2
        go_wp2_with fail
        refine (c_gEach P _).mono ?_
        rintro e w7 ⟨rfl, rfl⟩
        have hnf := eqf_nil 62
        go_wp2_with fail
        clear hnf
        obtain ⟨wE, hwE⟩ : ∃ wE, wE = ((w6.alloc (.cells #[.string P] 9)).alloc (.cells #[.string P] 9)) := ⟨_, rfl⟩
        have hszE : wE.heap.size = w6.heap.size + 2 := by rw [hwE]; simp
        have hxE : Ext w6 wE := by rw [hwE]; exact ((Ext.refl w6).alloc _).alloc _
        have bP : Boxed wE w6.heap.size 9 (.string P) := by rw [hwE]; exact (Boxed.new _ _ _).alloc _
        have bQ : Boxed wE (w6.heap.size + 1) 9 (.string P) := by rw [hwE]; have := Boxed.new (w6.alloc (.cells #[.string P] 9)) 9 (.string P); rw [World.size_alloc] at this; exact this
        rw [← hwE]
        clear hwE
        generalize w6.heap.size = pb at hszE bP bQ ⊢
        have HXE := Lib.hid hxE
        have HBP := Lib.hid bP
        have hpz : P.size ≤ 65536 := by
          have h1 := HPZ.out
          omega
        refine (wpIn_wide (n := 3)).1 ?_
        refine wpIn_rangeFunc_ownF hro (by decide) (gf := 62) (lb := #[.pointer (some ⟨pb + 1, 0, none⟩)]) rfl (hall _) (enters_of Tryz.func62 (by kernel_rfl) rfl)
          (g_stops (fun x : Sub P => x.1) (pairsA P) P (pairsA_val _) (3 - 1) (pb + 1) wE.heap.size wE wE (HT.out.ext (HX6.out.trans HXE.out)) hpz (Ext.refl _) (Nat.le_refl _) bQ) (fun h k => h.trans k)
          (fun W l o o' _ h ho _ => KI.put W l o o' h ho) (Below.refl _ _) (fun _ => rfl)
          (fun _ W => Below wE.heap.size wE W) (fun _ _ _ => False) (fun _ X Y row h hg hr => Below.grown h hg h.size (fun k e => (hr k e).1)) (fun _ _ _ _ _ hs _ _ => hs)
          (Below.refl _ _) ?a12 ?assign2 ?body2 ?done2 ?stop2
        case assign2 =>
          intro l x W K hK
          gi_wp2
          exact hK
        case stop2 =>
          rintro D c pre W _ _ h _
          exact h.elim
        case body2 =>
          rintro l pre x W hI hlt
          obtain ⟨⟨x1, x2⟩, hx1, hx2⟩ := x
          simp only at hx1 hx2
          have HI := Lib.hid hI
          have hpc := (HBP.out.ext hI).cell
          have hxl : x1 < P.size := by omega
          have hxlI : ((x1 : Nat) : Int) < (P.size : Nat) := by omega
          have hx9 := HP8.out x1 hxl
          generalize hq : ((P[x1].toNat : Nat) : Int) = q at hx9
          clear hI hlt
          gi_wp2_with fail
          exact ⟨keeps_ext (Ext.refl W), KI.of_ext (Ext.refl W), HI.out⟩
        case done2 =>
          rintro D ys W hD rfl hI hK
          have HD := Lib.hid (show W.heap[D]? = some (.deferred (some [])) ∧ wE.heap.size ≤ D from ⟨hK, hD⟩)
          have HXW := Lib.hid (show Ext w W from HX6.out.trans (HXE.out.trans hI))
          have HRW := Lib.hid (HR6.out.ext (HXE.out.trans hI))
          have k0 := Ext.cell (HXE.out.trans hI) q0
          have k1 := Ext.cell (HXE.out.trans hI) q1
          have k2 := Ext.cell (HXE.out.trans hI) q2
          have k3 := (HBP.out.ext hI).cell
          clear hI hD hK q0 q1 q2
          go_wp2_with fail
          refine (c_Runes s W (by have := HZ.out; omega)).mono ?_
          rintro e w8 ⟨v, rfl, hown, hx8⟩
          obtain ⟨pr, cr, rfl⟩ := own_slice hown
          have HOW := Lib.hid hown
          have HX8 := Lib.hid hx8
          have hml : (mk s).length ≤ 100 := by have := mk_len s; have := HZ.out; omega
          have hmlI : (((mk s).length : Nat) : Int) ≤ 100 := by omega
          clear hown
          go_wp2_with fail
          go_loopw [13] (fun iv W' => ∃ i : Nat, iv = .int .i64 (i : Nat) ∧ i ≤ (mk s).length ∧ Hid (∀ j (h : j < (mk s).length), j < i → clsG (mk s)[j].1 ≠ 6) ∧ Hid (Ext w8 W')) (fun iv _ => (mk s).length + 1 - (intOf iv).toNat)
          case atStart => exact ⟨0, rfl, Nat.zero_le _, Lib.hid (fun j h hj => by omega), Lib.hid (Ext.refl _)⟩
          case round =>
            obtain ⟨i, rfl, hi, HJ, HXR⟩ := hrel
            by_cases hil : i < (mk s).length
            · have hI : ((i : Nat) : Int) < ((mk s).length : Nat) := by omega
              have hd : decide (i < (mk s).length) = true := decide_eq_true hil
              obtain ⟨g, rfl, _, _, hg⟩ := own_at HOW.out (by omega)
              have hc : wr.cell? ⟨g, i, none⟩ = some (.int .i32 ((mk s)[i].1 : Nat)) := by
                refine HXR.out.cell ((hg i (by omega)).trans ?_)
                simp [rW, hil]
              have hrx := (mk_ok s (by have := HZ.out; omega) _ (List.getElem_mem hil)).1
              obtain ⟨r, hr⟩ : ∃ r, (mk s)[i].1 = r := ⟨_, rfl⟩
              rw [hr] at hc hrx
              have HRR := Lib.hid hr
              have HGC := Lib.hid (c_gClass (r : Nat) wr (HT.out.ext (HXW.out.trans (HX8.out.trans HXR.out))) (by omega) (by omega))
              clear hg hr
              go_wp2_with fail
              refine HGC.out.mono ?_
              rintro e w9 ⟨rfl, hx9⟩
              rw [rnN_nat r hrx]
              have HXR9 := Lib.hid (HXR.out.trans hx9)
              clear hx9 HGC hc
              by_cases h6 : clsG r = 6
              · rw [h6]
                go_wp2_with fail
                refine (c_live w9 (HT.out.ext (HXW.out.trans (HX8.out.trans HXR9.out)))).mono ?_
                rintro e wf ⟨rfl, hxf⟩
                have HXF := Lib.hid (Ext.trans HX8.out (HXR9.out.trans hxf))
                clear hxf
                have HR9 := Lib.hid (HRW.out.ext HXF.out)
                have hr1 := HR9.out.cell
                have hr2 := HR9.out.frozen
                go_wp2_with fail
                skip
                have hs := HR9.out.set (.bool true)
                have hgr := grown_cell wf (ob + 1) 0 (.bool true)
                have hDlt : D < W.heap.size := (Array.getElem?_eq_some_iff.1 HD.out.1).1
                have hob1 : ob + 1 < wE.heap.size := blk_lt (HR6.out.ext HXE.out)
                have hD1 : (wf.setCell ⟨ob + 1, 0, none⟩ (.bool true)).heap[D]? = some (.deferred (some [])) := (hgr.block D (Nat.lt_of_lt_of_le hDlt HXF.out.sz) (fun e => by have h1 := Option.some.inj e; have h2 := HD.out.2; omega)).trans ((HXF.out.block D hDlt).trans HD.out.1)
                have hwE : w.heap.size ≤ wE.heap.size := (HX6.out.trans HXE.out).sz
                have hxs : Ext w (wf.setCell ⟨ob + 1, 0, none⟩ (.bool true)) := Ext.setCell (HXW.out.trans HXF.out) (show w.heap.size ≤ ob + 1 by have := HOB.out; omega) _
                have hs2 : Boxed ((wf.setCell ⟨ob + 1, 0, none⟩ (.bool true)).putObj D (.deferred none)) (ob + 1) 4 (.bool true) := (World.putObj_heap_other (by have h2 := HD.out.2; omega)).trans hs
                have r3 := hs2.cell
                refine ⟨by simp, .inl ⟨_, _, rfl, run_takeDeferred hD1, ?_⟩⟩
                refine ⟨.bool true, by simp [results, r3, go_sem], rfl, Below.trans (show Below w.heap.size w _ from hxs) (belowK_b (w := w) (Nat.le_refl _) _ D _ _ (by have h2 := HD.out.2; omega) hD1 rfl rfl)⟩
              · have h6I : ¬ ((clsG r : Nat) : Int) = 6 := by omega
                have h6J : (((clsG r : Nat) : Int) == 6) = false := by simp; omega
                have HJ2 := Lib.hid (show ∀ j (h : j < (mk s).length), j < i + 1 → clsG (mk s)[j].1 ≠ 6 from fun j h hj => by
                  by_cases e : j = i
                  · subst e; rw [HRR.out]; exact h6
                  · exact HJ.out j h (by omega))
                generalize clsG r = cc at h6I h6J ⊢
                clear h6
                go_wp2_with fail
                exact ⟨⟨i + 1, by simp, by omega, HJ2, HXR9⟩, by simp only [intOf]; omega⟩
            · have hI : ¬ ((i : Nat) : Int) < ((mk s).length : Nat) := by omega
              have hd : decide (i < (mk s).length) = false := decide_eq_false hil
              have HPE := Lib.hid (HPT.out (fun r hr => by
                unfold runesOf at hr
                obtain ⟨m, hm, rfl⟩ := List.mem_map.1 hr
                have hm2 : m ∈ mk s := by unfold mk; rw [len_eq] at hm; exact hm
                obtain ⟨j, hj, rfl⟩ := List.getElem_of_mem hm2
                exact HJ.out j hj (by omega)))
              have g0 := Ext.cell (HX8.out.trans HXR.out) k0
              have g1 := Ext.cell (HX8.out.trans HXR.out) k1
              have g2 := Ext.cell (HX8.out.trans HXR.out) k2
              have g3 := Ext.cell (HX8.out.trans HXR.out) k3
              have s0 : ∀ w', EOn (fun _ => True) wr w' → w'.cell? ⟨ob, 0, none⟩ = some (.int .i64 (A : Nat)) := fun w' h => h.cell trivial g0
              have s1 : ∀ w', EOn (fun _ => True) wr w' → w'.cell? ⟨ob, 1, none⟩ = some (.int .i64 (T : Nat)) := fun w' h => h.cell trivial g1
              have s2 : ∀ w', EOn (fun _ => True) wr w' → w'.cell? ⟨ob, 2, none⟩ = some (.int .i64 (S : Nat)) := fun w' h => h.cell trivial g2
              have s3 : ∀ w', EOn (fun _ => True) wr w' → w'.cell? ⟨pb, 0, none⟩ = some (.string P) := fun w' h => h.cell trivial g3
              clear g0 g1 g2 g3
              go_wp2_with fail
              refine wp_perm (fun _ => True) [0, 1, 3, 4, 2, 5, 6, 7, 8, 9, 10] [true, true, true, true, false, false, true, true, false, true] (by kernel_rfl) (by kernel_rfl) (by simp only [List.map_cons, List.map_nil, nth]; rfl) ?_
              repeat first
                | refine wpG_move' ?_
                | refine wpG_assign' ?_
                | refine wpG_val' ?_
                | refine wpG_no' ?_
              clear s0 s1 s2 s3
              have HXR0 := Lib.hid (show Ext w wr from HXW.out.trans (HX8.out.trans HXR.out))
              refine wpG_do (by rfl) (fun wa hxa K hK => ?_)
              go_wp2_with fail
              refine (c_wText A T S P wa ho (HT.out.ext (HXR0.out.trans hxa)) hpz).mono ?_
              rintro e wb ⟨rfl, hxb⟩
              rw [HPE.out]
              have HXB := Lib.hid (hxa.trans hxb)
              refine hK _ _ ⟨EOn.of_ext hxb, ?_⟩
              clear hK hxa hxb
              refine wpG_do (by rfl) (fun wa hxa K hK => ?_)
              go_wp2_with fail
              refine (c_wText A T S s wa ho (HT.out.ext (HXR0.out.trans (HXB.out.trans hxa))) (by have := HZ.out; omega)).mono ?_
              rintro e wc ⟨rfl, hxc⟩
              generalize txtK A T S s = ty
              have HXC := Lib.hid (HXB.out.trans (hxa.trans hxc))
              refine hK _ _ ⟨EOn.of_ext hxc, ?_⟩
              clear hK hxa hxc
              repeat first
                | refine wpG_move' ?_
                | refine wpG_assign' ?_
                | refine wpG_val' ?_
                | refine wpG_no' ?_
              refine wpG_do (by rfl) (fun wa hxa K hK => ?_)
              go_wp2_with fail
              refine (c_live wa (HT.out.ext (HXR0.out.trans (HXC.out.trans hxa)))).mono ?_
              rintro e wd ⟨rfl, hxd⟩
              have HXD := Lib.hid (HXC.out.trans (hxa.trans hxd))
              refine hK _ _ ⟨EOn.of_ext hxd, ?_⟩
              clear hK hxa hxd
              repeat first
                | refine wpG_move' ?_
                | refine wpG_assign' ?_
                | refine wpG_val' ?_
                | refine wpG_no' ?_
              refine wpG_end (fun we hxe => ?_)
              have HXF := Lib.hid (Ext.trans HX8.out (HXR.out.trans (HXD.out.trans hxe)))
              clear hxe
              have HR9 := Lib.hid (HRW.out.ext HXF.out)
              have hr1 := HR9.out.cell
              have hr2 := HR9.out.frozen
              go_wp2_with fail
              (refine gQ_normal ?_; go_wp2_with fail)
              have hs := HR9.out.set (.bool true)
              have hgr := grown_cell we (ob + 1) 0 (.bool true)
              have hDlt : D < W.heap.size := (Array.getElem?_eq_some_iff.1 HD.out.1).1
              have hob1 : ob + 1 < wE.heap.size := blk_lt (HR6.out.ext HXE.out)
              have hD1 : (we.setCell ⟨ob + 1, 0, none⟩ (.bool true)).heap[D]? = some (.deferred (some [])) := (hgr.block D (Nat.lt_of_lt_of_le hDlt HXF.out.sz) (fun e => by have h1 := Option.some.inj e; have h2 := HD.out.2; omega)).trans ((HXF.out.block D hDlt).trans HD.out.1)
              have hwE : w.heap.size ≤ wE.heap.size := (HX6.out.trans HXE.out).sz
              have hxs : Ext w (we.setCell ⟨ob + 1, 0, none⟩ (.bool true)) := Ext.setCell (HXW.out.trans HXF.out) (show w.heap.size ≤ ob + 1 by have := HOB.out; omega) _
              have hs2 : Boxed ((we.setCell ⟨ob + 1, 0, none⟩ (.bool true)).putObj D (.deferred none)) (ob + 1) 4 (.bool true) := (World.putObj_heap_other (by have h2 := HD.out.2; omega)).trans hs
              have r3 := hs2.cell
              refine ⟨by simp, .inl ⟨_, _, rfl, run_takeDeferred hD1, ?_⟩⟩
              refine ⟨.bool true, by simp [results, r3, go_sem], rfl, Below.trans (show Below w.heap.size w _ from hxs) (belowK_b (w := w) (Nat.le_refl _) _ D _ _ (by have h2 := HD.out.2; omega) hD1 rfl rfl)⟩
    · go_enter Tryz.func7, Tryz.ntmps7
      go_wp2_with fail
      have hbo := (Below.heap_alloc (w.alloc (.cells #[.int .i64 a, .int .i64 t, .int .i64 st] 23)) (.cells #[.bool false] 4) w.heap.size (by simp)).trans (World.alloc_heap_new w (.cells #[.int .i64 a, .int .i64 t, .int .i64 st] 23))
      have hrb := Boxed.new (w.alloc (.cells #[.int .i64 a, .int .i64 t, .int .i64 st] 23)) 4 (.bool false)
      rw [World.size_alloc] at hrb
      have HX := Lib.hid (((Ext.refl w).alloc (.cells #[.int .i64 a, .int .i64 t, .int .i64 st] 23)).alloc (.cells #[.bool false] 4))
      generalize (w.alloc (.cells #[.int .i64 a, .int .i64 t, .int .i64 st] 23)).alloc (.cells #[.bool false] 4) = w1 at hbo hrb HX ⊢
      generalize hob : w.heap.size = ob at hbo hrb ⊢
      have HOB := Lib.hid (show w.heap.size ≤ ob from Nat.le_of_eq hob)
      clear hob
      have HR := Lib.hid hrb
      clear hrb
      refine (c_wCheck a t st w1).mono ?_
      rintro e w2 ⟨rfl, hx⟩
      rw [if_neg ho]
      have HXL := Lib.hid (Ext.trans HX.out hx)
      have HRL := Lib.hid (HR.out.ext hx)
      clear hx ho
      go_wp2_with fail
      refine (c_num 2 w2).mono ?_
      rintro e w3 ⟨rfl, rfl⟩
      go_wp2_with fail
      refine (c_live w3 (HT.out.ext HXL.out)).mono ?_
      rintro e W9 ⟨rfl, hx9⟩
      have HX9 := Lib.hid (Ext.trans HXL.out hx9)
      have HR9 := Lib.hid (HRL.out.ext hx9)
      have r1 := HR9.out.cell
      have r2 := HR9.out.frozen
      clear hx9
      go_wp2_with fail
      have hs := HR9.out.set (.bool true)
      have hxs : Ext w (W9.setCell ⟨ob + 1, 0, none⟩ (.bool true)) := Ext.setCell HX9.out (show w.heap.size ≤ ob + 1 by have := HOB.out; omega) _
      have r3 := hs.cell
      exact bodyPost_ret (v := .bool true) (by simp [results, r3, go_sem]) rfl ⟨rfl, hxs⟩
end Go.Proofs.YtafmhmcinhbpfaaGreatDoor
