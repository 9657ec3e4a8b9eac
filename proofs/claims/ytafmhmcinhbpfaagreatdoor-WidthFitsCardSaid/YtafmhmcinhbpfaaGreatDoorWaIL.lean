/-
  A text shortened. What the law's own check of life computes. The law's own check of life.
-/
import Derived.Test.YtafmhmcinhbpfaaGreatDoorWaFH
section
namespace Go.Proofs.YtafmhmcinhbpfaaGreatDoor
open Go.RowKit Go.Rp Go.Maps Go.Cl Go.Shelf Go.Gr

/-- Where the tail would stand: the byte, the column. -/
def atK (st : Nat) (L : List Plc) (i : Nat) : Nat × Nat := match i with
  | 0 => (0, st)
  | i + 1 => match L[i]? with
    | some p => (p.t, p.b)
    | none => (0, st)
noncomputable def shGo (a t st : Nat) (s tail cut : ByteArray) (cells : Int) (L : List Plc) : Nat → ByteArray
  | 0 => if (fitK a t (atK st L 0).2 tail cells).length = (bdG tail).length - 1 then s.extract 0 (atK st L 0).1 ++ tail else cut
  | i + 1 => if (fitK a t (atK st L (i + 1)).2 tail cells).length = (bdG tail).length - 1 then s.extract 0 (atK st L (i + 1)).1 ++ tail else shGo a t st s tail cut cells L i
noncomputable def shortK (a t st : Nat) (s : ByteArray) (cells : Int) (tail : ByteArray) : ByteArray :=
  if (cutK a t st s cells).1 = s ∨ cells < (st : Nat) then (cutK a t st s cells).1 else shGo a t st s tail (cutK a t st s cells).1 cells (fitK a t st s cells) (fitK a t st s cells).length
noncomputable def shX (a t st : Nat) (s tail cut : ByteArray) (cells : Int) (L : List Plc) : Nat → ByteArray
  | 0 => cut
  | j + 1 => shGo a t st s tail cut cells L j
theorem shX_succ (a t st : Nat) (s tail cut : ByteArray) (cells : Int) (L : List Plc) (j : Nat) : shX a t st s tail cut cells L (j + 1) = if (fitK a t (atK st L j).2 tail cells).length = (bdG tail).length - 1 then s.extract 0 (atK st L j).1 ++ tail else shX a t st s tail cut cells L j := by
  cases j with
  | zero => simp only [shX, shGo]
  | succ j => simp only [shX, shGo]
theorem plcs_col0 (a t st : Nat) (s : ByteArray) (ho : CellOk a t st) (hz : s.size ≤ 65536) (i : Nat) (h : i < (plcs a t st s).length) : (plcs a t st s)[i].b ≤ 1080000000 := by
  obtain ⟨h1, h2, h3, h4, h5⟩ := ho.nat
  have hl := plcs_len a t st s
  have hl2 := plcs_le a t st s
  have := plcS_get a t s (pairsOf (bdG s)) st i (by omega) h
  have h6 : (plcs a t st s)[i] = _ := this
  rw [h6]
  simp only
  have := colS_le a t s h2 ((pairsOf (bdG s)).take (i + 1)) st
  have h7 : ((pairsOf (bdG s)).take (i + 1)).length ≤ (pairsOf (bdG s)).length := by rw [List.length_take]; omega
  have h8 : (t + 2) * ((pairsOf (bdG s)).take (i + 1)).length ≤ 66 * ((pairsOf (bdG s)).take (i + 1)).length := Nat.mul_le_mul_right _ (by omega)
  omega
set_option maxRecDepth 100000 in
set_option maxHeartbeats 4000000 in
theorem c_wShort (a t st : Nat) (s : ByteArray) (cells : Int) (tail : ByteArray) (w : World) (ho : CellOk a t st) (hT : TabsW w) (hz : s.size ≤ 65536) (hz2 : tail.size ≤ 65536) :
    Calls Tryz.prog 28 #[.string s, .int .i64 cells, .string tail, .agg #[.int .i64 (a : Nat), .int .i64 (t : Nat), .int .i64 (st : Nat)]] w fun e w' => e = .returned (.string (shortK a t st s cells tail)) ∧ Ext w w' := by
  obtain ⟨h1, h2, h3, h4, h5⟩ := ho.nat
  have HT := Lib.hid hT
  have hpl := fitK_len a t st s cells
  obtain ⟨F, hF⟩ : ∃ F, shortK a t st s cells tail = F := ⟨_, rfl⟩
  have HF := Lib.hid hF
  rw [hF]
  clear hF
  go_enter Tryz.func28, Tryz.ntmps28
  go_wp2_with fail
  have hbo := World.alloc_heap_new w (.cells #[.int .i64 (a : Nat), .int .i64 (t : Nat), .int .i64 (st : Nat)] 23)
  have hxo := (Ext.refl w).alloc (.cells #[.int .i64 (a : Nat), .int .i64 (t : Nat), .int .i64 (st : Nat)] 23)
  generalize w.alloc (.cells #[.int .i64 (a : Nat), .int .i64 (t : Nat), .int .i64 (st : Nat)] 23) = wo at hbo hxo ⊢
  generalize w.heap.size = ob at hbo ⊢
  refine (c_wCheck (a : Nat) (t : Nat) (st : Nat) _).mono ?_
  rintro e w1 ⟨rfl, hx1⟩
  rw [if_pos ho]
  have HBO := Lib.hid (hx1.blk hbo)
  have HX1 := Lib.hid (hxo.trans hx1)
  have o0 := (cell_blk HBO.out 0).trans rfl
  have o1 : w1.cell? ⟨ob, 1, none⟩ = some (.int .i64 (t : Nat)) := (cell_blk HBO.out 1).trans rfl
  have o2 : w1.cell? ⟨ob, 2, none⟩ = some (.int .i64 (st : Nat)) := (cell_blk HBO.out 2).trans rfl
  clear hbo hxo hx1
  go_wp2_with fail
  refine (c_wCut a t st s cells w1 ho (HT.out.ext HX1.out) hz).mono ?_
  rintro e w2 ⟨rfl, hx2⟩
  have p0 : w2.cell? ⟨ob, 0, none⟩ = some (.int .i64 (a : Nat)) := hx2.cell o0
  have p1 := hx2.cell o1
  have p2 := hx2.cell o2
  have HX2 := Lib.hid (HX1.out.trans hx2)
  obtain ⟨cut, hcut⟩ : ∃ c, (cutK a t st s cells).1 = c := ⟨_, rfl⟩
  have HCUT := Lib.hid hcut
  rw [hcut]
  generalize (cutK a t st s cells).2 = cn
  clear hx2 hcut o0 o1 o2
  by_cases hcs : cut = s
  · have HV := Lib.hid (show F = cut by rw [← HF.out]; unfold shortK; rw [HCUT.out, if_pos (.inl hcs)])
    have heq : (cut.toList == s.toList) = true := by rw [hcs]; simp
    clear hcs
    go_wp2_with fail
    exact ret_one rfl rfl rfl ⟨by rw [HV.out]; rfl, HX2.out⟩
  · have heq : (cut.toList == s.toList) = false := beq_eq_false_iff_ne.2 (fun h => hcs (by
      rw [ByteArray.toList_eq, ByteArray.toList_eq] at h
      exact ByteArray.ext (Array.toList_inj.1 h)))
    by_cases hlt : cells < (st : Nat)
    · have HV := Lib.hid (show F = cut by rw [← HF.out]; unfold shortK; rw [HCUT.out, if_pos (.inr hlt)])
      clear hcs
      go_wp2_with fail
      exact ret_one rfl rfl rfl ⟨by rw [HV.out]; rfl, HX2.out⟩
    · have HV := Lib.hid (show shGo a t st s tail cut cells (fitK a t st s cells) (fitK a t st s cells).length = F by
        rw [← HF.out]
        unfold shortK
        rw [HCUT.out, if_neg (fun h => h.elim hcs hlt)])
      clear hcs
      go_wp2_with fail
      refine (c_wopen (a : Nat) (t : Nat) (st : Nat) w2 (HT.out.ext HX2.out)).mono ?_
      rintro e w3 ⟨bk, rfl, hbk, hx3⟩
      have HBK := Lib.hid hbk
      have HX3 := Lib.hid (HX2.out.trans hx3)
      have q2 := hx3.cell p2
      clear hbk hx3 p0 p1 p2
      have HP := Lib.hid (c_wfitting bk a t st s cells w3 HBK.out ho.book (HT.out.ext HX3.out) hz)
      have HOK := Lib.hid (show ∀ i (h : i < (fitK a t st s cells).length), (fitK a t st s cells)[i].t ≤ s.size ∧ (fitK a t st s cells)[i].b ≤ 1080000000 from fun i h => by
        obtain ⟨h6, e⟩ := fitK_get a t st s cells i h
        rw [e]
        exact ⟨(plcs_ok a t st s i h6).2, plcs_col0 a t st s ho hz i h6⟩)
      generalize fitK a t st s cells = P at hpl HOK HV HP
      have hPI : ((P.length : Nat) : Int) ≤ 65537 := by omega
      go_wp2_with fail
      refine HP.out.mono ?_
      rintro e w4 ⟨v, rfl, hrow, hx⟩
      have HR := Lib.hid hrow
      have HX4 := Lib.hid (HX3.out.trans hx)
      have r2 := hx.cell q2
      obtain ⟨p, cap, rfl, hcap, _⟩ := hrow
      have HBK4 := Lib.hid (HBK.out.ext hx)
      clear hx q2
      go_wp2_with fail
      go_loopw [13, 14, 15, 16, 17] (fun iv _ _ _ _ W => ∃ k : Nat, iv = .int .i64 ((k : Nat) - 1) ∧ k ≤ P.length + 1 ∧ Hid (shX a t st s tail cut cells P k = F) ∧ Hid (Ext w4 W)) (fun iv _ _ _ _ _ => (intOf iv + 1).toNat)
      case atStart => exact ⟨P.length + 1, congrArg _ (by omega), Nat.le_refl _, HV, Lib.hid (Ext.refl _)⟩
      case round =>
        obtain ⟨k, rfl, hk, HS, HXW⟩ := hrel
        obtain ⟨W, rfl⟩ : ∃ W, W = wr := ⟨_, rfl⟩
        cases k with
        | zero =>
          have HV0 := Lib.hid (show F = cut from HS.out.symm)
          rw [show (((0 : Nat) : Int) - 1) = -1 from rfl]
          go_wp2_with fail
          exact ret_one rfl rfl rfl ⟨by rw [HV0.out]; rfl, HX4.out.trans HXW.out⟩
        | succ j =>
          rw [show (((j + 1 : Nat) : Int) - 1) = (j : Nat) by omega]
          have HS2 := Lib.hid ((shX_succ a t st s tail cut cells P j).symm.trans HS.out)
          have hjI : (0 : Int) ≤ (j : Nat) := by omega
          have hjI2 : ((j : Nat) : Int) ≤ 65537 := by omega
          have s2 : ∀ w', EOn (fun _ => True) W w' → w'.cell? ⟨ob, 2, none⟩ = some (.int .i64 (st : Nat)) := fun w' h => h.cell trivial (HXW.out.cell r2)
          go_wp2_with fail
          refine wp_lex (fun _ => True) [true, true, true, true] (by kernel_rfl) (by kernel_rfl) ?_
          repeat first
            | refine wpG_move' ?_
            | refine wpG_assign' ?_
            | refine wpG_val' ?_
            | refine wpG_no' ?_
          refine wpG_end (fun wa hxa => ?_)
          have HXA := Lib.hid (HXW.out.trans hxa)
          clear hxa s2
          go_wp2_with fail
          refine gQ_normal ?_
          cases j with
          | zero =>
            have HAT := Lib.hid (show atK st P 0 = (0, st) from rfl)
            have HBO := Lib.hid (show BookOk a t st from ho.book)
            have HXC := HXA
            obtain ⟨WC, rfl⟩ : ∃ WC, WC = wa := ⟨_, rfl⟩
            rw [show (((0 : Nat) : Int)) = 0 from rfl]
            obtain ⟨dw, dg, hbb, hdw, hdg⟩ := HBK4.out.ext HXC.out
            have c0 : WC.cell? ⟨bk, 0, none⟩ = some (.int .i64 (a : Nat)) := (cell_blk hbb 0).trans rfl
            have c1 : WC.cell? ⟨bk, 1, none⟩ = some (.int .i64 (t : Nat)) := (cell_blk hbb 1).trans rfl
            have c2 : WC.cell? ⟨bk, 2, none⟩ = some (.int .i64 (st : Nat)) := (cell_blk hbb 2).trans rfl
            have c3 : WC.cell? ⟨bk, 3, none⟩ = some (.pointer (some ⟨dw, 0, none⟩)) := (cell_blk hbb 3).trans rfl
            have c4 : WC.cell? ⟨bk, 4, none⟩ = some (.pointer (some ⟨dg, 0, none⟩)) := (cell_blk hbb 4).trans rfl
            have c5 : WC.cell? ⟨bk, 5, none⟩ = some (.int .i64 1) := (cell_blk hbb 5).trans rfl
            have c6 : WC.cell? ⟨bk, 6, none⟩ = some (.int .i64 3) := (cell_blk hbb 6).trans rfl
            have c7 : WC.cell? ⟨bk, 7, none⟩ = some (.int .i64 4) := (cell_blk hbb 7).trans rfl
            have c8 : WC.cell? ⟨bk, 8, none⟩ = some (.int .i64 12) := (cell_blk hbb 8).trans rfl
            have c9 : WC.cell? ⟨bk, 9, none⟩ = some (.int .i64 13) := (cell_blk hbb 9).trans rfl
            have HDW := Lib.hid hdw
            have HDG := Lib.hid hdg
            clear hbb hdw hdg
            go_wp2_with fail
            have hal := World.alloc_heap_new WC (.cells #[.int .i64 (a : Nat), .int .i64 (t : Nat), .int .i64 (st : Nat), .pointer (some ⟨dw, 0, none⟩), .pointer (some ⟨dg, 0, none⟩), .int .i64 1, .int .i64 3, .int .i64 4, .int .i64 12, .int .i64 13] 84)
            have hxa2 := (Ext.refl WC).alloc (.cells #[.int .i64 (a : Nat), .int .i64 (t : Nat), .int .i64 (st : Nat), .pointer (some ⟨dw, 0, none⟩), .pointer (some ⟨dg, 0, none⟩), .int .i64 1, .int .i64 3, .int .i64 4, .int .i64 12, .int .i64 13] 84)
            generalize WC.alloc (.cells #[.int .i64 (a : Nat), .int .i64 (t : Nat), .int .i64 (st : Nat), .pointer (some ⟨dw, 0, none⟩), .pointer (some ⟨dg, 0, none⟩), .int .i64 1, .int .i64 3, .int .i64 4, .int .i64 12, .int .i64 13] 84) = W5 at hal hxa2 ⊢
            generalize WC.heap.size = tb at hal ⊢
            have hbk5 : BookIs W5 tb a t st := ⟨dw, dg, hal, HDW.out.ext hxa2, HDG.out.ext hxa2⟩
            have hx5 : Ext w4 W5 := Ext.trans HXC.out hxa2
            clear hal hxa2 c0 c1 c2 c3 c4 c5 c6 c7 c8 c9
            refine (c_wfitting tb a t st tail cells W5 hbk5 HBO.out (HT.out.ext (HX4.out.trans hx5)) hz2).mono ?_
            rintro e W6 ⟨v, rfl, hrow, hx6⟩
            obtain ⟨pf, cf, rfl, _, _⟩ := hrow
            obtain ⟨n1, hn1⟩ : ∃ n, (fitK a t st tail cells).length = n := ⟨_, rfl⟩
            have hn1I : n1 ≤ 65537 := by rw [← hn1]; have := fitK_len a t st tail cells; omega
            have HN1 := Lib.hid hn1
            rw [hn1]
            have HX6 := Lib.hid (hx5.trans hx6)
            clear hbk5 hx5 hx6 hn1
            go_wp2_with fail
            refine (c_gCount tail W6 (HT.out.ext (HX4.out.trans HX6.out)) hz2).mono ?_
            rintro e W7 ⟨rfl, hx7⟩
            obtain ⟨n2, hn2⟩ : ∃ n, (bdG tail).length - 1 = n := ⟨_, rfl⟩
            have HN2 := Lib.hid hn2
            rw [hn2]
            have HX7 := Lib.hid (HX6.out.trans hx7)
            clear hx7 hn2
            by_cases hnn : n1 = n2
            · have HV1 := Lib.hid (show F = tail by
                rw [← HS2.out, HAT.out]
                simp only
                rw [if_pos (by rw [HN1.out, HN2.out]; exact hnn)]
                simp)
              have hni : (((n1 : Nat) : Int) == (n2 : Nat)) = true := by simp; omega
              clear hnn
              go_wp2_with fail
              exact ret_one rfl rfl rfl ⟨by rw [HV1.out]; rfl, HX4.out.trans HX7.out⟩
            · have HV1 := Lib.hid (show shX a t st s tail cut cells P 0 = F by
                rw [← HS2.out, HAT.out]
                simp only
                rw [if_neg (by rw [HN1.out, HN2.out]; exact hnn)])
              have hni : (((n1 : Nat) : Int) == (n2 : Nat)) = false := by simp; omega
              clear hnn
              go_wp2_with fail
              exact ⟨⟨0, congrArg _ (by omega), by omega, HV1, HX7⟩, by simp only [intOf]; omega⟩
          | succ m =>
            have hm : m < P.length := by omega
            obtain ⟨p', cap', e', _, hcc⟩ := HR.out.ext HXA.out
            obtain ⟨rfl, -, rfl⟩ := Value.slice.inj e'
            obtain ⟨g, rfl, h6⟩ := hcc (by intro e; subst e; simp at hm)
            obtain ⟨d0, d1, d2, d3⟩ := h6 m hm
            have HO := Lib.hid (HOK.out m hm)
            have HAT := Lib.hid (show atK st P (m + 1) = ((P[m]).t, (P[m]).b) by
              unfold atK
              simp [hm])
            obtain ⟨x, hx⟩ : ∃ x, P[m] = x := ⟨_, rfl⟩
            rw [hx] at d0 d1 d2 d3 HO HAT
            obtain ⟨xf, xt, xa, xb⟩ := x
            simp only at d0 d1 d2 d3 HO HAT
            have HBO := Lib.hid (show BookOk a t xb from ⟨h1, h2, h3, h4, HO.out.2⟩)
            have hxt : ((xt : Nat) : Int) ≤ (s.size : Nat) := by have := HO.out.1; omega
            have hxtn : xt ≤ s.size := HO.out.1
            have hzI : ((s.size : Nat) : Int) ≤ 65536 := by omega
            have hmI : ((m : Nat) : Int) < (P.length : Nat) := by omega
            have hmI2 : ((m : Nat) : Int) ≤ 65537 := by omega
            have t1 : ∀ w', EOn (fun _ => True) wa w' → w'.cell? ⟨g, m * 4 + 1, none⟩ = some (.int .i64 (xt : Nat)) := fun w' h => h.cell trivial d1
            have t3 : ∀ w', EOn (fun _ => True) wa w' → w'.cell? ⟨g, m * 4 + 3, none⟩ = some (.int .i64 (xb : Nat)) := fun w' h => h.cell trivial d3
            clear h6 hcc e' hx d0 d1 d2 d3
            go_wp2_with fail
            refine wp_lex (fun _ => True) [true, true, true, true, true, true, true, true, true, true, true, true, true, true] (by kernel_rfl) (by kernel_rfl) ?_
            repeat first
              | refine wpG_move' ?_
              | refine wpG_assign' ?_
              | refine wpG_val' ?_
              | refine wpG_no' ?_
            refine wpG_end (fun WC hxc => ?_)
            have HXC := Lib.hid (HXA.out.trans hxc)
            clear hxc t1 t3
            go_wp2_with fail
            refine gQ_normal ?_
            obtain ⟨dw, dg, hbb, hdw, hdg⟩ := HBK4.out.ext HXC.out
            have c0 : WC.cell? ⟨bk, 0, none⟩ = some (.int .i64 (a : Nat)) := (cell_blk hbb 0).trans rfl
            have c1 : WC.cell? ⟨bk, 1, none⟩ = some (.int .i64 (t : Nat)) := (cell_blk hbb 1).trans rfl
            have c2 : WC.cell? ⟨bk, 2, none⟩ = some (.int .i64 (st : Nat)) := (cell_blk hbb 2).trans rfl
            have c3 : WC.cell? ⟨bk, 3, none⟩ = some (.pointer (some ⟨dw, 0, none⟩)) := (cell_blk hbb 3).trans rfl
            have c4 : WC.cell? ⟨bk, 4, none⟩ = some (.pointer (some ⟨dg, 0, none⟩)) := (cell_blk hbb 4).trans rfl
            have c5 : WC.cell? ⟨bk, 5, none⟩ = some (.int .i64 1) := (cell_blk hbb 5).trans rfl
            have c6 : WC.cell? ⟨bk, 6, none⟩ = some (.int .i64 3) := (cell_blk hbb 6).trans rfl
            have c7 : WC.cell? ⟨bk, 7, none⟩ = some (.int .i64 4) := (cell_blk hbb 7).trans rfl
            have c8 : WC.cell? ⟨bk, 8, none⟩ = some (.int .i64 12) := (cell_blk hbb 8).trans rfl
            have c9 : WC.cell? ⟨bk, 9, none⟩ = some (.int .i64 13) := (cell_blk hbb 9).trans rfl
            have HDW := Lib.hid hdw
            have HDG := Lib.hid hdg
            clear hbb hdw hdg
            go_wp2_with fail
            have hal := World.alloc_heap_new WC (.cells #[.int .i64 (a : Nat), .int .i64 (t : Nat), .int .i64 (xb : Nat), .pointer (some ⟨dw, 0, none⟩), .pointer (some ⟨dg, 0, none⟩), .int .i64 1, .int .i64 3, .int .i64 4, .int .i64 12, .int .i64 13] 84)
            have hxa2 := (Ext.refl WC).alloc (.cells #[.int .i64 (a : Nat), .int .i64 (t : Nat), .int .i64 (xb : Nat), .pointer (some ⟨dw, 0, none⟩), .pointer (some ⟨dg, 0, none⟩), .int .i64 1, .int .i64 3, .int .i64 4, .int .i64 12, .int .i64 13] 84)
            generalize WC.alloc (.cells #[.int .i64 (a : Nat), .int .i64 (t : Nat), .int .i64 (xb : Nat), .pointer (some ⟨dw, 0, none⟩), .pointer (some ⟨dg, 0, none⟩), .int .i64 1, .int .i64 3, .int .i64 4, .int .i64 12, .int .i64 13] 84) = W5 at hal hxa2 ⊢
            generalize WC.heap.size = tb at hal ⊢
            have hbk5 : BookIs W5 tb a t xb := ⟨dw, dg, hal, HDW.out.ext hxa2, HDG.out.ext hxa2⟩
            have hx5 : Ext w4 W5 := Ext.trans HXC.out hxa2
            clear hal hxa2 c0 c1 c2 c3 c4 c5 c6 c7 c8 c9
            refine (c_wfitting tb a t xb tail cells W5 hbk5 HBO.out (HT.out.ext (HX4.out.trans hx5)) hz2).mono ?_
            rintro e W6 ⟨v, rfl, hrow, hx6⟩
            obtain ⟨pf, cf, rfl, _, _⟩ := hrow
            obtain ⟨n1, hn1⟩ : ∃ n, (fitK a t xb tail cells).length = n := ⟨_, rfl⟩
            have hn1I : n1 ≤ 65537 := by rw [← hn1]; have := fitK_len a t xb tail cells; omega
            have HN1 := Lib.hid hn1
            rw [hn1]
            have HX6 := Lib.hid (hx5.trans hx6)
            clear hbk5 hx5 hx6 hn1
            go_wp2_with fail
            refine (c_gCount tail W6 (HT.out.ext (HX4.out.trans HX6.out)) hz2).mono ?_
            rintro e W7 ⟨rfl, hx7⟩
            obtain ⟨n2, hn2⟩ : ∃ n, (bdG tail).length - 1 = n := ⟨_, rfl⟩
            have HN2 := Lib.hid hn2
            rw [hn2]
            have HX7 := Lib.hid (HX6.out.trans hx7)
            clear hx7 hn2
            by_cases hnn : n1 = n2
            · have HV1 := Lib.hid (show F = s.extract 0 xt ++ tail by
                rw [← HS2.out, HAT.out]
                simp only
                rw [if_pos (by rw [HN1.out, HN2.out]; exact hnn)]
                skip)
              have hni : (((n1 : Nat) : Int) == (n2 : Nat)) = true := by simp; omega
              clear hnn
              go_wp2_with fail
              exact ret_one rfl rfl rfl ⟨by rw [HV1.out]; rfl, HX4.out.trans HX7.out⟩
            · have HV1 := Lib.hid (show shX a t st s tail cut cells P (m + 1) = F by
                rw [← HS2.out, HAT.out]
                simp only
                rw [if_neg (by rw [HN1.out, HN2.out]; exact hnn)])
              have hni : (((n1 : Nat) : Int) == (n2 : Nat)) = false := by simp; omega
              clear hnn
              go_wp2_with fail
              exact ⟨⟨(m + 1), congrArg _ (by omega), by omega, HV1, HX7⟩, by simp only [intOf]; omega⟩
end Go.Proofs.YtafmhmcinhbpfaaGreatDoor
end

section
namespace Go.Proofs.YtafmhmcinhbpfaaGreatDoor
open Go.RowKit Go.Rp Go.Maps Go.Cl Go.Shelf Go.Gr

theorem ev_t1 : txtK 1 8 0 ⟨#[97, 228, 184, 128]⟩ = 3 := by kernel_rfl
theorem ev_t2 : txtK 1 8 0 ⟨#[97, 9, 98]⟩ = 9 := by kernel_rfl
theorem ev_c : cutK 1 8 0 ⟨#[97, 228, 184, 128, 98]⟩ 2 = (⟨#[97]⟩, 1) := by kernel_rfl
theorem ev_h : hitK 1 8 0 ⟨#[97, 228, 184, 128, 98]⟩ 2 = 1 := by kernel_rfl
theorem ev_s : shortK 1 8 0 ⟨#[97, 98, 99, 100, 101, 102]⟩ 4 ⟨#[46, 46]⟩ = ⟨#[97, 98, 46, 46]⟩ := by kernel_rfl
end Go.Proofs.YtafmhmcinhbpfaaGreatDoor
end

section
namespace Go.Proofs.YtafmhmcinhbpfaaGreatDoor
open Go.RowKit Go.Rp Go.Maps Go.Cl Go.Shelf Go.Gr

theorem ho180i : CellOk (1 : Int) (8 : Int) (0 : Int) := by unfold CellOk; decide
theorem ho180 : CellOk (1 : Nat) (8 : Nat) (0 : Nat) := by unfold CellOk; decide
theorem c_home (w : World) : Calls Tryz.prog 39 #[] w fun e w' => e = .returned (.agg #[.int .i64 1, .int .i64 8, .int .i64 0]) ∧ Ext w w' := by
  go_enter Tryz.func39, Tryz.ntmps39
  go_wp2_with fail
  have hb := World.alloc_heap_new w (.cells #[.int .i64 1, .int .i64 8, .int .i64 0] 23)
  have hx := (Ext.refl w).alloc (.cells #[.int .i64 1, .int .i64 8, .int .i64 0] 23)
  generalize w.alloc (.cells #[.int .i64 1, .int .i64 8, .int .i64 0] 23) = w1 at hb hx ⊢
  generalize w.heap.size = ob at hb ⊢
  have k0 : w1.cell? ⟨ob, 0, none⟩ = some (.int .i64 1) := (cell_blk hb 0).trans rfl
  have k1 : w1.cell? ⟨ob, 1, none⟩ = some (.int .i64 8) := (cell_blk hb 1).trans rfl
  have k2 : w1.cell? ⟨ob, 2, none⟩ = some (.int .i64 0) := (cell_blk hb 2).trans rfl
  exact bodyPost_ret (v := .agg #[.int .i64 1, .int .i64 8, .int .i64 0]) (by simp [results, k0, k1, k2, go_sem]) rfl ⟨rfl, hx⟩
theorem c_num (x : Int) (w : World) : Calls Tryz.prog 18 #[.int .i64 x] w fun e w' => e = .returned (.int .i64 x) ∧ w' = w := by
  go_enter Tryz.func18, Tryz.ntmps18
  go_wp2_with fail
  exact ret_one rfl rfl rfl ⟨rfl, rfl⟩
set_option maxRecDepth 100000 in
set_option maxHeartbeats 4000000 in
theorem c_live (w : World) (hT : TabsW w) : Calls Tryz.prog 8 #[] w fun e w' => e = .returned (.bool true) ∧ Ext w w' := by
  have HT := Lib.hid hT
  have HX := Lib.hid (Ext.refl w)
  go_enter Tryz.func8, Tryz.ntmps8
  go_wp2_with fail
  refine (c_home w).mono ?_
  rintro e w1 ⟨rfl, hx⟩
  have HX := Lib.hid (Ext.trans HX.out hx)
  clear hx
  go_wp2_with fail
  refine (c_wCut 1 8 0 ⟨#[97, 228, 184, 128, 98]⟩ 2 w1 ho180 (HT.out.ext HX.out) (by decide)).mono ?_
  rintro e w2 ⟨rfl, hx⟩
  rw [ev_c]
  have HX := Lib.hid (Ext.trans HX.out hx)
  clear hx
  go_wp2_with fail
  refine (c_home w2).mono ?_
  rintro e w3 ⟨rfl, hx⟩
  have HX := Lib.hid (Ext.trans HX.out hx)
  clear hx
  go_wp2_with fail
  refine (c_wText 1 8 0 ⟨#[97, 228, 184, 128]⟩ w3 ho180 (HT.out.ext HX.out) (by decide)).mono ?_
  rintro e w4 ⟨rfl, hx⟩
  rw [ev_t1]
  have HX := Lib.hid (Ext.trans HX.out hx)
  clear hx
  go_wp2_with fail
  refine (c_home w4).mono ?_
  rintro e w5 ⟨rfl, hx⟩
  have HX := Lib.hid (Ext.trans HX.out hx)
  clear hx
  go_wp2_with fail
  refine (c_wText 1 8 0 ⟨#[97, 9, 98]⟩ w5 ho180 (HT.out.ext HX.out) (by decide)).mono ?_
  rintro e w6 ⟨rfl, hx⟩
  rw [ev_t2]
  have HX := Lib.hid (Ext.trans HX.out hx)
  clear hx
  go_wp2_with fail
  refine (c_home w6).mono ?_
  rintro e w7 ⟨rfl, hx⟩
  have HX := Lib.hid (Ext.trans HX.out hx)
  clear hx
  go_wp2_with fail
  refine (c_wShort 1 8 0 ⟨#[97, 98, 99, 100, 101, 102]⟩ 4 ⟨#[46, 46]⟩ w7 ho180 (HT.out.ext HX.out) (by decide) (by decide)).mono ?_
  rintro e w8 ⟨rfl, hx⟩
  rw [ev_s]
  have HX := Lib.hid (Ext.trans HX.out hx)
  clear hx
  go_wp2_with fail
  refine (c_home w8).mono ?_
  rintro e w9 ⟨rfl, hx⟩
  have HX := Lib.hid (Ext.trans HX.out hx)
  clear hx
  go_wp2_with fail
  refine (c_wHit 1 8 0 ⟨#[97, 228, 184, 128, 98]⟩ 2 w9 ho180 (HT.out.ext HX.out) (by decide)).mono ?_
  rintro e w10 ⟨rfl, hx⟩
  rw [ev_h]
  have HX := Lib.hid (Ext.trans HX.out hx)
  clear hx
  go_wp2_with fail
  refine (c_home w10).mono ?_
  rintro e w11 ⟨rfl, hx⟩
  have HX := Lib.hid (Ext.trans HX.out hx)
  clear hx
  go_wp2_with fail
  refine (c_wCheck 1 8 0 w11).mono ?_
  rintro e w12 ⟨rfl, hx⟩
  rw [if_pos ho180i]
  have HX := Lib.hid (Ext.trans HX.out hx)
  clear hx
  go_wp2_with fail
  refine (c_num 0 w12).mono ?_
  rintro e w13 ⟨rfl, rfl⟩
  go_wp2_with fail
  exact ret_one rfl rfl rfl ⟨rfl, HX.out⟩
end Go.Proofs.YtafmhmcinhbpfaaGreatDoor
end
