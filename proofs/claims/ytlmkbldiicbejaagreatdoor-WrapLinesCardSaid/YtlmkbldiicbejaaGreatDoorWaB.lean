/-
  The cells of a rune, of a letter.
-/
import Derived.Test.YtlmkbldiicbejaaGreatDoorWaA
namespace Go.Proofs.YtlmkbldiicbejaaGreatDoor
open Go.RowKit Go.Rp Go.Maps Go.Cl Go.Shelf Go.Gr

/-- The cells of a rune by its class. -/
def wdC (a c : Nat) : Nat := if c = 1 then 0 else if c = 3 then 2 else if c = 4 then a else 1
noncomputable def wdA (a r : Nat) : Nat := wdC a (clsW r)
/-- What a number is taken for: a half of a pair is taken for the substitute. -/
def surN (r : Int) : Nat := if 55296 ≤ r ∧ r ≤ 57343 then 65533 else rnN r
noncomputable def cellK (a t : Nat) : Cell := ⟨clsG, wdA a, t⟩
set_option maxRecDepth 100000 in
set_option maxHeartbeats 4000000 in
theorem c_wrune (bk a t st : Nat) (r : Int) (w : World) (h : BookIs w bk a t st) (hr0 : -2147483648 ≤ r) (hr1 : r ≤ 2147483647) :
    Calls Tryz.prog 149 #[.pointer (some ⟨bk, 0, none⟩), .int .i32 r] w fun e w' => e = .returned (.int .i64 (wdA a (surN r) : Nat)) ∧ Ext w w' := by
  obtain ⟨dw, dg, hb, hw, hg⟩ := h
  have HG := Lib.hid (fun (q : Int) (h0 : -2147483648 ≤ q) (h1 : q ≤ 2147483647) => c_Get dw _ rngW q w hw rngW_rise (by have := rngW_len; omega) h0 h1)
  have HB := Lib.hid hb
  have k0 := (cell_blk hb 0).trans rfl
  have k3 : w.cell? ⟨bk, 3, none⟩ = some (.pointer (some ⟨dw, 0, none⟩)) := (cell_blk hb 3).trans rfl
  have k5 : w.cell? ⟨bk, 5, none⟩ = some (.int .i64 1) := (cell_blk hb 5).trans rfl
  have k6 : w.cell? ⟨bk, 6, none⟩ = some (.int .i64 3) := (cell_blk hb 6).trans rfl
  have k7 : w.cell? ⟨bk, 7, none⟩ = some (.int .i64 4) := (cell_blk hb 7).trans rfl
  obtain ⟨c, hc⟩ : ∃ c, clsW (surN r) = c := ⟨_, rfl⟩
  have HWD := Lib.hid (show wdA a (surN r) = wdC a c by unfold wdA; rw [hc])
  have HC := Lib.hid hc
  rw [HWD.out]
  clear hb hw hg hc HWD
  by_cases hs : 55296 ≤ r ∧ r ≤ 57343
  · obtain ⟨hs1, hs2⟩ := hs
    have HK := Lib.hid (show Calls Tryz.prog 53 #[.pointer (some ⟨dw, 0, none⟩), .int .i32 65533] w fun e w' => e = .returned (.int .i64 (c : Nat)) ∧ Ext w w' by
      have := HG.out 65533 (by omega) (by omega)
      have e2 : getR rngW (rnN 65533) = c := by
        rw [← HC.out]
        unfold surN clsW
        rw [if_pos ⟨hs1, hs2⟩]
        rfl
      rw [e2] at this
      exact this)
    clear HG HC
    go_enter Tryz.func149, Tryz.ntmps149
    go_wp2_with fail
    refine HK.out.mono ?_
    rintro e w1 ⟨rfl, hx⟩
    have j0 := hx.cell k0
    have j5 := hx.cell k5
    have j6 := hx.cell k6
    have j7 := hx.cell k7
    have HX := Lib.hid hx
    clear hx k0 k3 k5 k6 k7 HK
    by_cases hc : c ∈ [1, 3, 4]
    · simp only [List.mem_cons, List.not_mem_nil, or_false] at hc
      rcases hc with rfl | rfl | rfl
      all_goals
        go_wp2_with fail
        exact ret_one rfl rfl rfl ⟨rfl, HX.out⟩
    · have c1 : ((c : Int) == 1) = false := notIn hc 1 (by decide)
      have c3 : ((c : Int) == 3) = false := notIn hc 3 (by decide)
      have c4 : ((c : Int) == 4) = false := notIn hc 4 (by decide)
      have HWV := Lib.hid (show wdC a c = 1 by
        simp only [List.mem_cons, List.not_mem_nil, or_false, not_or] at hc
        simp [wdC, hc])
      clear hc
      go_wp2_with fail
      exact ret_one rfl rfl rfl ⟨by rw [HWV.out]; rfl, HX.out⟩
  · have HK := Lib.hid (show Calls Tryz.prog 53 #[.pointer (some ⟨dw, 0, none⟩), .int .i32 r] w fun e w' => e = .returned (.int .i64 (c : Nat)) ∧ Ext w w' by
      have := HG.out r hr0 hr1
      have e2 : getR rngW (rnN r) = c := by
        rw [← HC.out]
        unfold surN clsW
        rw [if_neg hs]
      rw [e2] at this
      exact this)
    clear HG HC
    by_cases h1 : 55296 ≤ r
    · have h2 : ¬ r ≤ 57343 := fun h => hs ⟨h1, h⟩
      clear hs
      go_enter Tryz.func149, Tryz.ntmps149
      go_wp2_with fail
      refine HK.out.mono ?_
      rintro e w1 ⟨rfl, hx⟩
      have j0 := hx.cell k0
      have j5 := hx.cell k5
      have j6 := hx.cell k6
      have j7 := hx.cell k7
      have HX := Lib.hid hx
      clear hx k0 k3 k5 k6 k7 HK
      by_cases hc : c ∈ [1, 3, 4]
      · simp only [List.mem_cons, List.not_mem_nil, or_false] at hc
        rcases hc with rfl | rfl | rfl
        all_goals
          go_wp2_with fail
          exact ret_one rfl rfl rfl ⟨rfl, HX.out⟩
      · have c1 : ((c : Int) == 1) = false := notIn hc 1 (by decide)
        have c3 : ((c : Int) == 3) = false := notIn hc 3 (by decide)
        have c4 : ((c : Int) == 4) = false := notIn hc 4 (by decide)
        have HWV := Lib.hid (show wdC a c = 1 by
          simp only [List.mem_cons, List.not_mem_nil, or_false, not_or] at hc
          simp [wdC, hc])
        clear hc
        go_wp2_with fail
        exact ret_one rfl rfl rfl ⟨by rw [HWV.out]; rfl, HX.out⟩
    · clear hs
      go_enter Tryz.func149, Tryz.ntmps149
      go_wp2_with fail
      refine HK.out.mono ?_
      rintro e w1 ⟨rfl, hx⟩
      have j0 := hx.cell k0
      have j5 := hx.cell k5
      have j6 := hx.cell k6
      have j7 := hx.cell k7
      have HX := Lib.hid hx
      clear hx k0 k3 k5 k6 k7 HK
      by_cases hc : c ∈ [1, 3, 4]
      · simp only [List.mem_cons, List.not_mem_nil, or_false] at hc
        rcases hc with rfl | rfl | rfl
        all_goals
          go_wp2_with fail
          exact ret_one rfl rfl rfl ⟨rfl, HX.out⟩
      · have c1 : ((c : Int) == 1) = false := notIn hc 1 (by decide)
        have c3 : ((c : Int) == 3) = false := notIn hc 3 (by decide)
        have c4 : ((c : Int) == 4) = false := notIn hc 4 (by decide)
        have HWV := Lib.hid (show wdC a c = 1 by
          simp only [List.mem_cons, List.not_mem_nil, or_false, not_or] at hc
          simp [wdC, hc])
        clear hc
        go_wp2_with fail
        exact ret_one rfl rfl rfl ⟨by rw [HWV.out]; rfl, HX.out⟩
theorem wdC_le {a : Nat} (ha : a ≤ 2) (c : Nat) : wdC a c ≤ 2 := by
  unfold wdC
  repeat' split
  all_goals omega
theorem rnN_run (r : Nat) (h : r ≤ 1114111) (hs : ¬ (55296 ≤ r ∧ r ≤ 57343)) : surN (r : Nat) = r := by
  unfold surN
  rw [if_neg (by omega), rnN_nat r h]
theorem dec_good (s : ByteArray) (i : Nat) : (Utf8.decode s i).1 ≤ 1114111 ∧ ¬ (55296 ≤ (Utf8.decode s i).1 ∧ (Utf8.decode s i).1 ≤ 57343) := by
  refine ⟨dec_max s i, ?_⟩
  rw [dec_at]
  unfold dec Go.Lib.decodeN
  repeat' split
  all_goals (simp only; omega)
theorem mk_runes (s : ByteArray) : (mk s).map (·.1) = runesOf s.data.toList := by
  unfold mk runesOf
  rw [len_eq]
/-- The cells of the letter so far, behind i runes. -/
noncomputable def lwS (k : Cell) (s : ByteArray) (i n : Nat) : Nat := lwGo k (k.cl ((runesOf s.data.toList).headD 0)) i n ((runesOf s.data.toList).drop i)
theorem lwS_zero (k : Cell) (s : ByteArray) : lwS k s 0 0 = lwT k s.data.toList := by
  unfold lwS lwT lwR
  rw [List.drop_zero]
theorem lwS_step (k : Cell) (s : ByteArray) (i n : Nat) (h : i < (mk s).length) : lwS k s i n = lwS k s (i + 1) (if (i = 1 ∧ k.cl ((runesOf s.data.toList).headD 0) = 13 ∧ k.cl (mk s)[i].1 = 13) ∨ ((mk s)[i].1 = 65039 ∧ k.cl ((runesOf s.data.toList).headD 0) = 12) then 2 else max n (k.wd (mk s)[i].1)) := by
  have hl : i < (runesOf s.data.toList).length := by rw [← mk_runes]; simpa using h
  have he : (runesOf s.data.toList)[i] = (mk s)[i].1 := by
    have := List.getElem_map (f := fun m : Nat × Nat × Nat => m.1) (l := mk s) (i := i) (h := by simpa using h)
    rw [← this]
    congr 1
    try exact (mk_runes s).symm
  unfold lwS
  rw [List.drop_eq_getElem_cons hl, lwGo, he]
theorem lwS_end (k : Cell) (s : ByteArray) (n : Nat) : lwS k s (mk s).length n = n := by
  unfold lwS
  rw [List.drop_of_length_le (by rw [← mk_runes]; simp), lwGo]
set_option maxRecDepth 100000 in
set_option maxHeartbeats 4000000 in
theorem c_wletter (bk a t st : Nat) (s : ByteArray) (w : World) (h : BookIs w bk a t st) (ha : a ≤ 2) (hT : TabsW w) (hz : s.size ≤ 65536) :
    Calls Tryz.prog 117 #[.pointer (some ⟨bk, 0, none⟩), .string s] w fun e w' => e = .returned (.int .i64 (lwT (cellK a t) s.data.toList : Nat)) ∧ Ext w w' := by
  have HB := Lib.hid h
  have HT := Lib.hid hT
  by_cases h0 : s.size = 0
  · obtain rfl := emp_eq h0
    obtain ⟨dw, dg, hb, hdw, hdg⟩ := h
    have k4 : w.cell? ⟨bk, 4, none⟩ = some (.pointer (some ⟨dg, 0, none⟩)) := (cell_blk hb 4).trans rfl
    have HGG := Lib.hid (c_Get dg _ rngG (0 : Int) w hdg rngG_rise (by have := rngG_len; omega) (by omega) (by omega))
    have HLT := Lib.hid (show lwT (cellK a t) ([] : List UInt8) = 0 from rfl)
    clear hb hdw hdg h0 hT
    go_enter Tryz.func117, Tryz.ntmps117
    go_wp2_with fail
    refine (c_uDecode0 w).mono ?_
    rintro e w1 ⟨rfl, rfl⟩
    go_wp2_with fail
    refine HGG.out.mono ?_
    rintro e w2 ⟨rfl, hx⟩
    have HX2 := Lib.hid hx
    generalize getR rngG (rnN 0) = c0
    clear hx k4 HGG
    go_wp2_with fail
    go_loopw [8, 9, 10, 11] (fun nv _ _ _ W => nv = .int .i64 0 ∧ W.heap[w2.heap.size]? = some (.stringIter ⟨#[]⟩ 0) ∧ Hid (Ext w2 W)) (fun _ _ _ _ W => 0)
    case atStart => exact ⟨rfl, World.iter_heap w2 _ 0, Lib.hid ((Ext.refl w2).iter _ 0)⟩
    case round =>
      obtain ⟨rfl, hit, HXW⟩ := hrel
      obtain ⟨W, rfl⟩ : ∃ W, W = wr := ⟨_, rfl⟩
      have hnx : ∀ ty, (Instr.next (.pointer (some ⟨w2.heap.size, 0, none⟩)) true ty).run Tryz.prog W = _ := fun ty => Lib.run_next_end_at W w2.heap.size ⟨#[]⟩ 0 ty hit (by decide)
      go_wp2_with fail
      exact ret_one rfl rfl rfl ⟨by rw [HLT.out]; rfl, HX2.out.trans HXW.out⟩
  · have HD := Lib.hid (c_uDecode s w hT h0)
    clear h hT
    go_enter Tryz.func117, Tryz.ntmps117
    go_wp2_with fail
    refine HD.out.mono ?_
    rintro e w1 ⟨rfl, hx⟩
    obtain ⟨dw, dg, hb, hdw, hdg⟩ := HB.out.ext hx
    have k4 : w1.cell? ⟨bk, 4, none⟩ = some (.pointer (some ⟨dg, 0, none⟩)) := (cell_blk hb 4).trans rfl
    have HX := Lib.hid hx
    have hgood := dec_good s 0
    have hr0 : run s.data.toList = (Utf8.decode s 0).1 := by rw [dec_run]; rfl
    rw [← hr0] at hgood
    obtain ⟨r0, hr⟩ : ∃ r, run s.data.toList = r := ⟨_, rfl⟩
    rw [hr] at hgood
    have HGG := Lib.hid (c_Get dg _ rngG (r0 : Nat) w1 hdg rngG_rise (by have := rngG_len; omega) (by omega) (by omega))
    rw [hr]
    clear hx hb hdw hdg HD
    go_wp2_with fail
    refine HGG.out.mono ?_
    rintro e w2 ⟨rfl, hx⟩
    rw [rnN_nat r0 hgood.1]
    have HX2 := Lib.hid (HX.out.trans hx)
    have HK0 := Lib.hid (show (cellK a t).cl ((runesOf s.data.toList).headD 0) = getR rngG r0 by
      rw [runesOf_step _ (size_ne h0), hr]
      rfl)
    obtain ⟨c0, hc0⟩ : ∃ c0, getR rngG r0 = c0 := ⟨_, rfl⟩
    rw [hc0] at HK0 ⊢
    obtain ⟨wd0, hwd0⟩ : ∃ x, wid s.data.toList = x := ⟨_, rfl⟩
    rw [hwd0]
    have HW0 := Lib.hid (show (Utf8.decode s 0).2 = wd0 by rw [dec_wid]; exact hwd0)
    clear hx HGG HX k4 hr hr0 hc0 hwd0
    go_wp2_with fail
    go_loopw [8, 9, 10, 11] (fun nv _ _ _ W => ∃ i pos n : Nat, nv = .int .i64 (n : Nat) ∧ n ≤ 2 ∧ W.heap[w2.heap.size]? = some (.stringIter s pos) ∧ Hid (AtM s i pos) ∧ Hid (lwS (cellK a t) s i n = lwT (cellK a t) s.data.toList) ∧ Hid (i = 0 ∧ pos = 0 ∨ i = 1 ∧ pos = wd0 ∨ 2 ≤ i ∧ wd0 < pos) ∧ Hid (Ext w2 W)) (fun _ _ _ _ W => s.size - W.iterPos w2.heap.size)
    case atStart => exact ⟨0, 0, 0, rfl, Nat.zero_le _, World.iter_heap w2 s 0, Lib.hid (AtM.start s), Lib.hid (lwS_zero _ s), Lib.hid (.inl ⟨rfl, rfl⟩), Lib.hid ((Ext.refl w2).iter s 0)⟩
    case round =>
      obtain ⟨i, pos, n, rfl, hn2, hit, HA, HL, HPS, HXW⟩ := hrel
      obtain ⟨W, rfl⟩ : ∃ W, W = wr := ⟨_, rfl⟩
      have hpos := iterPos_of hit
      by_cases hlt : pos < s.size
      · have hnx : ∀ ty, (Instr.next (.pointer (some ⟨w2.heap.size, 0, none⟩)) true ty).run Tryz.prog W = _ := fun ty => Lib.run_next_any_at W w2.heap.size s pos ty hit hlt
        have HM := Lib.hid (HA.out.step hlt)
        have hd := dec_le s pos hlt
        have hgd := dec_good s pos
        have HP2 := Lib.hid (show i + 1 = 1 ∧ pos + (Utf8.decode s pos).2 = wd0 ∨ 2 ≤ i + 1 ∧ wd0 < pos + (Utf8.decode s pos).2 by
          have h1 := HW0.out
          rcases HPS.out with ⟨rfl, rfl⟩ | ⟨rfl, rfl⟩ | ⟨h2, h3⟩
          · exact .inl ⟨rfl, by omega⟩
          · exact .inr ⟨by omega, by omega⟩
          · exact .inr ⟨by omega, by omega⟩)
        have HI1 := Lib.hid (show i = 1 ↔ pos = wd0 by
          have h1 := HW0.out
          have h2 := (dec_le s 0 (by omega)).1
          rcases HPS.out with ⟨rfl, rfl⟩ | ⟨rfl, rfl⟩ | ⟨h2, h3⟩
          · constructor <;> intro h <;> omega
          · simp
          · constructor <;> intro h <;> omega)
        generalize Utf8.decode s pos = d at hnx HM hd hgd HP2
        obtain ⟨r, d2⟩ := d
        simp only at hd hgd
        have hx1 : Ext w2 _ := Lib.below_iterAt HXW.out (Nat.le_refl _) s (pos + d2)
        have hit1 := Lib.iterAt_heap W w2.heap.size s pos (pos + d2) hit
        simp only at hnx
        generalize W.iterAt w2.heap.size s (pos + d2) = W1 at hnx hx1 hit1
        have HXA := Lib.hid hx1
        have HIT := Lib.hid hit1
        have hbk := HB.out.ext (HX2.out.trans hx1)
        have HR := Lib.hid (c_wrune bk a t st (r : Nat) W1 hbk (by omega) (by omega))
        rw [rnN_run r hgd.1 hgd.2] at HR
        obtain ⟨q, hq⟩ : ∃ q, wdA a r = q := ⟨_, rfl⟩
        have hq2 : q ≤ 2 := by rw [← hq]; exact wdC_le ha _
        rw [hq] at HR
        obtain ⟨y, hy⟩ : ∃ y, clsG r = y := ⟨_, rfl⟩
        obtain ⟨pe, hpe⟩ : ∃ b, ((pos : Int) == (wd0 : Nat)) = b := ⟨_, rfl⟩
        obtain ⟨fe, hfe⟩ : ∃ b, ((c0 : Int) == 13) = b := ⟨_, rfl⟩
        obtain ⟨ce, hce⟩ : ∃ b, ((c0 : Int) == 12) = b := ⟨_, rfl⟩
        obtain ⟨re, hre⟩ : ∃ b, ((r : Int) == 65039) = b := ⟨_, rfl⟩
        obtain ⟨ye, hye⟩ : ∃ b, ((y : Int) == 13) = b := ⟨_, rfl⟩
        have HSTEP := Lib.hid (show lwS (cellK a t) s (i + 1) (if (pe && fe && ye || re && ce) = true then 2 else max n q) = lwT (cellK a t) s.data.toList by
          obtain ⟨hi, hm, ha⟩ := HM.out
          rw [← HL.out, lwS_step _ s i n hi, hm, HK0.out]
          show _ = lwS (cellK a t) s (i + 1) (if (i = 1 ∧ c0 = 13 ∧ clsG r = 13) ∨ (r = 65039 ∧ c0 = 12) then 2 else max n (wdA a r))
          rw [hq, hy]
          congr 1
          have e : ((i = 1 ∧ c0 = 13 ∧ y = 13) ∨ (r = 65039 ∧ c0 = 12)) ↔ (pe && fe && ye || re && ce) = true := by
            rw [HI1.out, ← hpe, ← hfe, ← hce, ← hre, ← hye]
            simp
            omega
          by_cases h : (pe && fe && ye || re && ce) = true
          · rw [if_pos h, if_pos (e.2 h)]
          · rw [if_neg h, if_neg (fun hh => h (e.1 hh))])
        obtain ⟨dw, dg, hb, _, hdg⟩ := hbk
        have HGT := Lib.hid (show ∀ W2, Ext W1 W2 → Calls Tryz.prog 53 #[.pointer (some ⟨dg, 0, none⟩), .int .i32 (r : Nat)] W2 fun e w' => e = .returned (.int .i64 (y : Nat)) ∧ Ext W2 w' from fun W2 hx => by
          have := c_Get dg _ rngG (r : Nat) W2 (hdg.ext hx) rngG_rise (by have := rngG_len; omega) (by omega) (by omega)
          rw [rnN_nat r hgd.1, show getR rngG r = y from hy] at this
          exact this)
        have HBK := Lib.hid hb
        clear hx1 hit1 hb hdg hq hy hgd HPS HI1 HL
        go_wp2_with fail
        refine HR.out.mono ?_
        rintro e W2 ⟨rfl, hx⟩
        have HX3 := Lib.hid hx
        have s4 : ∀ w', EOn (fun _ => True) W2 w' → w'.cell? ⟨bk, 4, none⟩ = some (.pointer (some ⟨dg, 0, none⟩)) := fun w' h => h.cell trivial ((cell_blk (hx.blk HBK.out) 4).trans rfl)
        have s8 : ∀ w', EOn (fun _ => True) W2 w' → w'.cell? ⟨bk, 8, none⟩ = some (.int .i64 12) := fun w' h => h.cell trivial ((cell_blk (hx.blk HBK.out) 8).trans rfl)
        have s9 : ∀ w', EOn (fun _ => True) W2 w' → w'.cell? ⟨bk, 9, none⟩ = some (.int .i64 13) := fun w' h => h.cell trivial ((cell_blk (hx.blk HBK.out) 9).trans rfl)
        have HMN := Lib.hid (show ((max n q : Nat) : Int) = max (n : Int) (q : Int) by omega)
        have hmn : max n q ≤ 2 := by omega
        clear hx HR
        by_cases hcall : pe = true ∧ fe = true
        · obtain ⟨rfl, rfl⟩ := hcall
          go_wp2_with fail
          refine wp_perm (fun _ => True) [0, 1, 2, 3, 4, 5, 6, 7, 8, 9, 10, 11, 12, 13, 14, 15, 16, 18, 19, 20, 21, 17, 22, 23, 24] [true, true, true, true, true, true, true, true, true, true, true, true, true, true, true, true, true, true, true, true, true, false, true, true, true] (by kernel_rfl) (by kernel_rfl) (by simp only [List.map_cons, List.map_nil, nth]; rfl) ?_
          repeat first
            | refine wpG_move' ?_
            | refine wpG_assign' ?_
            | refine wpG_val' ?_
            | refine wpG_no' ?_
          refine wpG_do (by rfl) (fun W3 hx3 K hK => ?_)
          go_wp2_with fail
          refine (HGT.out W3 (HX3.out.trans hx3)).mono ?_
          rintro e W4 ⟨rfl, hx4⟩
          refine hK _ _ ⟨EOn.of_ext hx4, ?_⟩
          clear hK
          rcases ye with _ | _
          · rcases re with _ | _ <;> rcases ce with _ | _
            · skip
              repeat first
                | refine wpG_move' ?_
                | refine wpG_assign' ?_
                | refine wpG_val' ?_
                | refine wpG_no' ?_
              refine wpG_end (fun w5 hx5 => ?_)
              have hx15 := HX3.out.trans ((hx3.trans hx4).trans hx5)
              have HX5 := Lib.hid hx15
              have c8 : w5.cell? ⟨bk, 8, none⟩ = some (.int .i64 12) := (cell_blk (hx15.blk HBK.out) 8).trans rfl
              clear hx5 hx15 hx3 hx4
              go_wp2_with fail
              refine gQ_normal ?_
              go_wp2_with fail
              have hit5 := HX5.out.blk HIT.out
              exact ⟨⟨i + 1, pos + d2, max n q, congrArg _ HMN.out.symm, hmn, hit5, Lib.hid HM.out.choose_spec.2, Lib.hid (show lwS (cellK a t) s (i + 1) (max n q) = _ from HSTEP.out), Lib.hid (.inr HP2.out), Lib.hid (HXA.out.trans HX5.out)⟩, by rw [iterPos_of hit5, hpos]; omega⟩
            · skip
              repeat first
                | refine wpG_move' ?_
                | refine wpG_assign' ?_
                | refine wpG_val' ?_
                | refine wpG_no' ?_
              refine wpG_end (fun w5 hx5 => ?_)
              have hx15 := HX3.out.trans ((hx3.trans hx4).trans hx5)
              have HX5 := Lib.hid hx15
              have c8 : w5.cell? ⟨bk, 8, none⟩ = some (.int .i64 12) := (cell_blk (hx15.blk HBK.out) 8).trans rfl
              clear hx5 hx15 hx3 hx4
              go_wp2_with fail
              refine gQ_normal ?_
              go_wp2_with fail
              have hit5 := HX5.out.blk HIT.out
              exact ⟨⟨i + 1, pos + d2, max n q, congrArg _ HMN.out.symm, hmn, hit5, Lib.hid HM.out.choose_spec.2, Lib.hid (show lwS (cellK a t) s (i + 1) (max n q) = _ from HSTEP.out), Lib.hid (.inr HP2.out), Lib.hid (HXA.out.trans HX5.out)⟩, by rw [iterPos_of hit5, hpos]; omega⟩
            · skip
              repeat first
                | refine wpG_move' ?_
                | refine wpG_assign' ?_
                | refine wpG_val' ?_
                | refine wpG_no' ?_
              refine wpG_end (fun w5 hx5 => ?_)
              have hx15 := HX3.out.trans ((hx3.trans hx4).trans hx5)
              have HX5 := Lib.hid hx15
              have c8 : w5.cell? ⟨bk, 8, none⟩ = some (.int .i64 12) := (cell_blk (hx15.blk HBK.out) 8).trans rfl
              clear hx5 hx15 hx3 hx4
              go_wp2_with fail
              refine gQ_normal ?_
              go_wp2_with fail
              have hit5 := HX5.out.blk HIT.out
              exact ⟨⟨i + 1, pos + d2, max n q, congrArg _ HMN.out.symm, hmn, hit5, Lib.hid HM.out.choose_spec.2, Lib.hid (show lwS (cellK a t) s (i + 1) (max n q) = _ from HSTEP.out), Lib.hid (.inr HP2.out), Lib.hid (HXA.out.trans HX5.out)⟩, by rw [iterPos_of hit5, hpos]; omega⟩
            · skip
              repeat first
                | refine wpG_move' ?_
                | refine wpG_assign' ?_
                | refine wpG_val' ?_
                | refine wpG_no' ?_
              refine wpG_end (fun w5 hx5 => ?_)
              have hx15 := HX3.out.trans ((hx3.trans hx4).trans hx5)
              have HX5 := Lib.hid hx15
              have c8 : w5.cell? ⟨bk, 8, none⟩ = some (.int .i64 12) := (cell_blk (hx15.blk HBK.out) 8).trans rfl
              clear hx5 hx15 hx3 hx4
              go_wp2_with fail
              refine gQ_normal ?_
              go_wp2_with fail
              have hit5 := HX5.out.blk HIT.out
              exact ⟨⟨i + 1, pos + d2, 2, rfl, Nat.le_refl _, hit5, Lib.hid HM.out.choose_spec.2, Lib.hid (show lwS (cellK a t) s (i + 1) 2 = _ from HSTEP.out), Lib.hid (.inr HP2.out), Lib.hid (HXA.out.trans HX5.out)⟩, by rw [iterPos_of hit5, hpos]; omega⟩
          · skip
            repeat first
              | refine wpG_move' ?_
              | refine wpG_assign' ?_
              | refine wpG_val' ?_
              | refine wpG_no' ?_
            refine wpG_end (fun w5 hx5 => ?_)
            have hx15 := HX3.out.trans ((hx3.trans hx4).trans hx5)
            have HX5 := Lib.hid hx15
            have c8 : w5.cell? ⟨bk, 8, none⟩ = some (.int .i64 12) := (cell_blk (hx15.blk HBK.out) 8).trans rfl
            clear hx5 hx15 hx3 hx4
            go_wp2_with fail
            refine gQ_normal ?_
            go_wp2_with fail
            have hit5 := HX5.out.blk HIT.out
            exact ⟨⟨i + 1, pos + d2, 2, rfl, Nat.le_refl _, hit5, Lib.hid HM.out.choose_spec.2, Lib.hid (show lwS (cellK a t) s (i + 1) 2 = _ from HSTEP.out), Lib.hid (.inr HP2.out), Lib.hid (HXA.out.trans HX5.out)⟩, by rw [iterPos_of hit5, hpos]; omega⟩
        · have hno : (pe && fe && ye) = false := by
            cases pe <;> cases fe <;> simp_all
          rw [hno, Bool.false_or] at HSTEP
          clear hno
          have HNC := Lib.hid hcall
          clear hcall
          rcases pe with _ | _
          · rcases fe with _ | _
            · rcases re with _ | _ <;> rcases ce with _ | _
              · go_wp2_with fail
                refine wp_lex (fun _ => True) [true, true, true, true, true, true, true, true, true, true, true, true, true, true, true, true, true, true, true, true, true, true, true, true, true] (by kernel_rfl) (by kernel_rfl) ?_
                skip
                repeat first
                  | refine wpG_move' ?_
                  | refine wpG_assign' ?_
                  | refine wpG_val' ?_
                  | refine wpG_no' ?_
                refine wpG_end (fun w5 hx5 => ?_)
                have hx15 := HX3.out.trans (hx5)
                have HX5 := Lib.hid hx15
                have c8 : w5.cell? ⟨bk, 8, none⟩ = some (.int .i64 12) := (cell_blk (hx15.blk HBK.out) 8).trans rfl
                clear hx5 hx15 s4
                go_wp2_with fail
                refine gQ_normal ?_
                go_wp2_with fail
                have hit5 := HX5.out.blk HIT.out
                exact ⟨⟨i + 1, pos + d2, max n q, congrArg _ HMN.out.symm, hmn, hit5, Lib.hid HM.out.choose_spec.2, Lib.hid (show lwS (cellK a t) s (i + 1) (max n q) = _ from HSTEP.out), Lib.hid (.inr HP2.out), Lib.hid (HXA.out.trans HX5.out)⟩, by rw [iterPos_of hit5, hpos]; omega⟩
              · go_wp2_with fail
                refine wp_lex (fun _ => True) [true, true, true, true, true, true, true, true, true, true, true, true, true, true, true, true, true, true, true, true, true, true, true, true, true] (by kernel_rfl) (by kernel_rfl) ?_
                skip
                repeat first
                  | refine wpG_move' ?_
                  | refine wpG_assign' ?_
                  | refine wpG_val' ?_
                  | refine wpG_no' ?_
                refine wpG_end (fun w5 hx5 => ?_)
                have hx15 := HX3.out.trans (hx5)
                have HX5 := Lib.hid hx15
                have c8 : w5.cell? ⟨bk, 8, none⟩ = some (.int .i64 12) := (cell_blk (hx15.blk HBK.out) 8).trans rfl
                clear hx5 hx15 s4
                go_wp2_with fail
                refine gQ_normal ?_
                go_wp2_with fail
                have hit5 := HX5.out.blk HIT.out
                exact ⟨⟨i + 1, pos + d2, max n q, congrArg _ HMN.out.symm, hmn, hit5, Lib.hid HM.out.choose_spec.2, Lib.hid (show lwS (cellK a t) s (i + 1) (max n q) = _ from HSTEP.out), Lib.hid (.inr HP2.out), Lib.hid (HXA.out.trans HX5.out)⟩, by rw [iterPos_of hit5, hpos]; omega⟩
              · go_wp2_with fail
                refine wp_lex (fun _ => True) [true, true, true, true, true, true, true, true, true, true, true, true, true, true, true, true, true, true, true, true, true, true, true, true, true] (by kernel_rfl) (by kernel_rfl) ?_
                skip
                repeat first
                  | refine wpG_move' ?_
                  | refine wpG_assign' ?_
                  | refine wpG_val' ?_
                  | refine wpG_no' ?_
                refine wpG_end (fun w5 hx5 => ?_)
                have hx15 := HX3.out.trans (hx5)
                have HX5 := Lib.hid hx15
                have c8 : w5.cell? ⟨bk, 8, none⟩ = some (.int .i64 12) := (cell_blk (hx15.blk HBK.out) 8).trans rfl
                clear hx5 hx15 s4
                go_wp2_with fail
                refine gQ_normal ?_
                go_wp2_with fail
                have hit5 := HX5.out.blk HIT.out
                exact ⟨⟨i + 1, pos + d2, max n q, congrArg _ HMN.out.symm, hmn, hit5, Lib.hid HM.out.choose_spec.2, Lib.hid (show lwS (cellK a t) s (i + 1) (max n q) = _ from HSTEP.out), Lib.hid (.inr HP2.out), Lib.hid (HXA.out.trans HX5.out)⟩, by rw [iterPos_of hit5, hpos]; omega⟩
              · go_wp2_with fail
                refine wp_lex (fun _ => True) [true, true, true, true, true, true, true, true, true, true, true, true, true, true, true, true, true, true, true, true, true, true, true, true, true] (by kernel_rfl) (by kernel_rfl) ?_
                skip
                repeat first
                  | refine wpG_move' ?_
                  | refine wpG_assign' ?_
                  | refine wpG_val' ?_
                  | refine wpG_no' ?_
                refine wpG_end (fun w5 hx5 => ?_)
                have hx15 := HX3.out.trans (hx5)
                have HX5 := Lib.hid hx15
                have c8 : w5.cell? ⟨bk, 8, none⟩ = some (.int .i64 12) := (cell_blk (hx15.blk HBK.out) 8).trans rfl
                clear hx5 hx15 s4
                go_wp2_with fail
                refine gQ_normal ?_
                go_wp2_with fail
                have hit5 := HX5.out.blk HIT.out
                exact ⟨⟨i + 1, pos + d2, 2, rfl, Nat.le_refl _, hit5, Lib.hid HM.out.choose_spec.2, Lib.hid (show lwS (cellK a t) s (i + 1) 2 = _ from HSTEP.out), Lib.hid (.inr HP2.out), Lib.hid (HXA.out.trans HX5.out)⟩, by rw [iterPos_of hit5, hpos]; omega⟩
            · rcases re with _ | _ <;> rcases ce with _ | _
              · go_wp2_with fail
                refine wp_lex (fun _ => True) [true, true, true, true, true, true, true, true, true, true, true, true, true, true, true, true, true, true, true, true, true, true, true, true, true] (by kernel_rfl) (by kernel_rfl) ?_
                skip
                repeat first
                  | refine wpG_move' ?_
                  | refine wpG_assign' ?_
                  | refine wpG_val' ?_
                  | refine wpG_no' ?_
                refine wpG_end (fun w5 hx5 => ?_)
                have hx15 := HX3.out.trans (hx5)
                have HX5 := Lib.hid hx15
                have c8 : w5.cell? ⟨bk, 8, none⟩ = some (.int .i64 12) := (cell_blk (hx15.blk HBK.out) 8).trans rfl
                clear hx5 hx15 s4
                go_wp2_with fail
                refine gQ_normal ?_
                go_wp2_with fail
                have hit5 := HX5.out.blk HIT.out
                exact ⟨⟨i + 1, pos + d2, max n q, congrArg _ HMN.out.symm, hmn, hit5, Lib.hid HM.out.choose_spec.2, Lib.hid (show lwS (cellK a t) s (i + 1) (max n q) = _ from HSTEP.out), Lib.hid (.inr HP2.out), Lib.hid (HXA.out.trans HX5.out)⟩, by rw [iterPos_of hit5, hpos]; omega⟩
              · go_wp2_with fail
                refine wp_lex (fun _ => True) [true, true, true, true, true, true, true, true, true, true, true, true, true, true, true, true, true, true, true, true, true, true, true, true, true] (by kernel_rfl) (by kernel_rfl) ?_
                skip
                repeat first
                  | refine wpG_move' ?_
                  | refine wpG_assign' ?_
                  | refine wpG_val' ?_
                  | refine wpG_no' ?_
                refine wpG_end (fun w5 hx5 => ?_)
                have hx15 := HX3.out.trans (hx5)
                have HX5 := Lib.hid hx15
                have c8 : w5.cell? ⟨bk, 8, none⟩ = some (.int .i64 12) := (cell_blk (hx15.blk HBK.out) 8).trans rfl
                clear hx5 hx15 s4
                go_wp2_with fail
                refine gQ_normal ?_
                go_wp2_with fail
                have hit5 := HX5.out.blk HIT.out
                exact ⟨⟨i + 1, pos + d2, max n q, congrArg _ HMN.out.symm, hmn, hit5, Lib.hid HM.out.choose_spec.2, Lib.hid (show lwS (cellK a t) s (i + 1) (max n q) = _ from HSTEP.out), Lib.hid (.inr HP2.out), Lib.hid (HXA.out.trans HX5.out)⟩, by rw [iterPos_of hit5, hpos]; omega⟩
              · go_wp2_with fail
                refine wp_lex (fun _ => True) [true, true, true, true, true, true, true, true, true, true, true, true, true, true, true, true, true, true, true, true, true, true, true, true, true] (by kernel_rfl) (by kernel_rfl) ?_
                skip
                repeat first
                  | refine wpG_move' ?_
                  | refine wpG_assign' ?_
                  | refine wpG_val' ?_
                  | refine wpG_no' ?_
                refine wpG_end (fun w5 hx5 => ?_)
                have hx15 := HX3.out.trans (hx5)
                have HX5 := Lib.hid hx15
                have c8 : w5.cell? ⟨bk, 8, none⟩ = some (.int .i64 12) := (cell_blk (hx15.blk HBK.out) 8).trans rfl
                clear hx5 hx15 s4
                go_wp2_with fail
                refine gQ_normal ?_
                go_wp2_with fail
                have hit5 := HX5.out.blk HIT.out
                exact ⟨⟨i + 1, pos + d2, max n q, congrArg _ HMN.out.symm, hmn, hit5, Lib.hid HM.out.choose_spec.2, Lib.hid (show lwS (cellK a t) s (i + 1) (max n q) = _ from HSTEP.out), Lib.hid (.inr HP2.out), Lib.hid (HXA.out.trans HX5.out)⟩, by rw [iterPos_of hit5, hpos]; omega⟩
              · go_wp2_with fail
                refine wp_lex (fun _ => True) [true, true, true, true, true, true, true, true, true, true, true, true, true, true, true, true, true, true, true, true, true, true, true, true, true] (by kernel_rfl) (by kernel_rfl) ?_
                skip
                repeat first
                  | refine wpG_move' ?_
                  | refine wpG_assign' ?_
                  | refine wpG_val' ?_
                  | refine wpG_no' ?_
                refine wpG_end (fun w5 hx5 => ?_)
                have hx15 := HX3.out.trans (hx5)
                have HX5 := Lib.hid hx15
                have c8 : w5.cell? ⟨bk, 8, none⟩ = some (.int .i64 12) := (cell_blk (hx15.blk HBK.out) 8).trans rfl
                clear hx5 hx15 s4
                go_wp2_with fail
                refine gQ_normal ?_
                go_wp2_with fail
                have hit5 := HX5.out.blk HIT.out
                exact ⟨⟨i + 1, pos + d2, 2, rfl, Nat.le_refl _, hit5, Lib.hid HM.out.choose_spec.2, Lib.hid (show lwS (cellK a t) s (i + 1) 2 = _ from HSTEP.out), Lib.hid (.inr HP2.out), Lib.hid (HXA.out.trans HX5.out)⟩, by rw [iterPos_of hit5, hpos]; omega⟩
          · rcases fe with _ | _
            · rcases re with _ | _ <;> rcases ce with _ | _
              · go_wp2_with fail
                refine wp_lex (fun _ => True) [true, true, true, true, true, true, true, true, true, true, true, true, true, true, true, true, true, true, true, true, true, true, true, true, true] (by kernel_rfl) (by kernel_rfl) ?_
                skip
                repeat first
                  | refine wpG_move' ?_
                  | refine wpG_assign' ?_
                  | refine wpG_val' ?_
                  | refine wpG_no' ?_
                refine wpG_end (fun w5 hx5 => ?_)
                have hx15 := HX3.out.trans (hx5)
                have HX5 := Lib.hid hx15
                have c8 : w5.cell? ⟨bk, 8, none⟩ = some (.int .i64 12) := (cell_blk (hx15.blk HBK.out) 8).trans rfl
                clear hx5 hx15 s4
                go_wp2_with fail
                refine gQ_normal ?_
                go_wp2_with fail
                have hit5 := HX5.out.blk HIT.out
                exact ⟨⟨i + 1, pos + d2, max n q, congrArg _ HMN.out.symm, hmn, hit5, Lib.hid HM.out.choose_spec.2, Lib.hid (show lwS (cellK a t) s (i + 1) (max n q) = _ from HSTEP.out), Lib.hid (.inr HP2.out), Lib.hid (HXA.out.trans HX5.out)⟩, by rw [iterPos_of hit5, hpos]; omega⟩
              · go_wp2_with fail
                refine wp_lex (fun _ => True) [true, true, true, true, true, true, true, true, true, true, true, true, true, true, true, true, true, true, true, true, true, true, true, true, true] (by kernel_rfl) (by kernel_rfl) ?_
                skip
                repeat first
                  | refine wpG_move' ?_
                  | refine wpG_assign' ?_
                  | refine wpG_val' ?_
                  | refine wpG_no' ?_
                refine wpG_end (fun w5 hx5 => ?_)
                have hx15 := HX3.out.trans (hx5)
                have HX5 := Lib.hid hx15
                have c8 : w5.cell? ⟨bk, 8, none⟩ = some (.int .i64 12) := (cell_blk (hx15.blk HBK.out) 8).trans rfl
                clear hx5 hx15 s4
                go_wp2_with fail
                refine gQ_normal ?_
                go_wp2_with fail
                have hit5 := HX5.out.blk HIT.out
                exact ⟨⟨i + 1, pos + d2, max n q, congrArg _ HMN.out.symm, hmn, hit5, Lib.hid HM.out.choose_spec.2, Lib.hid (show lwS (cellK a t) s (i + 1) (max n q) = _ from HSTEP.out), Lib.hid (.inr HP2.out), Lib.hid (HXA.out.trans HX5.out)⟩, by rw [iterPos_of hit5, hpos]; omega⟩
              · go_wp2_with fail
                refine wp_lex (fun _ => True) [true, true, true, true, true, true, true, true, true, true, true, true, true, true, true, true, true, true, true, true, true, true, true, true, true] (by kernel_rfl) (by kernel_rfl) ?_
                skip
                repeat first
                  | refine wpG_move' ?_
                  | refine wpG_assign' ?_
                  | refine wpG_val' ?_
                  | refine wpG_no' ?_
                refine wpG_end (fun w5 hx5 => ?_)
                have hx15 := HX3.out.trans (hx5)
                have HX5 := Lib.hid hx15
                have c8 : w5.cell? ⟨bk, 8, none⟩ = some (.int .i64 12) := (cell_blk (hx15.blk HBK.out) 8).trans rfl
                clear hx5 hx15 s4
                go_wp2_with fail
                refine gQ_normal ?_
                go_wp2_with fail
                have hit5 := HX5.out.blk HIT.out
                exact ⟨⟨i + 1, pos + d2, max n q, congrArg _ HMN.out.symm, hmn, hit5, Lib.hid HM.out.choose_spec.2, Lib.hid (show lwS (cellK a t) s (i + 1) (max n q) = _ from HSTEP.out), Lib.hid (.inr HP2.out), Lib.hid (HXA.out.trans HX5.out)⟩, by rw [iterPos_of hit5, hpos]; omega⟩
              · go_wp2_with fail
                refine wp_lex (fun _ => True) [true, true, true, true, true, true, true, true, true, true, true, true, true, true, true, true, true, true, true, true, true, true, true, true, true] (by kernel_rfl) (by kernel_rfl) ?_
                skip
                repeat first
                  | refine wpG_move' ?_
                  | refine wpG_assign' ?_
                  | refine wpG_val' ?_
                  | refine wpG_no' ?_
                refine wpG_end (fun w5 hx5 => ?_)
                have hx15 := HX3.out.trans (hx5)
                have HX5 := Lib.hid hx15
                have c8 : w5.cell? ⟨bk, 8, none⟩ = some (.int .i64 12) := (cell_blk (hx15.blk HBK.out) 8).trans rfl
                clear hx5 hx15 s4
                go_wp2_with fail
                refine gQ_normal ?_
                go_wp2_with fail
                have hit5 := HX5.out.blk HIT.out
                exact ⟨⟨i + 1, pos + d2, 2, rfl, Nat.le_refl _, hit5, Lib.hid HM.out.choose_spec.2, Lib.hid (show lwS (cellK a t) s (i + 1) 2 = _ from HSTEP.out), Lib.hid (.inr HP2.out), Lib.hid (HXA.out.trans HX5.out)⟩, by rw [iterPos_of hit5, hpos]; omega⟩
            · exact absurd ⟨rfl, rfl⟩ HNC.out
      · have hnx : ∀ ty, (Instr.next (.pointer (some ⟨w2.heap.size, 0, none⟩)) true ty).run Tryz.prog W = _ := fun ty => Lib.run_next_end_at W w2.heap.size s pos ty hit hlt
        have HE := Lib.hid (HA.out.stop hlt)
        go_wp2_with fail
        refine ret_one rfl rfl rfl ⟨?_, HX2.out.trans HXW.out⟩
        have h1 := HL.out
        rw [HE.out, lwS_end] at h1
        rw [← h1]
        rfl
end Go.Proofs.YtlmkbldiicbejaaGreatDoor
