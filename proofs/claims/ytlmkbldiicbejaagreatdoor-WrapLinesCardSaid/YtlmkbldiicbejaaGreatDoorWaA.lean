/-
  Cells: the check, the ends of lines, the book of classes.
-/
import Derived.Test.YtlmkbldiicbejaaGreatDoorGaE
import Derived.Test.YtlmkbldiicbejaaGreatDoorPlainM
namespace Go.Proofs.YtlmkbldiicbejaaGreatDoor
open Go.RowKit Go.Rp Go.Maps Go.Cl Go.Shelf Go.Gr

theorem dec_go {l : List UInt8} (h : l ≠ []) : Lib.decodeGo ⟨l.toArray⟩ = (run l, wid l) := by
  have hs : ¬ (⟨l.toArray⟩ : ByteArray).size = 0 := by
    intro h0
    have : l.length = 0 := h0
    exact h (List.length_eq_zero_iff.1 this)
  unfold Lib.decodeGo
  rw [if_neg hs, dec_at]
  rfl
theorem size_ne {s : ByteArray} (h : s.size ≠ 0) : s.data.toList ≠ [] := fun e => by
  have := len_eq s
  rw [e] at this
  exact h this.symm
theorem emp_eq {s : ByteArray} (h0 : s.size = 0) : s = ⟨#[]⟩ := by
  have := len_eq s
  rw [h0] at this
  have h2 := List.length_eq_zero_iff.1 this
  cases s with
  | mk d => congr 1; exact Array.toList_eq_nil_iff.1 h2
theorem emp_true : (⟨#[]⟩ : ByteArray).toList.isEmpty = true := by kernel_rfl
set_option maxRecDepth 100000 in
set_option maxHeartbeats 4000000 in
theorem c_uDecode (s : ByteArray) (w : World) (hT : TabsW w) (hs : s.size ≠ 0) :
    Calls Tryz.prog 148 #[.string s] w fun e w' => e = .returned (.tuple #[.int .i32 (run s.data.toList : Nat), .int .i64 (wid s.data.toList : Nat)]) ∧ Ext w w' := by
  have hne := emp_false (s := s) (by omega)
  have HD := Lib.hid (show Lib.decodeGo s = (run s.data.toList, wid s.data.toList) by
    have := dec_go (size_ne hs)
    exact this)
  go_enter Tryz.func148, Tryz.ntmps148
  go_wp2_with fail
  refine (Tryz.utf8_DecodeRuneInString s w hT.u8).mono ?_
  rintro e w1 ⟨rfl, hx⟩
  rw [HD.out]
  have HX := Lib.hid hx
  clear hx HD
  go_wp2_with fail
  exact ret_two rfl rfl rfl rfl ⟨rfl, HX.out⟩
set_option maxRecDepth 100000 in
set_option maxHeartbeats 4000000 in
theorem c_uDecode0 (w : World) :
    Calls Tryz.prog 148 #[.string ⟨#[]⟩] w fun e w' => e = .returned (.tuple #[.int .i32 0, .int .i64 0]) ∧ w' = w := by
  have hne := emp_true
  go_enter Tryz.func148, Tryz.ntmps148
  go_wp2_with fail
  exact ret_two rfl rfl rfl rfl ⟨rfl, rfl⟩
/-- May cells be counted so? -/
def CellOk (a t st : Int) : Prop := 1 ≤ a ∧ a ≤ 2 ∧ 1 ≤ t ∧ t ≤ 64 ∧ 0 ≤ st ∧ st ≤ 1073741824
instance (a t st : Int) : Decidable (CellOk a t st) := by unfold CellOk; infer_instance
def cellV (a t st : Int) : Value := .agg #[.int .i64 a, .int .i64 t, .int .i64 st]
set_option maxRecDepth 100000 in
set_option maxHeartbeats 4000000 in
theorem c_wCheck (a t st : Int) (w : World) :
    Calls Tryz.prog 46 #[.agg #[.int .i64 a, .int .i64 t, .int .i64 st]] w fun e w' => e = .returned (.int .i64 (if CellOk a t st then 0 else 2)) ∧ Ext w w' := by
  obtain ⟨v, hv⟩ : ∃ v : Int, (if CellOk a t st then 0 else 2) = v := ⟨_, rfl⟩
  rw [hv]
  have HV := Lib.hid hv
  clear hv
  go_enter Tryz.func46, Tryz.ntmps46
  go_wp2_with fail
  all_goals exact ret_one rfl rfl rfl ⟨congrArg (fun n => Ending.returned (.int .i64 n)) (by rw [← HV.out]; first | exact (if_pos (by unfold CellOk; omega)).symm | exact (if_neg (by unfold CellOk; omega)).symm), (Ext.refl w).alloc _⟩
set_option maxRecDepth 100000 in
set_option maxHeartbeats 4000000 in
theorem c_wends (s : ByteArray) (w : World) (hT : TabsW w) (hs : s.size ≠ 0) :
    Calls Tryz.prog 116 #[.string s] w fun e w' => e = .returned (.bool (enT s.data.toList)) ∧ Ext w w' := by
  have hne := emp_false (s := s) (by omega)
  have HD := Lib.hid (c_uDecode s w hT hs)
  obtain ⟨r, hr⟩ : ∃ r, run s.data.toList = r := ⟨_, rfl⟩
  have HE := Lib.hid (show enT s.data.toList = endR r by
    unfold enT
    rw [runesOf_step _ (size_ne hs), ← hr]
    rfl)
  rw [hr] at HD
  clear hr
  go_enter Tryz.func116, Tryz.ntmps116
  go_wp2_with fail
  refine HD.out.mono ?_
  rintro e w1 ⟨rfl, hx⟩
  have HX := Lib.hid hx
  clear hx HD
  go_wp2_with fail
  all_goals exact ret_one rfl rfl rfl ⟨congrArg (fun b => Ending.returned (.bool b)) (by rw [HE.out, Bool.eq_iff_iff]; simp [endR]; omega), HX.out⟩
theorem DbIs.look {W : World} {db : Nat} {N : List (List UInt8)} {D : List (Nat × Nat × Nat)} (h : DbIs W db N D) (hnd : N.Nodup) {j : Nat} (hj : j < N.length) :
    ∃ nv mb sv rv, W.heap[db]? = some (.cells #[nv, .map (some mb), sv, rv] 104 (0, 0)) ∧ (Instr.lookup 100 (.map (some mb)) (.string ⟨N[j].toArray⟩) true).run Tryz.prog W = .ok (.tuple #[.int .i64 (j : Nat), .bool true]) W := by
  obtain ⟨nv, mb, sv, rv, a, _, c, _⟩ := h.ex
  refine ⟨nv, mb, sv, rv, a, ?_⟩
  have hin := nameKV_at N 0 j hj
  rw [Nat.zero_add] at hin
  refine c.there (string_keyed Tryz.underlying9) Tryz.underlying100 (fun p hp => ?_) (key_str _ (h.w _ (List.getElem_mem hj))) (fun W => Tryz.zeroValue3 W) hin (fun v' hv => ?_) true
  · obtain ⟨i, hi, rfl⟩ := nameKV_mem _ _ _ hp
    exact ⟨_, key_str _ (h.w _ (List.getElem_mem hi))⟩
  · obtain ⟨i, hi, e⟩ := nameKV_mem _ _ _ hv
    obtain ⟨e1, e2⟩ := Prod.mk.inj e
    have e3 := str_inj e1
    have : j = i := (List.getElem_inj hnd).1 e3
    rw [e2, this]
    simp
set_option maxRecDepth 100000 in
set_option maxHeartbeats 4000000 in
theorem c_dClass (db : Nat) (N : List (List UInt8)) (D : List (Nat × Nat × Nat)) (w : World) (h : DbIs w db N D) (hnd : N.Nodup) (j : Nat) (x : List UInt8) (hj : N[j]? = some x) :
    Calls Tryz.prog 83 #[.pointer (some ⟨db, 0, none⟩), .string ⟨x.toArray⟩] w fun e w' => e = .returned (.tuple #[.int .i64 (j : Nat), .bool true]) ∧ Ext w w' := by
  obtain ⟨hjl, hjx⟩ := List.getElem?_eq_some_iff.1 hj
  obtain ⟨nv, mb, sv, rv, a, c⟩ := h.look hnd hjl
  rw [hjx] at c
  have k1 := (cell_blk a 1).trans rfl
  clear hj hjl hjx a
  go_enter Tryz.func83, Tryz.ntmps83
  go_wp2_with fail
  exact ret_two rfl rfl rfl rfl ⟨rfl, Ext.refl _⟩
/-- The book of classes: how cells are counted, the two databases. -/
def BookIs (W : World) (bk : Nat) (a t st : Int) : Prop := ∃ dw dg, W.heap[bk]? = some (.cells #[.int .i64 a, .int .i64 t, .int .i64 st, .pointer (some ⟨dw, 0, none⟩), .pointer (some ⟨dg, 0, none⟩), .int .i64 1, .int .i64 3, .int .i64 4, .int .i64 12, .int .i64 13] 147 (0, 0)) ∧ DbIs W dw (namesP textWp.data.toList) rngW ∧ DbIs W dg (namesP textGp.data.toList) rngG
theorem BookIs.ext {W W' : World} {bk : Nat} {a t st : Int} (h : BookIs W bk a t st) (hx : Ext W W') : BookIs W' bk a t st := by
  obtain ⟨dw, dg, h1, h2, h3⟩ := h
  exact ⟨dw, dg, hx.blk h1, h2.ext hx, h3.ext hx⟩
theorem nmW1 : (namesP textWp.data.toList)[1]? = some [90, 101, 114, 111] := by kernel_rfl
theorem nmW3 : (namesP textWp.data.toList)[3]? = some [87, 105, 100, 101] := by kernel_rfl
theorem nmW4 : (namesP textWp.data.toList)[4]? = some [65, 109, 98, 105, 103, 117, 111, 117, 115] := by kernel_rfl
theorem nmG12 : (namesP textGp.data.toList)[12]? = some [80, 105, 99, 116] := by kernel_rfl
theorem nmG13 : (namesP textGp.data.toList)[13]? = some [70, 108, 97, 103] := by kernel_rfl
theorem nodW : (namesP textWp.data.toList).Nodup := (textB_spec textWp_ok).names
theorem nodG : (namesP textGp.data.toList).Nodup := (textB_spec textGp_ok).names
theorem DbIs.set {W : World} {db : Nat} {N : List (List UInt8)} {D : List (Nat × Nat × Nat)} (h : DbIs W db N D) (hD : D ≠ []) {bk : Nat} {c : Array Value} {z : Nat × Nat} {a : Int} (hb : W.heap[bk]? = some (.cells c 147 z)) (hc : c[0]? = some (.int .i64 a)) (i : Nat) (v : Value) : DbIs (W.setCell ⟨bk, i, none⟩ v) db N D := by
  have hg := grown_cell W bk i v
  obtain ⟨nv, mb, sv, rv, h1, ⟨B, h2⟩, h3, h4⟩ := h.ex
  refine ⟨⟨nv, mb, sv, rv, (hg.block _ (blk_lt h1) ?_).trans h1, ⟨B, h2.kept hg ?_⟩, h3.kept hg ?_, h4.but hg ?_⟩, h.w⟩
  · intro e
    have e2 := Option.some.inj e
    subst e2
    rw [h1] at hb
    cases hb
  · rcases h2.2 with ⟨rfl, _⟩ | ⟨g, cap, cur, rfl, _, hgb, _⟩
    · exact .inl rfl
    · refine .inr fun e => ?_
      obtain rfl : g = bk := by simpa [Value.ownBlock] using e
      rw [hb] at hgb
      cases hgb
  · intro e
    have e2 := Option.some.inj e
    subst e2
    obtain ⟨_, _, h5, _⟩ := h3
    rw [hb] at h5
    cases h5
  · intro g hg2 e
    subst e
    obtain ⟨p, cap, rfl, _, h5⟩ := h4
    obtain ⟨g', rfl, h6⟩ := h5 hD
    obtain rfl : g' = g := by simpa [Value.ownBlock] using hg2
    have h7 := (h6 0 (List.length_pos_iff.2 hD)).1
    rw [cell_blk hb, hc] at h7
    cases h7
theorem rngW_ne : rngW ≠ [] := by
  intro e
  have h : (!rngW.isEmpty) = true := by kernel_rfl
  rw [e] at h
  cases h
theorem rngG_ne : rngG ≠ [] := by
  intro e
  have h : (!rngG.isEmpty) = true := by kernel_rfl
  rw [e] at h
  cases h
set_option maxRecDepth 100000 in
set_option maxHeartbeats 8000000 in
theorem c_wopen (a t st : Int) (w : World) (hT : TabsW w) :
    Calls Tryz.prog 60 #[.agg #[.int .i64 a, .int .i64 t, .int .i64 st]] w fun e w' => ∃ bk, e = .returned (.pointer (some ⟨bk, 0, none⟩)) ∧ BookIs w' bk a t st ∧ Ext w w' := by
  have HT := Lib.hid hT
  have hb := World.alloc_heap_new (w.alloc (.cells #[.int .i64 a, .int .i64 t, .int .i64 st] 48)) (.cells #[.int .i64 a, .int .i64 t, .int .i64 st, .pointer none, .pointer none, .int .i64 0, .int .i64 0, .int .i64 0, .int .i64 0, .int .i64 0] 147)
  have hx0 := ((Ext.refl w).alloc (.cells #[.int .i64 a, .int .i64 t, .int .i64 st] 48)).alloc (.cells #[.int .i64 a, .int .i64 t, .int .i64 st, .pointer none, .pointer none, .int .i64 0, .int .i64 0, .int .i64 0, .int .i64 0, .int .i64 0] 147)
  rw [World.size_alloc] at hb
  go_enter Tryz.func60, Tryz.ntmps60
  go_wp2_with fail
  generalize (w.alloc _).alloc _ = w1 at hb hx0 ⊢
  have hsb : w.heap.size ≤ w.heap.size + 1 := Nat.le_succ _
  have HSB := Lib.hid hsb
  clear hsb
  generalize w.heap.size + 1 = bk at *
  refine calls_arg (v := .string ⟨textWp.data.toList.toArray⟩) (by kernel_rfl) ((c_New textWp.data.toList w1 (HT.out.ext hx0) (textB_spec textWp_ok)).mono ?_)
  rintro e w2 ⟨dw, rfl, hd, hx2⟩
  have HD := Lib.hid hd
  have HX := Lib.hid (Ext.trans hx0 hx2)
  have HB := Lib.hid (hx2.blk hb)
  clear hb hx0 hd hx2
  have kf := frz_blk HB.out 3
  have kc := (cell_blk HB.out 3).trans rfl
  go_wp2_with fail
  have HB' := Lib.hid (show (w2.setCell ⟨bk, 3, none⟩ (.pointer (some ⟨dw, 0, none⟩))).heap[bk]? = some (.cells #[.int .i64 a, .int .i64 t, .int .i64 st, .pointer (some ⟨dw, 0, none⟩), .pointer none, .int .i64 0, .int .i64 0, .int .i64 0, .int .i64 0, .int .i64 0] 147 (0, 0)) from set_blk HB.out 3 _)
  have HX' := Lib.hid (Ext.setCell HX.out HSB.out (.pointer (some ⟨dw, 0, none⟩)) : Ext w (w2.setCell ⟨bk, 3, none⟩ (.pointer (some ⟨dw, 0, none⟩))))
  have HD' := Lib.hid (HD.out.set rngW_ne HB.out rfl 3 (.pointer (some ⟨dw, 0, none⟩)))
  clear HB HX HD kf kc
  generalize w2.setCell ⟨bk, 3, none⟩ (.pointer (some ⟨dw, 0, none⟩)) = v3 at HB' HX' HD' ⊢
  refine calls_arg (v := .string ⟨textGp.data.toList.toArray⟩) (by kernel_rfl) ((c_New textGp.data.toList v3 (HT.out.ext HX'.out) (textB_spec textGp_ok)).mono ?_)
  rintro e w3 ⟨dg, rfl, hd, hx3⟩
  have HG := Lib.hid hd
  have HX := Lib.hid (Ext.trans HX'.out hx3)
  have HB := Lib.hid (hx3.blk HB'.out)
  have HD := Lib.hid (HD'.out.ext hx3)
  clear HB' HX' HD' hd hx3
  have kf := frz_blk HB.out 4
  have kc := (cell_blk HB.out 4).trans rfl
  have ke : w3.cell? ⟨bk, 3, none⟩ = some (.pointer (some ⟨dw, 0, none⟩)) := (cell_blk HB.out 3).trans rfl
  go_wp2_with fail
  have HB' := Lib.hid (show (w3.setCell ⟨bk, 4, none⟩ (.pointer (some ⟨dg, 0, none⟩))).heap[bk]? = some (.cells #[.int .i64 a, .int .i64 t, .int .i64 st, .pointer (some ⟨dw, 0, none⟩), .pointer (some ⟨dg, 0, none⟩), .int .i64 0, .int .i64 0, .int .i64 0, .int .i64 0, .int .i64 0] 147 (0, 0)) from set_blk HB.out 4 _)
  have HX' := Lib.hid (Ext.setCell HX.out HSB.out (.pointer (some ⟨dg, 0, none⟩)) : Ext w (w3.setCell ⟨bk, 4, none⟩ (.pointer (some ⟨dg, 0, none⟩))))
  have HD' := Lib.hid (HD.out.set rngW_ne HB.out rfl 4 (.pointer (some ⟨dg, 0, none⟩)))
  have HG' := Lib.hid (HG.out.set rngG_ne HB.out rfl 4 (.pointer (some ⟨dg, 0, none⟩)))
  clear HB HX HD kf kc HG ke
  generalize w3.setCell ⟨bk, 4, none⟩ (.pointer (some ⟨dg, 0, none⟩)) = v4 at HB' HX' HD' HG' ⊢
  have HK := Lib.hid (c_dClass dw _ _ v4 HD'.out nodW 1 [90, 101, 114, 111] nmW1)
  refine HK.out.mono ?_
  rintro e w4 ⟨rfl, hx3⟩
  have HX := Lib.hid (Ext.trans HX'.out hx3)
  have HB := Lib.hid (hx3.blk HB'.out)
  have HD := Lib.hid (HD'.out.ext hx3)
  have HG := Lib.hid (HG'.out.ext hx3)
  clear HB' HX' HD' HG' HK hx3
  have kf := frz_blk HB.out 5
  have kc := (cell_blk HB.out 5).trans rfl
  have ke : w4.cell? ⟨bk, 3, none⟩ = some (.pointer (some ⟨dw, 0, none⟩)) := (cell_blk HB.out 3).trans rfl
  go_wp2_with fail
  have HB' := Lib.hid (show (w4.setCell ⟨bk, 5, none⟩ (.int .i64 1)).heap[bk]? = some (.cells #[.int .i64 a, .int .i64 t, .int .i64 st, .pointer (some ⟨dw, 0, none⟩), .pointer (some ⟨dg, 0, none⟩), .int .i64 1, .int .i64 0, .int .i64 0, .int .i64 0, .int .i64 0] 147 (0, 0)) from set_blk HB.out 5 _)
  have HX' := Lib.hid (Ext.setCell HX.out HSB.out (.int .i64 1) : Ext w (w4.setCell ⟨bk, 5, none⟩ (.int .i64 1)))
  have HD' := Lib.hid (HD.out.set rngW_ne HB.out rfl 5 (.int .i64 1))
  have HG' := Lib.hid (HG.out.set rngG_ne HB.out rfl 5 (.int .i64 1))
  clear HB HX HD kf kc HG ke
  generalize w4.setCell ⟨bk, 5, none⟩ (.int .i64 1) = v5 at HB' HX' HD' HG' ⊢
  have HK := Lib.hid (c_dClass dw _ _ v5 HD'.out nodW 3 [87, 105, 100, 101] nmW3)
  refine HK.out.mono ?_
  rintro e w5 ⟨rfl, hx3⟩
  have HX := Lib.hid (Ext.trans HX'.out hx3)
  have HB := Lib.hid (hx3.blk HB'.out)
  have HD := Lib.hid (HD'.out.ext hx3)
  have HG := Lib.hid (HG'.out.ext hx3)
  clear HB' HX' HD' HG' HK hx3
  have kf := frz_blk HB.out 6
  have kc := (cell_blk HB.out 6).trans rfl
  have ke : w5.cell? ⟨bk, 3, none⟩ = some (.pointer (some ⟨dw, 0, none⟩)) := (cell_blk HB.out 3).trans rfl
  go_wp2_with fail
  have HB' := Lib.hid (show (w5.setCell ⟨bk, 6, none⟩ (.int .i64 3)).heap[bk]? = some (.cells #[.int .i64 a, .int .i64 t, .int .i64 st, .pointer (some ⟨dw, 0, none⟩), .pointer (some ⟨dg, 0, none⟩), .int .i64 1, .int .i64 3, .int .i64 0, .int .i64 0, .int .i64 0] 147 (0, 0)) from set_blk HB.out 6 _)
  have HX' := Lib.hid (Ext.setCell HX.out HSB.out (.int .i64 3) : Ext w (w5.setCell ⟨bk, 6, none⟩ (.int .i64 3)))
  have HD' := Lib.hid (HD.out.set rngW_ne HB.out rfl 6 (.int .i64 3))
  have HG' := Lib.hid (HG.out.set rngG_ne HB.out rfl 6 (.int .i64 3))
  clear HB HX HD kf kc HG ke
  generalize w5.setCell ⟨bk, 6, none⟩ (.int .i64 3) = v6 at HB' HX' HD' HG' ⊢
  have HK := Lib.hid (c_dClass dw _ _ v6 HD'.out nodW 4 [65, 109, 98, 105, 103, 117, 111, 117, 115] nmW4)
  refine HK.out.mono ?_
  rintro e w6 ⟨rfl, hx3⟩
  have HX := Lib.hid (Ext.trans HX'.out hx3)
  have HB := Lib.hid (hx3.blk HB'.out)
  have HD := Lib.hid (HD'.out.ext hx3)
  have HG := Lib.hid (HG'.out.ext hx3)
  clear HB' HX' HD' HG' HK hx3
  have kf := frz_blk HB.out 7
  have kc := (cell_blk HB.out 7).trans rfl
  have ke : w6.cell? ⟨bk, 4, none⟩ = some (.pointer (some ⟨dg, 0, none⟩)) := (cell_blk HB.out 4).trans rfl
  go_wp2_with fail
  have HB' := Lib.hid (show (w6.setCell ⟨bk, 7, none⟩ (.int .i64 4)).heap[bk]? = some (.cells #[.int .i64 a, .int .i64 t, .int .i64 st, .pointer (some ⟨dw, 0, none⟩), .pointer (some ⟨dg, 0, none⟩), .int .i64 1, .int .i64 3, .int .i64 4, .int .i64 0, .int .i64 0] 147 (0, 0)) from set_blk HB.out 7 _)
  have HX' := Lib.hid (Ext.setCell HX.out HSB.out (.int .i64 4) : Ext w (w6.setCell ⟨bk, 7, none⟩ (.int .i64 4)))
  have HD' := Lib.hid (HD.out.set rngW_ne HB.out rfl 7 (.int .i64 4))
  have HG' := Lib.hid (HG.out.set rngG_ne HB.out rfl 7 (.int .i64 4))
  clear HB HX HD kf kc HG ke
  generalize w6.setCell ⟨bk, 7, none⟩ (.int .i64 4) = v7 at HB' HX' HD' HG' ⊢
  have HK := Lib.hid (c_dClass dg _ _ v7 HG'.out nodG 12 [80, 105, 99, 116] nmG12)
  refine HK.out.mono ?_
  rintro e w7 ⟨rfl, hx3⟩
  have HX := Lib.hid (Ext.trans HX'.out hx3)
  have HB := Lib.hid (hx3.blk HB'.out)
  have HD := Lib.hid (HD'.out.ext hx3)
  have HG := Lib.hid (HG'.out.ext hx3)
  clear HB' HX' HD' HG' HK hx3
  have kf := frz_blk HB.out 8
  have kc := (cell_blk HB.out 8).trans rfl
  have ke : w7.cell? ⟨bk, 4, none⟩ = some (.pointer (some ⟨dg, 0, none⟩)) := (cell_blk HB.out 4).trans rfl
  go_wp2_with fail
  have HB' := Lib.hid (show (w7.setCell ⟨bk, 8, none⟩ (.int .i64 12)).heap[bk]? = some (.cells #[.int .i64 a, .int .i64 t, .int .i64 st, .pointer (some ⟨dw, 0, none⟩), .pointer (some ⟨dg, 0, none⟩), .int .i64 1, .int .i64 3, .int .i64 4, .int .i64 12, .int .i64 0] 147 (0, 0)) from set_blk HB.out 8 _)
  have HX' := Lib.hid (Ext.setCell HX.out HSB.out (.int .i64 12) : Ext w (w7.setCell ⟨bk, 8, none⟩ (.int .i64 12)))
  have HD' := Lib.hid (HD.out.set rngW_ne HB.out rfl 8 (.int .i64 12))
  have HG' := Lib.hid (HG.out.set rngG_ne HB.out rfl 8 (.int .i64 12))
  clear HB HX HD kf kc HG ke
  generalize w7.setCell ⟨bk, 8, none⟩ (.int .i64 12) = v8 at HB' HX' HD' HG' ⊢
  have HK := Lib.hid (c_dClass dg _ _ v8 HG'.out nodG 13 [70, 108, 97, 103] nmG13)
  refine HK.out.mono ?_
  rintro e w8 ⟨rfl, hx3⟩
  have HX := Lib.hid (Ext.trans HX'.out hx3)
  have HB := Lib.hid (hx3.blk HB'.out)
  have HD := Lib.hid (HD'.out.ext hx3)
  have HG := Lib.hid (HG'.out.ext hx3)
  clear HB' HX' HD' HG' HK hx3
  have kf := frz_blk HB.out 9
  have kc := (cell_blk HB.out 9).trans rfl
  go_wp2_with fail
  have HB' := Lib.hid (show (w8.setCell ⟨bk, 9, none⟩ (.int .i64 13)).heap[bk]? = some (.cells #[.int .i64 a, .int .i64 t, .int .i64 st, .pointer (some ⟨dw, 0, none⟩), .pointer (some ⟨dg, 0, none⟩), .int .i64 1, .int .i64 3, .int .i64 4, .int .i64 12, .int .i64 13] 147 (0, 0)) from set_blk HB.out 9 _)
  have HX' := Lib.hid (Ext.setCell HX.out HSB.out (.int .i64 13) : Ext w (w8.setCell ⟨bk, 9, none⟩ (.int .i64 13)))
  have HD' := Lib.hid (HD.out.set rngW_ne HB.out rfl 9 (.int .i64 13))
  have HG' := Lib.hid (HG.out.set rngG_ne HB.out rfl 9 (.int .i64 13))
  clear HB HX HD kf kc HG
  generalize w8.setCell ⟨bk, 9, none⟩ (.int .i64 13) = v9 at HB' HX' HD' HG' ⊢
  go_wp2_with fail
  exact ret_one rfl rfl rfl ⟨bk, rfl, ⟨dw, dg, HB'.out, HD'.out, HG'.out⟩, HX'.out⟩
end Go.Proofs.YtlmkbldiicbejaaGreatDoor
