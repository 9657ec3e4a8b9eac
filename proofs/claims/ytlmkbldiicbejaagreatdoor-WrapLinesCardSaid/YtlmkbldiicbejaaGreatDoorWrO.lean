/-
  The boxes of a text; rows.
-/
import Derived.Test.YtlmkbldiicbejaaGreatDoorWrN
import Derived.Test.YtlmkbldiicbejaaGreatDoorWrJ
namespace Go.Proofs.YtlmkbldiicbejaaGreatDoor
open Go.RowKit Go.Rp Go.Maps Go.Cl Go.Shelf Go.Gr Go.Ln

theorem pcW_get : ∀ (l : List Pc) (i : Nat) (h : i < l.length), (pcW l)[i * 5]? = some (.int .i64 (l[i].b.w : Nat)) ∧ (pcW l)[i * 5 + 1]? = some (.int .i64 (l[i].b.b : Nat)) ∧ (pcW l)[i * 5 + 2]? = some (.int .i64 (l[i].b.h : Nat)) ∧ (pcW l)[i * 5 + 3]? = some (.bool l[i].b.m) ∧ (pcW l)[i * 5 + 4]? = some (.int .i64 (l[i].e : Nat))
  | [], i, h => by simp at h
  | x :: l, 0, _ => by simp [pcW]
  | x :: l, i + 1, h => by
    have ih := pcW_get l i (by simpa using h)
    have e : pcW (x :: l) = [.int .i64 (x.b.w : Nat), .int .i64 (x.b.b : Nat), .int .i64 (x.b.h : Nat), .bool x.b.m, .int .i64 (x.e : Nat)] ++ pcW l := by simp [pcW]
    have key : ∀ k, (pcW (x :: l))[(i + 1) * 5 + k]? = (pcW l)[i * 5 + k]? := fun k => by
      rw [e, List.getElem?_append_right (by simp; omega)]
      congr 1
      simp
      omega
    have k0 := key 0
    rw [Nat.add_zero, Nat.add_zero] at k0
    rw [k0, key 1, key 2, key 3, key 4]
    simpa using ih
theorem pcW_len (l : List Pc) : (pcW l).length = l.length * 5 := by
  induction l with
  | nil => rfl
  | cons x l ih =>
    have e : pcW (x :: l) = [.int .i64 (x.b.w : Nat), .int .i64 (x.b.b : Nat), .int .i64 (x.b.h : Nat), .bool x.b.m, .int .i64 (x.e : Nat)] ++ pcW l := by simp [pcW]
    rw [e, List.length_append, ih]
    simp
    omega
theorem Tryz.infoBx : (Tryz.prog.info? 45).map (fun i => (i.zero, i.size, i.bytes)) = some (some (.agg #[.int .i64 0, .int .i64 0, .int .i64 0, .bool false]), 4, 32) := by kernel_rfl
set_option maxRecDepth 100000 in
set_option maxHeartbeats 2000000 in
theorem c_Boxes (a tb st : Nat) (s : ByteArray) (w : World) (ho : CellOk a tb st) (hT : TabsW w) (hz : s.size ≤ 4000) :
    Calls Tryz.prog 39 #[.string s, .agg #[.int .i64 (a : Nat), .int .i64 (tb : Nat), .int .i64 (st : Nat)]] w fun e w' => ∃ v, e = .returned (.tuple #[v, .int .i64 0]) ∧ w'.ownsRow w.heap.size 45 4 v (pcS a tb s 0 (chK s)).length (bxW ((pcS a tb s 0 (chK s)).map fun p => bxI p.b)) ∧ Ext w w' := by
  have HP := Lib.hid (fun W (h : Ext w W) => c_pieces a tb st s W ho (hT.ext h) hz)
  have hlen : (pcS a tb s 0 (chK s)).length ≤ 4001 := by rw [pcS_len]; have := chK_len s; omega
  generalize pcS a tb s 0 (chK s) = L at HP hlen ⊢
  have hlI : ((L.length : Nat) : Int) ≤ 4001 := by omega
  go_enter Tryz.func39, Tryz.ntmps39
  go_wp2_with fail
  have hx0 := (Ext.refl w).alloc (.cells #[.int .i64 (a : Nat), .int .i64 (tb : Nat), .int .i64 (st : Nat)] 48)
  generalize w.alloc (.cells #[.int .i64 (a : Nat), .int .i64 (tb : Nat), .int .i64 (st : Nat)] 48) = w0 at hx0 ⊢
  refine (HP.out w0 hx0).mono ?_
  rintro e w1 ⟨v, rfl, hown, hx1⟩
  have HR := Lib.hid hown
  have HX1 := Lib.hid (hx0.trans hx1)
  obtain ⟨p, cap, rfl⟩ := own_slice hown
  clear hown hx1 hx0 HP
  go_wp2_with fail
  obtain ⟨Y, hY⟩ : ∃ Y, w1.heap.size = Y := ⟨_, rfl⟩
  have HY := Lib.hid hY
  clear hY
  go_loopw [8, 10, 19] (fun ov _ iv W => ∃ i : Nat, iv = .int .i64 (i : Nat) ∧ i ≤ L.length ∧ Hid (W.ownsRow Y 45 4 ov i (bxW ((L.take i).map fun p => bxI p.b))) ∧ Hid (Ext w1 W)) (fun _ _ iv _ => L.length + 1 - (intOf iv).toNat)
  case atStart => exact ⟨0, rfl, Nat.zero_le _, Lib.hid (by simpa [bxW] using World.ownsRow_nil _ _ _ _), Lib.hid (Ext.refl _)⟩
  case round =>
    obtain ⟨i, rfl, hi, HO, HX⟩ := hrel
    obtain ⟨W, rfl⟩ : ∃ W, W = wr := ⟨_, rfl⟩
    obtain ⟨po, co, rfl⟩ := own_slice HO.out
    by_cases hlt : i < L.length
    · have hI : ((i : Nat) : Int) < (L.length : Nat) := by omega
      have hd : decide (i < L.length) = true := decide_eq_true hlt
      obtain ⟨g, rfl, _, _, hgc⟩ := own_at HR.out (by omega)
      obtain ⟨e0, e1, e2, e3, e4⟩ := pcW_get L i hlt
      have d0 := HX.out.cell ((hgc (i * 5) (by omega)).trans e0)
      have d1 := HX.out.cell ((hgc (i * 5 + 1) (by omega)).trans e1)
      have d2 := HX.out.cell ((hgc (i * 5 + 2) (by omega)).trans e2)
      have d3 := HX.out.cell ((hgc (i * 5 + 3) (by omega)).trans e3)
      have d4 := HX.out.cell ((hgc (i * 5 + 4) (by omega)).trans e4)
      have HTK := Lib.hid (show L.take (i + 1) = L.take i ++ [L[i]] from List.take_succ_eq_append_getElem hlt)
      generalize L[i] = x at d0 d1 d2 d3 d4 HTK
      obtain ⟨⟨xw, xb, xh, xm⟩, xe⟩ := x
      simp only at d0 d1 d2 d3 d4
      clear hgc e0 e1 e2 e3 e4
      go_wp2_with (at_builtin; refine Hid.out ?_)
      have hxa := (Ext.refl W).alloc (.cells #[.int .i64 (xw : Nat), .int .i64 (xb : Nat), .int .i64 (xh : Nat), .bool xm, .int .i64 (xe : Nat)] 76)
      have HS1 := Lib.hid (show W.heap.size + 1 = (W.alloc (.cells #[.int .i64 (xw : Nat), .int .i64 (xb : Nat), .int .i64 (xh : Nat), .bool xm, .int .i64 (xe : Nat)] 76)).heap.size by rw [World.size_alloc])
      generalize W.alloc (.cells #[.int .i64 (xw : Nat), .int .i64 (xb : Nat), .int .i64 (xh : Nat), .bool xm, .int .i64 (xe : Nat)] 76) = W1 at hxa HS1 ⊢
      have hsz1 : W.heap.size + 1 = W1.heap.size := HS1.out
      have hnew := World.alloc_heap_new W1 (.cells #[.int .i64 (xw : Nat), .int .i64 (xb : Nat), .int .i64 (xh : Nat), .bool xm] 45)
      rw [← hsz1] at hnew
      have hxb := hxa.alloc (.cells #[.int .i64 (xw : Nat), .int .i64 (xb : Nat), .int .i64 (xh : Nat), .bool xm] 45)
      have ho1 := ownsRow_ext HO.out hxb
      obtain ⟨i0, hi0, hz0, hz1, hz3⟩ := info_parts Tryz.infoBx
      refine wpList_append_own_at _ rfl (.tmp 23) (.tmp 26) 22 rfl Y 45 i0 (.agg #[.int .i64 0, .int .i64 0, .int .i64 0, .bool false]) 4 32 Tryz.underlying22 hi0 hz0 hz1 hz3 rfl (by decide) (.slice po i co) i _ rfl ho1 ⟨W.heap.size + 1, 0, none⟩ 1 1 [.int .i64 (xw : Nat), .int .i64 (xb : Nat), .int .i64 (xh : Nat), .bool xm] rfl rfl (World.news_of_block hnew) (by intro u hu; simp at hu; rcases hu with rfl | rfl | rfl | rfl <;> rfl) (by unfold maxLen; omega) (by omega) (by rw [← HY.out]; exact (HX.out.trans hxb).sz) ?_
      intro v' w9 g1 g2 _ g4
      obtain ⟨p10, c10, rfl⟩ := own_slice g1
      have hX9 := HX.out.trans hxb
      have HX10 := Lib.hid (show Ext w1 w9 from Below.grown hX9 g2 hX9.sz (fun k e => by have := (ho1.lt k e).1; rw [HY.out]; exact this))
      have HO10 := Lib.hid g1
      clear hxa hxb ho1 g1 g2 g4 hX9 hnew hsz1
      go_wp2_with fail
      refine ⟨⟨i + 1, by simp, by omega, Lib.hid ?_, HX10⟩, by simp only [intOf]; omega⟩
      rw [HTK.out, List.map_append, bxW_app]
      exact HO10.out
    · have hI : ¬ ((i : Nat) : Int) < (L.length : Nat) := by omega
      have hd : decide (i < L.length) = false := decide_eq_false hlt
      obtain rfl : i = L.length := by omega
      go_wp2_with fail
      refine ret_two rfl rfl rfl rfl ⟨_, rfl, ?_, HX1.out.trans HX.out⟩
      have h2 := own_lower HO.out (show w.heap.size ≤ Y by rw [← HY.out]; exact HX1.out.sz)
      rw [List.take_length] at h2
      exact h2
set_option maxRecDepth 100000 in
set_option maxHeartbeats 2000000 in
theorem c_pars0 (p : Option Addr) (cap : Nat) (W F R H : Int) (w : World) :
    Calls Tryz.prog 26 #[.slice p 0 cap, .agg #[.int .i64 W, .int .i64 F, .int .i64 R, .int .i64 H]] w fun e w' => e = .returned (.slice none 0 0) ∧ Ext w w' := by
  go_enter Tryz.func26, Tryz.ntmps26
  go_wp2_with fail
  have hx0 := (Ext.refl w).alloc (.cells #[.int .i64 W, .int .i64 F, .int .i64 R, .int .i64 H] 24)
  generalize w.alloc (.cells #[.int .i64 W, .int .i64 F, .int .i64 R, .int .i64 H] 24) = w0 at hx0 ⊢
  have HX0 := Lib.hid hx0
  clear hx0
  go_loopw [5, 6, 7, 8, 11] (fun ov _ _ _ iv W' => ov = .slice none 0 0 ∧ iv = .int .i64 0 ∧ Hid (Ext w W')) (fun _ _ _ _ _ _ => 0)
  case atStart => exact ⟨rfl, rfl, HX0⟩
  case round =>
    obtain ⟨rfl, rfl, HX⟩ := hrel
    go_wp2_with fail
    exact ret_one rfl rfl rfl ⟨rfl, HX.out⟩
set_option maxRecDepth 100000 in
set_option maxHeartbeats 2000000 in
/-- Boxes that may not be so, or none: no lines. -/
theorem c_Lines0 (v : Value) (l : List BxI) (W F R H : Int) (w : World) (h : BxRow w v l) (he : (chkK l W F R H).1 ≠ 0 ∨ l = []) :
    Calls Tryz.prog 14 #[v, .agg #[.int .i64 W, .int .i64 F, .int .i64 R, .int .i64 H]] w fun e w' => e = .returned (.tuple #[.slice none 0 0, .int .i64 (chkK l W F R H).1]) ∧ Ext w w' := by
  have HC := Lib.hid (fun W' (h' : Ext w W') => c_wrCheck v l W F R H W' (h.ext h'))
  have HP := Lib.hid (fun p cap W' => c_pars0 p cap W F R H W')
  obtain ⟨p, cap, rfl, _, _⟩ := h
  generalize hc : chkK l W F R H = c at HC he ⊢
  have HE := Lib.hid he
  clear he
  go_enter Tryz.func14, Tryz.ntmps14
  go_wp2_with fail
  have hx0 := (Ext.refl w).alloc (.cells #[.int .i64 W, .int .i64 F, .int .i64 R, .int .i64 H] 24)
  have hbo := World.alloc_heap_new w (.cells #[.int .i64 W, .int .i64 F, .int .i64 R, .int .i64 H] 24)
  generalize w.alloc (.cells #[.int .i64 W, .int .i64 F, .int .i64 R, .int .i64 H] 24) = w0 at hx0 hbo ⊢
  generalize w.heap.size = tb at hbo ⊢
  refine (HC.out w0 hx0).mono ?_
  rintro e w1 ⟨rfl, hx1⟩
  obtain ⟨c1, c2⟩ := c
  have HX1 := Lib.hid (hx0.trans hx1)
  have hb1 := hx1.blk hbo
  simp only
  by_cases h0 : c1 = 0
  · subst h0
    have hl : l = [] := HE.out.resolve_left (fun h => h rfl)
    subst hl
    have m0 : w1.cell? ⟨tb, 0, none⟩ = some (.int .i64 W) := (cell_blk hb1 0).trans rfl
    have m1 : w1.cell? ⟨tb, 1, none⟩ = some (.int .i64 F) := (cell_blk hb1 1).trans rfl
    have m2 : w1.cell? ⟨tb, 2, none⟩ = some (.int .i64 R) := (cell_blk hb1 2).trans rfl
    have m3 : w1.cell? ⟨tb, 3, none⟩ = some (.int .i64 H) := (cell_blk hb1 3).trans rfl
    clear hx0 hx1 hbo hb1 hc HE HC
    simp only [List.length_nil]
    go_wp2_with fail
    refine (HP.out p cap w1).mono ?_
    rintro e w2 ⟨rfl, hx2⟩
    have HX2 := Lib.hid (HX1.out.trans hx2)
    clear hx2 m0 m1 m2 m3
    go_wp2_with fail
    go_loopw [8, 10, 24] (fun ov _ iv W' => ov = .slice none 0 0 ∧ iv = .int .i64 0 ∧ Hid (Ext w W')) (fun _ _ _ _ => 0)
    case atStart => exact ⟨rfl, rfl, HX2⟩
    case round =>
      obtain ⟨rfl, rfl, HX⟩ := hrel
      go_wp2_with fail
      exact ret_two rfl rfl rfl rfl ⟨rfl, HX.out⟩
  · have hb : (c1 == 0) = false := beq_eq_false_iff_ne.2 h0
    clear hx0 hx1 hbo hb1 hc h0
    go_wp2_with fail
    exact ret_two rfl rfl rfl rfl ⟨rfl, HX1.out⟩
end Go.Proofs.YtlmkbldiicbejaaGreatDoor
