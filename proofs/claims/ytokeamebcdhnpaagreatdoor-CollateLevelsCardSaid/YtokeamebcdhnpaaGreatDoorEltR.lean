/-
 A row of elements is copied and turned round.
-/
import Derived.Test.YtokeamebcdhnpaaGreatDoorColD
namespace Go.Proofs.YtokeamebcdhnpaaGreatDoor
open Go.RowKit Go.Rp Go.Shelf Go.Maps Go.Cl

/-- Elements in a block, behind nothing, ahead of others. -/
def ArrC (W : World) (g : Nat) (R : List El) (post : List Value) : Prop := W.heap[g]? = some (.cells (elW R ++ post).toArray 59 (0, 0))
theorem ArrC.get {W : World} {g : Nat} {post : List Value} {R : List El} (h : ArrC W g R post) {i : Nat} (hi : i < R.length) :
  W.cell? ⟨g, i * 3, none⟩ = some (.int .i64 (R[i].1 : Nat)) ∧ W.cell? ⟨g, i * 3 + 1, none⟩ = some (.int .i64 (R[i].2.1 : Nat)) ∧ W.cell? ⟨g, i * 3 + 2, none⟩ = some (.int .i64 (R[i].2.2 : Nat)) := by
 obtain ⟨h1, h2, h3⟩ := elW_at R i hi
 have hl := elW_len R
 refine ⟨?_, ?_, ?_⟩
 ·rw [cell_blk h, List.getElem?_toArray, List.getElem?_append_left (by omega), h1]
 ·rw [cell_blk h, List.getElem?_toArray, List.getElem?_append_left (by omega), h2]
 ·rw [cell_blk h, List.getElem?_toArray, List.getElem?_append_left (by omega), h3]
theorem ArrC.of_own {W : World} {B : Nat} {v : Value} {l : List El} (h : W.ownsRow B 59 3 v l.length (elW l)) (hne : l ≠ []) : ∃ g cap post, v = .slice (some ⟨g, 0, none⟩) l.length cap ∧ l.length ≤ cap ∧ B ≤ g ∧ ArrC W g l post := by
 rcases h.2 with ⟨e, h0⟩ | ⟨g, cap, cur, e, hb, hgb, hcap, _, hcs, htk⟩
 ·exact absurd (List.length_eq_zero_iff.1 h0) hne
 ·refine ⟨g, cap, cur.toList.drop (l.length * 3), e, hcap, hb, ?_⟩
  unfold ArrC
  rw [hgb, ← htk]
  simp
def setC (W : World) (g i : Nat) (x : El) : World := ((W.setCell ⟨g, i * 3, none⟩ (.int .i64 (x.1 : Nat))).setCell ⟨g, i * 3 + 1, none⟩ (.int .i64 (x.2.1 : Nat))).setCell ⟨g, i * 3 + 2, none⟩ (.int .i64 (x.2.2 : Nat))
theorem elW_set (m : List El) : ∀ (i : Nat) (x : El), i < m.length → (((elW m).set (i * 3) (.int .i64 (x.1 : Nat))).set (i * 3 + 1) (.int .i64 (x.2.1 : Nat))).set (i * 3 + 2) (.int .i64 (x.2.2 : Nat)) = elW (m.set i x) := by
 induction m with
 | nil => intro i x h; cases h
 | cons y m ih =>
  intro i x h
  cases i with
  | zero => rfl
  | succ i =>
   have := ih i x (by simpa using h)
   show (((_ :: _ :: _ :: elW m).set _ _).set _ _).set _ _ = _ :: _ :: _ :: elW (m.set i x)
   rw [← this, show (i + 1) * 3 = i * 3 + 1 + 1 + 1 by omega, show i * 3 + 1 + 1 + 1 + 1 = (i * 3 + 1) + 1 + 1 + 1 by omega, show i * 3 + 1 + 1 + 1 + 2 = (i * 3 + 2) + 1 + 1 + 1 by omega]
   rfl
theorem ArrC.set {W : World} {g : Nat} {post : List Value} {R : List El} (h : ArrC W g R post) {i : Nat} (hi : i < R.length) (x : El) : ArrC (setC W g i x) g (R.set i x) post := by
 have hl := elW_len R
 have h1 := set_blk (set_blk (set_blk h (i * 3) (.int .i64 (x.1 : Nat))) (i * 3 + 1) (.int .i64 (x.2.1 : Nat))) (i * 3 + 2) (.int .i64 (x.2.2 : Nat))
 unfold ArrC setC
 rw [h1]
 have e : (((elW R ++ post).set (i * 3) (.int .i64 (x.1 : Nat))).set (i * 3 + 1) (.int .i64 (x.2.1 : Nat))).set (i * 3 + 2) (.int .i64 (x.2.2 : Nat)) = elW (R.set i x) ++ post := by
  rw [List.set_append_left _ _ (by omega), List.set_append_left _ _ (by simp; omega), List.set_append_left _ _ (by simp; omega), elW_set R i x hi]
 rw [← e]
 simp
theorem setC_ext {W0 W : World} (h : Ext W0 W) {g : Nat} (hg : W0.heap.size ≤ g) (i : Nat) (x : El) : Ext W0 (setC W g i x) := ((h.setCell hg _).setCell hg _).setCell hg _
theorem wpList_storeC {ops : Array Oper} {rest : List Oper} {o : Oper} {a : Act} {w : World} {Q : Exit → Act → World → Prop} (hg : o.guard = none) (x y : Operand) (ho : o.op = .store 59 x y)
  {g i : Nat} {post : List Value} {R : List El} (r : El) (hx : a.eval x = .pointer (some ⟨g, i * 3, none⟩)) (hy : a.eval y = elA r) (h : ArrC w g R post) (hn : i < R.length)
  (hK : wpList Tryz.prog ops Q rest (a.put o.dst undef) (setC w g i r)) : wpList Tryz.prog ops Q (o :: rest) a w := by
 refine wpList_plain hg fun K' hK' => ?_
 obtain ⟨g1, g2, g3⟩ := h.get hn
 have hrun : (Instr.storeAt 59 (.pointer (some ⟨g, i * 3, none⟩)) (elA r)).run Tryz.prog w = .ok () (setC w g i r) := by
  simp only [Instr.storeAt, Instr.sureAddr, Sem.run_bind, Sem.run_pure, Result.andThen]
  have hst := run_storeCells_cells (P := Tryz.prog) g (i * 3) [.int .i64 (r.1 : Nat), .int .i64 (r.2.1 : Nat), .int .i64 (r.2.2 : Nat)] 0 w (fun j hj => by
   have hj3 : j < 3 := hj
   match j, hj3 with
   | 0, _ => exact congrArg Option.isSome g1
   | 1, _ => exact congrArg Option.isSome g2
   | 2, _ => exact congrArg Option.isSome g3) (fun j _ => frz_blk h _) (by intro v hv; simp at hv; rcases hv with rfl | rfl | rfl <;> rfl)
  have hv : (sizeOf 59).run Tryz.prog w = .ok 3 w := Tryz.sizeOf59 w
  unfold storeVar
  simp only [Sem.run_bind, hv, Result.andThen]
  have e : (elA r).cells.size = 3 := rfl
  simp only [e, ne_eq, not_true_eq_false, if_false]
  exact hst
 unfold Oper.wp
 simp [execOp, ho, hx, hy, hrun, Result.andThen]
 exact hK' _ _ hK
set_option maxRecDepth 100000 in
set_option maxHeartbeats 4000000 in
theorem c_Clone (v : Value) (l : List El) (w : World) (h : ElRow w v l) (hl : l.length ≤ 50000000) :
  Calls Tryz.prog 36 #[v] w fun e w' => ∃ v', e = .returned v' ∧ w'.ownsRow w.heap.size 59 3 v' l.length (elW l) ∧ Ext w w' := by
 have q22 : ∀ (w : World) (a : Option Addr) (n c n' c' : Nat), (binOp .eql 28 (.slice a n c) (.slice none n' c')).run Tryz.prog w = .ok (.bool a.isNone) w := fun w a n c n' c' => Lib.run_eql_slice_nil w _ _ a n c n' c' Tryz.underlying28
 obtain ⟨i0, hi0, hz0, hz1, hz3⟩ := info_parts Tryz.infoEl
 rcases h with ⟨rfl, rfl⟩ | ⟨g, cap, rfl, hcap, hcel⟩
 ·go_enter Tryz.func36, Tryz.ntmps36
  go_wp2_with fail
  go_ret
  exact ⟨_, rfl, World.ownsRow_nil _ _ _ _, Ext.refl _⟩
 ·go_enter Tryz.func36, Tryz.ntmps36
  go_wp2_with (at_builtin; refine Hid.out ?_)
  refine Lib.hid ?_
  refine wpList_apps rfl (.tmp 5) (.tmp 6) 28 rfl 59 i0 (.agg #[.int .i64 0, .int .i64 0, .int .i64 0]) 3 24 Tryz.underlying28 hi0 hz0 hz1 hz3 rfl (by decide) rfl (W0 := w) (World.ownsRow_made w #[] 0 (Nat.le_refl _) (Nat.zero_le _) rfl) ((Ext.refl _).alloc _) (elW l) g 0 l.length cap rfl (elW_len l) ?a1 (elW_one l) ?a2 (by decide) ?_
  case a1 =>
   intro j hj
   rw [elW_len] at hj
   obtain ⟨q, r, rfl, hr⟩ : ∃ q r, j = q * 3 + r ∧ r < 3 := ⟨j / 3, j % 3, by omega, by omega⟩
   have hq : q < l.length := by omega
   obtain ⟨h1, h2, h3⟩ := hcel q hq
   obtain ⟨k1, k2, k3⟩ := elW_at l q hq
   rw [Nat.zero_add]
   match r, hr with
   | 0, _ =>
    rw [← List.getElem?_eq_getElem, Nat.add_zero, k1]
    exact ((Ext.refl w).alloc _).cell h1
   | 1, _ =>
    rw [← List.getElem?_eq_getElem, k2]
    exact ((Ext.refl w).alloc _).cell h2
   | 2, _ =>
    rw [← List.getElem?_eq_getElem, k3]
    exact ((Ext.refl w).alloc _).cell h3
  case a2 => omega
  intro v' w9 hown9 hx9 _
  have HO := Lib.hid (And.intro (show w9.ownsRow w.heap.size 59 3 v' l.length (elW l) by simpa using hown9) hx9)
  clear hown9 hx9 hcel
  go_wp2_with fail
  exact ret_one rfl rfl rfl ⟨_, rfl, HO.out.1, HO.out.2⟩
/-- The ends of a row have changed places, so many. -/
def Rev (l R : List El) (i : Nat) : Prop := R.length = l.length ∧ ∀ k (h : k < l.length) (h' : k < R.length), R[k] = if k < i ∨ l.length - 1 - i < k then l[l.length - 1 - k]'(by omega) else l[k]
theorem Rev.start (l : List El) : Rev l l 0 := ⟨rfl, fun k h h' => by rw [if_neg (by omega)]⟩
theorem Rev.step {l R : List El} {i b : Nat} {x y : El} (h : Rev l R i) (hb : b = l.length - 1 - i) (hib : i < b) (hi : i < R.length) (hbR : b < R.length) (hx : R[i] = x) (hy : R[b] = y) : Rev l ((R.set i y).set b x) (i + 1) := by
 obtain ⟨h1, h2⟩ := h
 refine ⟨by simp [h1], fun k hk hk' => ?_⟩
 have e1 := h2 i (by omega) hi
 have e2 := h2 b (by omega) hbR
 rw [if_neg (by omega), hx] at e1
 rw [if_neg (by omega), hy] at e2
 rw [List.getElem_set]
 by_cases hkb : b = k
 ·subst hkb
  rw [if_pos rfl, if_pos (by omega), e1]
  congr 1
  omega
 ·rw [if_neg hkb, List.getElem_set]
  by_cases hki : i = k
  ·subst hki
   rw [if_pos rfl, if_pos (by omega), e2]
   congr 1
  ·rw [if_neg hki, h2 k hk (by omega)]
   by_cases hc : k < i ∨ l.length - 1 - i < k
   ·rw [if_pos hc, if_pos (by omega)]
   ·rw [if_neg hc, if_neg (by omega)]
theorem Rev.all {l R : List El} {i : Nat} (h : Rev l R i) (hi : (l.length : Int) - 1 - i ≤ i) : R = l.reverse := by
 obtain ⟨h1, h2⟩ := h
 refine List.ext_getElem (by simp [h1]) (fun k hk hk' => ?_)
 rw [h2 k (by omega) hk, List.getElem_reverse]
 by_cases hc : k < i ∨ l.length - 1 - i < k
 ·rw [if_pos hc]
 ·rw [if_neg hc]
  congr 1
  omega
set_option maxRecDepth 100000 in
set_option maxHeartbeats 4000000 in
theorem c_Reverse (g cap : Nat) (post : List Value) (l : List El) (w W0 : World) (h : ArrC w g l post) (hx : Ext W0 w) (hg : W0.heap.size ≤ g) (hl : l.length ≤ 50000000) (_hcap : l.length ≤ cap) :
  Calls Tryz.prog 37 #[.slice (some ⟨g, 0, none⟩) l.length cap] w fun e w' => e = .returned (.tuple #[]) ∧ ArrC w' g l.reverse post ∧ Ext W0 w' := by
 have hlI : ((l.length : Nat) : Int) ≤ 50000000 := by omega
 go_enter Tryz.func37, Tryz.ntmps37
 go_wp2_with fail
 go_loopw [2, 3] (fun iv jv W => ∃ (i : Nat) (z : Int) (R : List El), iv = .int .i64 (i : Nat) ∧ jv = .int .i64 z ∧ Hid (z = (l.length : Nat) - 1 - (i : Nat)) ∧ i ≤ l.length ∧ Hid (Rev l R i) ∧ Hid (ArrC W g R post) ∧ Hid (Ext W0 W)) (fun iv _ _ => l.length + 1 - (intOf iv).toNat)
 case atStart => exact ⟨0, _, l, rfl, rfl, Lib.hid (by omega), by omega, Lib.hid (Rev.start l), Lib.hid h, Lib.hid hx⟩
 case round =>
  obtain ⟨i, z, R, rfl, rfl, HZ, hi, HR, HA, HX⟩ := hrel
  by_cases hlt : ((i : Nat) : Int) < z
  ·obtain ⟨b, rfl⟩ : ∃ b : Nat, z = (b : Nat) := ⟨z.toNat, by omega⟩
   have hzb := HZ.out
   have hb1 : b = l.length - 1 - i := by omega
   have hbl : b < l.length := by omega
   have hib : i < b := by omega
   have hRl : R.length = l.length := HR.out.1
   have hI2 : ((i : Nat) : Int) < (l.length : Nat) := by omega
   have hB2 : ((b : Nat) : Int) < (l.length : Nat) := by omega
   have hB3 : ((b : Nat) : Int) ≤ 50000000 := by omega
   have hI3 : ((i : Nat) : Int) ≤ 50000000 := by omega
   have hiR : i < R.length := by omega
   have hbR : b < R.length := by omega
   obtain ⟨c0, c1, c2⟩ := HA.out.get hiR
   obtain ⟨d0, d1, d2⟩ := HA.out.get hbR
   obtain ⟨x, hxx⟩ : ∃ x, R[i] = x := ⟨_, rfl⟩
   obtain ⟨y, hyy⟩ : ∃ y, R[b] = y := ⟨_, rfl⟩
   have HSW := Lib.hid (show Rev l ((R.set i y).set b x) (i + 1) from HR.out.step hb1 hib hiR hbR hxx hyy)
   rw [hxx] at c0 c1 c2
   rw [hyy] at d0 d1 d2
   have HIB := Lib.hid (And.intro hiR (show b < (R.set i y).length by rw [List.length_set]; exact hbR))
   have y0 : ∀ w', EOn (fun _ => True) wr w' → w'.cell? ⟨g, b * 3, none⟩ = some (.int .i64 (y.1 : Nat)) := fun w' hx => hx.cell trivial d0
   have y1 : ∀ w', EOn (fun _ => True) wr w' → w'.cell? ⟨g, b * 3 + 1, none⟩ = some (.int .i64 (y.2.1 : Nat)) := fun w' hx => hx.cell trivial d1
   have y2 : ∀ w', EOn (fun _ => True) wr w' → w'.cell? ⟨g, b * 3 + 2, none⟩ = some (.int .i64 (y.2.2 : Nat)) := fun w' hx => hx.cell trivial d2
   have z0 : ∀ w', EOn (fun _ => True) wr w' → w'.cell? ⟨g, i * 3, none⟩ = some (.int .i64 (x.1 : Nat)) := fun w' hx => hx.cell trivial c0
   have z1 : ∀ w', EOn (fun _ => True) wr w' → w'.cell? ⟨g, i * 3 + 1, none⟩ = some (.int .i64 (x.2.1 : Nat)) := fun w' hx => hx.cell trivial c1
   have z2 : ∀ w', EOn (fun _ => True) wr w' → w'.cell? ⟨g, i * 3 + 2, none⟩ = some (.int .i64 (x.2.2 : Nat)) := fun w' hx => hx.cell trivial c2
   have HBI := Lib.hid (And.intro hzb hib)
   clear c0 c1 c2 d0 d1 d2 hxx hyy hiR hbR hRl hb1 hbl hzb hib
   go_wp2_with fail
   refine wp_reck (fun _ => True) [0, 1, 2, 3, 4, 5, 6, 8, 9, 10] [7, 11, 12, 13, 14, 15] [true, true] (by kernel_rfl) (by kernel_rfl) (by simp only [List.map_cons, List.map_nil, nth]; rfl) (by simp only [List.map_cons, List.map_nil, nth]; rfl) (fun wq hxq => ?_)
   repeat first
    | refine wpP_move' ?_
    | refine wpP_val' ?_
   refine wpP_end ?_
   replace y0 := fun w' hx => y0 w' (EOn.trans (EOn.of_ext hxq) hx)
   replace y1 := fun w' hx => y1 w' (EOn.trans (EOn.of_ext hxq) hx)
   replace y2 := fun w' hx => y2 w' (EOn.trans (EOn.of_ext hxq) hx)
   replace z0 := fun w' hx => z0 w' (EOn.trans (EOn.of_ext hxq) hx)
   replace z1 := fun w' hx => z1 w' (EOn.trans (EOn.of_ext hxq) hx)
   replace z2 := fun w' hx => z2 w' (EOn.trans (EOn.of_ext hxq) hx)
   have HXq := Lib.hid hxq
   clear hxq
   repeat first
    | refine wpG_move' ?_
    | refine wpG_assign' ?_
    | refine wpG_val' ?_
    | refine wpG_no' ?_
   refine wpG_end (fun w6 hx6 => ?_)
   have HA6 := Lib.hid (show ArrC w6 g R post from (HXq.out.trans hx6).blk HA.out)
   have HX6 := Lib.hid (HX.out.trans (HXq.out.trans hx6))
   clear hx6 y0 y1 y2 z0 z1 z2 HA HX HXq
   have HS1 := Lib.hid (HA6.out.set HIB.out.1 y)
   have HS2 := Lib.hid (HS1.out.set HIB.out.2 x)
   have HE2 := Lib.hid (setC_ext (setC_ext HX6.out hg i y) hg b x)
   go_wp2_with (first | (refine wpList_storeC rfl (.tmp 26) (.tmp 21) rfl (i := i) y rfl rfl HA6.out HIB.out.1 ?_; obtain ⟨W1, hW1⟩ : ∃ W, setC w6 g i y = W := ⟨_, rfl⟩; rw [hW1] at HS1 HS2 HE2 ⊢; clear hW1 HA6) | (refine wpList_storeC rfl (.tmp 27) (.tmp 25) rfl (i := b) x rfl rfl HS1.out HIB.out.2 ?_; obtain ⟨W2, hW2⟩ : ∃ W, setC W1 g b x = W := ⟨_, rfl⟩; rw [hW2] at HS2 HE2 ⊢; clear hW2 HS1))
   refine gQ_normal ?_
   go_wp2_with fail
   exact ⟨⟨i + 1, _, _, by simp, rfl, Lib.hid (by have := HBI.out; omega), by have := HBI.out; omega, HSW, HS2, HE2⟩, by have := HBI.out; simp only [intOf]; omega⟩
  ·have HEND := Lib.hid (show ArrC wr g l.reverse post from by
    rw [← HR.out.all (by have := HZ.out; omega)]
    exact HA.out)
   clear HR HA
   go_wp2_with fail
   refine bodyPost_end (results_none rfl _ _ _) rfl ?_
   exact ⟨rfl, HEND.out, HX.out⟩
set_option maxRecDepth 100000 in
set_option maxHeartbeats 4000000 in
theorem c_Rev0 (w : World) : Calls Tryz.prog 37 #[.slice none 0 0] w fun e w' => e = .returned (.tuple #[]) ∧ w' = w := by
 go_enter Tryz.func37, Tryz.ntmps37
 go_wp2_with fail
 go_loopw [2, 3] (fun iv jv W => iv = .int .i64 0 ∧ jv = .int .i64 (-1) ∧ W = w) (fun _ _ _ => 0)
 case atStart => exact ⟨rfl, rfl, rfl⟩
 case round =>
  obtain ⟨rfl, rfl, rfl⟩ := hrel
  go_wp2_with fail
  refine bodyPost_end (results_none rfl _ _ _) rfl ?_
  exact ⟨rfl, rfl⟩
/-- A row of the call's own is turned round. -/
theorem c_Rev (v : Value) (l : List El) (w W0 : World) (h : w.ownsRow W0.heap.size 59 3 v l.length (elW l)) (hx : Ext W0 w) (hl : l.length ≤ 50000000) :
  Calls Tryz.prog 37 #[v] w fun e w' => e = .returned (.tuple #[]) ∧ ElRow w' v l.reverse ∧ Ext W0 w' := by
 by_cases hne : l = []
 ·subst hne
  rcases h.2 with ⟨rfl, _⟩ | ⟨g, cap, cur, rfl, hb, hgb, hcap, _⟩
  ·refine (c_Rev0 w).mono ?_
   rintro e w' ⟨rfl, rfl⟩
   exact ⟨rfl, .inl ⟨rfl, rfl⟩, hx⟩
  ·refine (c_Reverse g cap cur.toList [] w W0 (by unfold ArrC; rw [hgb]; simp [elW]) hx hb hl hcap).mono ?_
   rintro e w' ⟨rfl, h2, h3⟩
   exact ⟨rfl, .inr ⟨g, cap, rfl, hcap, fun i hi => by cases hi⟩, h3⟩
 ·obtain ⟨g, cap, post, rfl, hcap, hb, ha⟩ := ArrC.of_own h hne
  refine (c_Reverse g cap post l w W0 ha hx hb hl hcap).mono ?_
  rintro e w' ⟨rfl, h2, h3⟩
  refine ⟨rfl, .inr ⟨g, cap, by rw [List.length_reverse], by rw [List.length_reverse]; exact hcap, fun i hi => ?_⟩, h3⟩
  exact h2.get hi
end Go.Proofs.YtokeamebcdhnpaaGreatDoor
