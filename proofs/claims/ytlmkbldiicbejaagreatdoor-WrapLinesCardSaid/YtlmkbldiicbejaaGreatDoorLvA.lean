/-
  Boxes that may be so are small numbers; lines and costs of whatever boxes. What the laws' live() asks for, by the kernel; helpers of the laws. What the laws' live() asks for, by the kernel. The laws' live().
-/
import Derived.Test.YtlmkbldiicbejaaGreatDoorWrKL
import Derived.Test.YtlmkbldiicbejaaGreatDoorWrP
section
namespace Go.Proofs.YtlmkbldiicbejaaGreatDoor
open Go.RowKit Go.Rp Go.Maps Go.Cl Go.Shelf Go.Gr

def unB (x : BxI) : Wp.Bx := ⟨x.w.toNat, x.b.toNat, x.h.toNat, x.m⟩
theorem unB_bxI (x : Wp.Bx) : unB (bxI x) = x := by
  obtain ⟨w, b, h, m⟩ := x
  simp [unB, bxI]
theorem bxI_unB {x : BxI} (h : BxOk x) : bxI (unB x) = x := by
  obtain ⟨w, b, k, m⟩ := x
  unfold BxOk InK at h
  simp only at h
  simp [unB, bxI]
  omega
theorem badK_ok : ∀ (l : List BxI) (i : Nat), (badK l i).1 = 0 → ∀ x ∈ l, BxOk x
  | [], _, _, x, hx => by cases hx
  | y :: l, i, h, x, hx => by
    rw [badK] at h
    split at h
    · rcases List.mem_cons.1 hx with rfl | hx
      · assumption
      · exact badK_ok l (i + 1) h x hx
    · cases h
theorem badK_err : ∀ (l : List BxI) (i : Nat), (badK l i).1 = 0 ∨ (badK l i).1 = 160
  | [], _ => .inl rfl
  | y :: l, i => by
    rw [badK]
    split
    · exact badK_err l (i + 1)
    · exact .inr rfl
theorem chk_ok {l : List BxI} {W F R H : Int} (h : (chkK l W F R H).1 = 0) : WrOk W F R H ∧ l = (l.map unB).map bxI ∧ SmB (l.map unB) := by
  unfold chkK at h
  split at h
  · split at h
    · cases h
    · have hk := badK_ok l 0 h
      refine ⟨by assumption, ?_, by rw [List.length_map]; omega, fun x hx => ?_⟩
      · rw [List.map_map]
        conv => lhs; rw [← List.map_id l]
        exact List.map_congr_left fun x hx => (bxI_unB (hk x hx)).symm
      · obtain ⟨y, hy, rfl⟩ := List.mem_map.1 hx
        have := hk y hy
        unfold BxOk InK at this
        simp only [unB]
        omega
  · cases h
/-- The last boxes of the lines, and what lines cost, whatever the boxes are. -/
def linA (l : List BxI) (W F R H : Int) : List Nat := if (chkK l W F R H).1 = 0 then Wp.linesK ⟨W, F, R⟩ (H == 1) (l.map unB) else []
def cstA (l : List BxI) (W F R H : Int) (es : List Int) : Option Int := if (chkK l W F R H).1 = 0 then Wp.costF ⟨W, F, R⟩ (l.map unB) 0 es else none
theorem linA_nil (W F R H : Int) : linA [] W F R H = [] := by
  unfold linA Wp.linesK
  split
  · split
    · simp [Wp.even]
    · simp [Wp.greedy]
  · rfl
theorem linA_len (l : List BxI) (W F R H : Int) : (linA l W F R H).length ≤ l.length := by
  unfold linA Wp.linesK
  split
  · split
    · have := even_len ⟨W, F, R⟩ (l.map unB) (l.map unB).length 0 (by omega)
      rw [List.length_map] at this
      simpa using this
    · have := greedy_len ⟨W, F, R⟩ (l.map unB) (l.map unB).length 0 (by omega)
      rw [List.length_map] at this
      simpa using this
  · simp
end Go.Proofs.YtlmkbldiicbejaaGreatDoor
end

section
namespace Go.Proofs.YtlmkbldiicbejaaGreatDoor
open Go.RowKit Go.Rp Go.Maps Go.Cl Go.Shelf Go.Gr Go.Ln

theorem c_num16 (x : Int) (w : World) : Calls Tryz.prog 13 #[.int .i64 x] w fun e w' => e = .returned (.int .i64 x) ∧ w' = w := by
  go_enter Tryz.func13, Tryz.ntmps13
  go_wp2_with fail
  exact ret_one rfl rfl rfl ⟨rfl, rfl⟩
set_option maxRecDepth 100000 in
set_option maxHeartbeats 2000000 in
theorem c_ints (pa pb : Option Addr) (ca cb : Nat) (a b : List Int) (w : World) (ha : IRow w (.slice pa a.length ca) a) (hb : IRow w (.slice pb b.length cb) b) (hl : a.length ≤ 10000) :
    Calls Tryz.prog 18 #[.slice pa a.length ca, .slice pb b.length cb] w fun e w' => e = .returned (.bool (decide (a = b))) ∧ Ext w w' := by
  obtain ⟨_, _, ea, _, hca⟩ := ha
  obtain ⟨_, _, eb, _, hcb⟩ := hb
  obtain ⟨rfl, -, rfl⟩ := Value.slice.inj ea
  obtain ⟨rfl, -, rfl⟩ := Value.slice.inj eb
  have HCA := Lib.hid hca
  have HCB := Lib.hid hcb
  have haI : ((a.length : Nat) : Int) ≤ 10000 := by omega
  clear hca hcb ea eb
  obtain ⟨r, hr⟩ : ∃ r, decide (a = b) = r := ⟨_, rfl⟩
  rw [hr]
  have HR := Lib.hid hr
  clear hr
  by_cases hlen : a.length = b.length
  · obtain ⟨N, hN⟩ : ∃ N, b.length = N := ⟨_, rfl⟩
    have hNa : a.length = N := hlen.trans hN
    have HLA := Lib.hid (And.intro hNa hN)
    rw [hN, hNa]
    have hNI : ((N : Nat) : Int) ≤ 10000 := by omega
    clear hN hNa hlen haI hl
    go_enter Tryz.func18, Tryz.ntmps18
    go_wp2_with fail
    go_loopw [5] (fun iv W => ∃ i : Nat, iv = .int .i64 (i : Nat) ∧ i ≤ N ∧ Hid (∀ j (h1 : j < a.length) (h2 : j < b.length), j < i → a[j] = b[j]) ∧ Hid (Ext w W)) (fun iv _ => N + 1 - (intOf iv).toNat)
    case atStart => exact ⟨0, rfl, Nat.zero_le _, Lib.hid (fun j h1 h2 h3 => by omega), Lib.hid (Ext.refl _)⟩
    case round =>
      obtain ⟨i, rfl, hi, HJ, HX⟩ := hrel
      obtain ⟨W, rfl⟩ : ∃ W, W = wr := ⟨_, rfl⟩
      by_cases hil : i < N
      · have hI : ((i : Nat) : Int) < (N : Nat) := by omega
        have hd : decide (i < N) = true := decide_eq_true hil
        have hia : i < a.length := by have := HLA.out.1; omega
        have hib : i < b.length := by have := HLA.out.2; omega
        obtain ⟨ga, oa, rfl, _, h6⟩ := HCA.out (by intro e; subst e; simp at hia)
        obtain ⟨gb, ob, rfl, _, h7⟩ := HCB.out (by intro e; subst e; simp at hib)
        have h8 : ∀ w', EOn (fun _ => True) W w' → w'.cell? ⟨ga, oa + i, none⟩ = some (.int .i64 a[i]) := fun w' h => h.cell trivial (HX.out.cell (h6 i hia))
        have h9 : ∀ w', EOn (fun _ => True) W w' → w'.cell? ⟨gb, ob + i, none⟩ = some (.int .i64 b[i]) := fun w' h => h.cell trivial (HX.out.cell (h7 i hib))
        have HJN := Lib.hid (show a[i] = b[i] → ∀ j (h1 : j < a.length) (h2 : j < b.length), j < i + 1 → a[j] = b[j] from fun e j h1 h2 h3 => by
          rcases Nat.lt_or_ge j i with h4 | h4
          · exact HJ.out j h1 h2 h4
          · obtain rfl : j = i := by omega
            exact e)
        have HNE := Lib.hid (show a[i] ≠ b[i] → false = r from fun h => by rw [← HR.out]; exact (decide_eq_false (fun e => h (by subst e; rfl))).symm)
        generalize a[i] = x at h8 HJN HNE
        generalize b[i] = y at h9 HJN HNE
        clear h6 h7 hia hib
        by_cases hxy : x = y
        · subst hxy
          have HJ2 := Lib.hid (HJN.out rfl)
          clear HJN HNE
          go_wp2_with fail
          refine wp_lex (fun _ => True) [true, true, true, true, true, true, true, true, true] (by kernel_rfl) (by kernel_rfl) ?_
          repeat first
            | refine wpG_move' ?_
            | refine wpG_assign' ?_
            | refine wpG_val' ?_
            | refine wpG_no' ?_
          refine wpG_end (fun W' hx' => ?_)
          replace HX := Lib.hid (HX.out.trans hx')
          clear hx' h8 h9
          go_wp2_with fail
          refine gQ_normal ?_
          go_wp2_with fail
          exact ⟨⟨i + 1, by simp, by omega, HJ2, HX⟩, by simp only [intOf]; omega⟩
        · have hb : (x == y) = false := beq_eq_false_iff_ne.2 hxy
          have HF := Lib.hid (HNE.out hxy)
          clear HJN HNE
          go_wp2_with fail
          refine wp_lex (fun _ => True) [true, true, true, true, true, true, true, true, true] (by kernel_rfl) (by kernel_rfl) ?_
          repeat first
            | refine wpG_move' ?_
            | refine wpG_assign' ?_
            | refine wpG_val' ?_
            | refine wpG_no' ?_
          refine wpG_end (fun W' hx' => ?_)
          replace HX := Lib.hid (HX.out.trans hx')
          clear hx' h8 h9
          go_wp2_with fail
          refine gQ_normal ?_
          go_wp2_with fail
          refine bodyPost_ret (results_tmp rfl _ _ _) rfl ⟨?_, HX.out⟩
          exact congrArg (fun b => Ending.returned (.bool b)) HF.out
      · have hI : ¬ ((i : Nat) : Int) < (N : Nat) := by omega
        have hd : decide (i < N) = false := decide_eq_false hil
        have HF := Lib.hid (show true = r by
          rw [← HR.out]
          refine (decide_eq_true (List.ext_getElem (by rw [HLA.out.1, HLA.out.2]) (fun j h1 h2 => HJ.out j h1 h2 (by have := HLA.out.1; omega)))).symm)
        go_wp2_with fail
        refine bodyPost_ret (results_tmp rfl _ _ _) rfl ⟨?_, HX.out⟩
        exact congrArg (fun b => Ending.returned (.bool b)) HF.out
  · have h1 : (((a.length : Nat) : Int) == (b.length : Nat)) = false := beq_eq_false_iff_ne.2 (by omega)
    have h2 : ¬ ((a.length : Nat) : Int) = (b.length : Nat) := by omega
    have HF := Lib.hid (show false = r by rw [← HR.out]; exact (decide_eq_false (fun e => hlen (by rw [e]))).symm)
    clear hlen
    go_enter Tryz.func18, Tryz.ntmps18
    go_wp2_with fail
    exact ret_one rfl rfl rfl ⟨congrArg (fun b => Ending.returned (.bool b)) HF.out, Ext.refl _⟩
set_option maxRecDepth 100000 in
set_option maxHeartbeats 2000000 in
theorem c_four (w : World) : Calls Tryz.prog 23 #[] w fun e w' => ∃ v, e = .returned v ∧ BxRow w' v [⟨3, 1, 0, false⟩, ⟨2, 1, 0, false⟩, ⟨2, 1, 0, false⟩, ⟨5, 0, 0, false⟩] ∧ Ext w w' := by
  go_enter Tryz.func23, Tryz.ntmps23
  go_wp2_with fail
  have hb := World.alloc_heap_new w (.cells #[.int .i64 3, .int .i64 1, .int .i64 0, .bool false, .int .i64 2, .int .i64 1, .int .i64 0, .bool false, .int .i64 2, .int .i64 1, .int .i64 0, .bool false, .int .i64 5, .int .i64 0, .int .i64 0, .bool false] 45)
  refine ret_one rfl rfl rfl ⟨_, rfl, ⟨_, 4, rfl, Nat.le_refl _, fun _ => ⟨w.heap.size, 0, rfl, by rw [World.size_alloc]; omega, fun i hi => ?_⟩⟩, (Ext.refl w).alloc _⟩
  match i, hi with
  | 0, _ => exact ⟨(cell_blk hb 0).trans rfl, (cell_blk hb 1).trans rfl, (cell_blk hb 2).trans rfl, (cell_blk hb 3).trans rfl⟩
  | 1, _ => exact ⟨(cell_blk hb 4).trans rfl, (cell_blk hb 5).trans rfl, (cell_blk hb 6).trans rfl, (cell_blk hb 7).trans rfl⟩
  | 2, _ => exact ⟨(cell_blk hb 8).trans rfl, (cell_blk hb 9).trans rfl, (cell_blk hb 10).trans rfl, (cell_blk hb 11).trans rfl⟩
  | 3, _ => exact ⟨(cell_blk hb 12).trans rfl, (cell_blk hb 13).trans rfl, (cell_blk hb 14).trans rfl, (cell_blk hb 15).trans rfl⟩
end Go.Proofs.YtlmkbldiicbejaaGreatDoor
end

section
namespace Go.Proofs.YtlmkbldiicbejaaGreatDoor
open Go.RowKit Go.Rp Go.Maps Go.Cl Go.Shelf Go.Gr Go.Ln

def abcd : ByteArray := ⟨#[97, 98, 32, 99, 100]⟩
theorem ev_ch : chK abcd = [(3, false), (5, true)] := by kernel_rfl
theorem ev_pc : pcS 1 8 abcd 0 [(3, false), (5, true)] = [⟨⟨2, 1, 0, false⟩, 3⟩, ⟨⟨2, 0, 0, true⟩, 5⟩] := by kernel_rfl
theorem ev_ln : Wp.linesK ⟨4, 0, 0⟩ false [⟨2, 1, 0, false⟩, ⟨2, 0, 0, true⟩] = [0, 1] := by kernel_rfl
theorem ev_rw : rowS abcd [⟨⟨2, 1, 0, false⟩, 3⟩, ⟨⟨2, 0, 0, true⟩, 5⟩] 0 0 0 true [0, 1] = [⟨0, 2, 3, 0, false⟩, ⟨3, 5, 5, 0, false⟩] := by kernel_rfl
theorem ev_a : Wp.linesK ⟨6, 0, 0⟩ false [⟨3, 1, 0, false⟩, ⟨2, 1, 0, false⟩, ⟨2, 1, 0, false⟩, ⟨5, 0, 0, false⟩] = [1, 2, 3] := by kernel_rfl
theorem ev_b : Wp.linesK ⟨6, 0, 0⟩ true [⟨3, 1, 0, false⟩, ⟨2, 1, 0, false⟩, ⟨2, 1, 0, false⟩, ⟨5, 0, 0, false⟩] = [0, 2, 3] := by kernel_rfl
theorem ev_c : Wp.costF ⟨6, 0, 0⟩ [⟨3, 1, 0, false⟩, ⟨2, 1, 0, false⟩, ⟨2, 1, 0, false⟩, ⟨5, 0, 0, false⟩] 0 [0, 2, 3] = some 10 := by kernel_rfl
end Go.Proofs.YtlmkbldiicbejaaGreatDoor
end

section
namespace Go.Proofs.YtlmkbldiicbejaaGreatDoor
open Go.RowKit Go.Rp Go.Maps Go.Cl Go.Shelf Go.Gr Go.Ln

def fourB : List Wp.Bx := [⟨3, 1, 0, false⟩, ⟨2, 1, 0, false⟩, ⟨2, 1, 0, false⟩, ⟨5, 0, 0, false⟩]
theorem four_sm : SmB fourB := by
  refine ⟨by decide, ?_⟩
  intro x hx
  simp only [fourB, List.mem_cons, List.not_mem_nil, or_false] at hx
  rcases hx with rfl | rfl | rfl | rfl <;> decide
theorem four_bx : fourB.map bxI = [⟨3, 1, 0, false⟩, ⟨2, 1, 0, false⟩, ⟨2, 1, 0, false⟩, ⟨5, 0, 0, false⟩] := rfl
theorem IRow.of_nat {w : World} {B : Nat} {v : Value} {l : List Nat} (h : w.ownsRow B 3 1 v l.length (nW l)) : IRow w v (l.map Int.ofNat) := by
  have h2 : w.ownsRow B 3 1 v (l.map Int.ofNat).length (iW (l.map Int.ofNat)) := by
    rw [List.length_map]
    have : iW (l.map Int.ofNat) = nW l := by simp [iW, nW]
    rw [this]
    exact h
  exact IRow.of_own h2
theorem calls_arg2 {P : Program} {f : FuncId} {u v x y : Value} {w : World} {R : Ending → World → Prop} (h : v = u) (hc : Calls P f #[u, x, y] w R) : Calls P f #[v, x, y] w R := h ▸ hc
theorem c_lf (g o cap : Nat) (H : Int) (E : List Nat) (hH : H = 0 ∨ H = 1) (hE : Wp.linesK ⟨6, 0, 0⟩ (H == 1) fourB = E) (w : World) (h : BxRow w (.slice (some ⟨g, o, none⟩) 4 cap) (fourB.map bxI)) :
    Calls Tryz.prog 14 #[.slice (some ⟨g, o, none⟩) 4 cap, .agg #[.int .i64 6, .int .i64 0, .int .i64 0, .int .i64 H]] w fun e w' => ∃ pv cv, e = .returned (.tuple #[.slice pv E.length cv, .int .i64 0]) ∧ IRow w' (.slice pv E.length cv) (E.map Int.ofNat) ∧ Ext w w' := by
  have hok : WrOk 6 0 0 H := by unfold WrOk InK; omega
  refine (c_Lines g o cap 6 0 0 H fourB w h four_sm (by decide) hok).mono ?_
  rintro e w1 ⟨v, rfl, hown, hx⟩
  rw [hE] at hown
  obtain ⟨pv, cv, rfl⟩ := own_slice hown
  exact ⟨pv, cv, rfl, IRow.of_nat hown, hx⟩
theorem c_cf (g o cap : Nat) (ve : Value) (w : World) (h : BxRow w (.slice (some ⟨g, o, none⟩) 4 cap) (fourB.map bxI)) (he : IRow w ve [0, 2, 3]) :
    Calls Tryz.prog 16 #[.slice (some ⟨g, o, none⟩) 4 cap, .agg #[.int .i64 6, .int .i64 0, .int .i64 0, .int .i64 0], ve] w fun e w' => e = .returned (.tuple #[.int .i64 10, .bool true]) ∧ Ext w w' := by
  have hok : WrOk 6 0 0 0 := by unfold WrOk InK; omega
  refine (c_Cost g o cap 6 0 0 0 fourB ve [0, 2, 3] w h he (by decide) (by decide) four_sm (by decide) hok).mono ?_
  rintro e w1 ⟨rfl, hx⟩
  rw [show Wp.costF ⟨6, 0, 0⟩ fourB 0 [0, 2, 3] = some 10 from ev_c]
  exact ⟨rfl, hx⟩
theorem c_rf (w : World) (hT : TabsW w) :
    Calls Tryz.prog 22 #[.string abcd, .agg #[.int .i64 1, .int .i64 8, .int .i64 0], .agg #[.int .i64 4, .int .i64 0, .int .i64 0, .int .i64 0]] w fun e w' => ∃ pv cv, e = .returned (.tuple #[.slice pv 2 cv, .int .i64 0]) ∧ w'.ownsRow w.heap.size 53 5 (.slice pv 2 cv) 2 (rwW [⟨0, 2, 3, 0, false⟩, ⟨3, 5, 5, 0, false⟩]) ∧ Ext w w' := by
  have hok : WrOk 4 0 0 0 := by unfold WrOk InK; omega
  have hp : pcS 1 8 abcd 0 (chK abcd) = [⟨⟨2, 1, 0, false⟩, 3⟩, ⟨⟨2, 0, 0, true⟩, 5⟩] := by rw [ev_ch]; exact ev_pc
  refine (c_Rows 1 8 0 4 0 0 0 abcd [⟨⟨2, 1, 0, false⟩, 3⟩, ⟨⟨2, 0, 0, true⟩, 5⟩] [0, 1] w (by unfold CellOk; decide) hT (by decide) hp (by decide) hok ?_ ev_ln (by decide) ?_ ?_).mono ?_
  · refine ⟨by decide, ?_⟩
    intro x hx
    simp only [List.map_cons, List.map_nil, List.mem_cons, List.not_mem_nil, or_false] at hx
    rcases hx with rfl | rfl <;> decide
  · intro i h
    match i, h with
    | 0, _ => exact Nat.zero_le _
    | 1, _ => exact (show (3 : Nat) ≤ 5 by decide)
  · intro x hx
    simp only [List.mem_cons, List.not_mem_nil, or_false] at hx
    rcases hx with rfl | rfl <;> decide
  · rintro e w1 ⟨v, rfl, hown, hx⟩
    rw [ev_rw] at hown
    obtain ⟨pv, cv, rfl⟩ := own_slice hown
    exact ⟨pv, cv, rfl, hown, hx⟩
set_option maxRecDepth 100000 in
set_option maxHeartbeats 2000000 in
theorem c_live16 (w : World) (hT : TabsW w) : Calls Tryz.prog 10 #[] w fun e w' => e = .returned (.bool true) ∧ Ext w w' := by
  have HT := Lib.hid hT
  clear hT
  go_enter Tryz.func10, Tryz.ntmps10
  go_wp2_with fail
  refine (c_four w).mono ?_
  rintro e w1 ⟨v, rfl, hbx, hx1⟩
  obtain ⟨p, cap, rfl, hc, hp⟩ := id hbx
  obtain ⟨g, o, rfl, _, _⟩ := hp (by simp)
  have HB1 := Lib.hid hbx
  have HX1 := Lib.hid hx1
  clear hbx hx1 hc hp
  go_wp2_with fail
  refine (c_lf g o cap 0 [1, 2, 3] (.inl rfl) ev_a w1 HB1.out).mono ?_
  rintro e w2 ⟨pa, ca, rfl, hra, hx2⟩
  have HRA := Lib.hid hra
  have HX2 := Lib.hid (HX1.out.trans hx2)
  clear hra hx2
  go_wp2_with fail
  refine (c_four w2).mono ?_
  rintro e w3 ⟨v, rfl, hbx, hx3⟩
  obtain ⟨p, cap, rfl, hc, hp⟩ := id hbx
  obtain ⟨g, o, rfl, _, _⟩ := hp (by simp)
  have HB3 := Lib.hid hbx
  have HX3 := Lib.hid (HX2.out.trans hx3)
  replace HRA := Lib.hid (HRA.out.ext hx3)
  clear hbx hx3 hc hp
  go_wp2_with fail
  refine (c_lf g o cap 1 [0, 2, 3] (.inr rfl) ev_b w3 HB3.out).mono ?_
  rintro e w4 ⟨pb, cb, rfl, hrb, hx4⟩
  have HRB := Lib.hid hrb
  have HX4 := Lib.hid (HX3.out.trans hx4)
  replace HRA := Lib.hid (HRA.out.ext hx4)
  clear hrb hx4
  go_wp2_with fail
  refine (c_four w4).mono ?_
  rintro e w5 ⟨v, rfl, hbx, hx5⟩
  obtain ⟨p, cap, rfl, hc, hp⟩ := id hbx
  obtain ⟨g, o, rfl, _, _⟩ := hp (by simp)
  have HB5 := Lib.hid hbx
  have HX5 := Lib.hid (HX4.out.trans hx5)
  replace HRA := Lib.hid (HRA.out.ext hx5)
  replace HRB := Lib.hid (HRB.out.ext hx5)
  clear hbx hx5 hc hp
  go_wp2_with fail
  have hx6 := (Ext.refl w5).alloc (.cells #[.int .i64 0, .int .i64 2, .int .i64 3] 3)
  have hr6 := am_row (w := w5) (cs := #[.int .i64 0, .int .i64 2, .int .i64 3]) (n := 3) rfl rfl
  generalize w5.alloc (.cells #[.int .i64 0, .int .i64 2, .int .i64 3] 3) = w6 at hx6 hr6 ⊢
  generalize w5.heap.size = nb at hr6 ⊢
  refine (c_cf g o cap _ w6 (HB5.out.ext hx6) hr6).mono ?_
  rintro e w7 ⟨rfl, hx7⟩
  have HX7 := Lib.hid (HX5.out.trans (hx6.trans hx7))
  replace HRA := Lib.hid (HRA.out.ext (hx6.trans hx7))
  replace HRB := Lib.hid (HRB.out.ext (hx6.trans hx7))
  clear hx6 hx7 hr6
  go_wp2_with fail
  refine calls_arg2 (u := .string abcd) rfl ((c_rf w7 (HT.out.ext HX7.out)).mono ?_)
  rintro e w8 ⟨pr, cr, rfl, hrr, hx8⟩
  have HRR := Lib.hid hrr
  have HX8 := Lib.hid (HX7.out.trans hx8)
  replace HRA := Lib.hid (HRA.out.ext hx8)
  replace HRB := Lib.hid (HRB.out.ext hx8)
  clear hrr hx8
  go_wp2_with fail
  refine (c_wrCheck (.slice none 0 0) [] 0 0 0 0 w8 ⟨none, 0, rfl, Nat.le_refl _, fun h => absurd rfl h⟩).mono ?_
  rintro e w9 ⟨rfl, hx9⟩
  rw [show chkK [] 0 0 0 0 = (161, 0) from by decide]
  have HX9 := Lib.hid (HX8.out.trans hx9)
  replace HRA := Lib.hid (HRA.out.ext hx9)
  replace HRB := Lib.hid (HRB.out.ext hx9)
  obtain ⟨gr, rfl, _, _, hcc⟩ := own_at (ownsRow_ext HRR.out hx9) (by omega)
  have r5 := hcc 5 (by omega)
  have r6 := hcc 6 (by omega)
  have r7 := hcc 7 (by omega)
  have r8 := hcc 8 (by omega)
  have r9 := hcc 9 (by omega)
  simp [rwW] at r5 r6 r7 r8 r9
  have HRC := Lib.hid (And.intro r5 (And.intro r6 (And.intro r7 (And.intro r8 r9))))
  clear hx9 hcc r5 r6 r7 r8 r9 HRR
  go_wp2_with fail
  refine (c_num16 0 w9).mono ?_
  rintro e w10 ⟨rfl, rfl⟩
  go_wp2_with fail
  refine (c_num16 0 w10).mono ?_
  rintro e w11 ⟨rfl, rfl⟩
  go_wp2_with fail
  have hr1 := am_row (w := w11) (cs := #[.int .i64 1, .int .i64 2, .int .i64 3]) (n := 3) rfl rfl
  have hx12 := (Ext.refl w11).alloc (.cells #[.int .i64 1, .int .i64 2, .int .i64 3] 3)
  generalize w11.alloc (.cells #[.int .i64 1, .int .i64 2, .int .i64 3] 3) = w12 at hx12 hr1 ⊢
  generalize w11.heap.size = nb1 at hr1 ⊢
  refine (c_ints pa (some ⟨nb1, 0, none⟩) ca 3 [1, 2, 3] [1, 2, 3] w12 (HRA.out.ext hx12) hr1 (by decide)).mono ?_
  rintro e w13 ⟨rfl, hx13⟩
  have HX13 := Lib.hid (HX9.out.trans (hx12.trans hx13))
  have HXR := Lib.hid (hx12.trans hx13)
  replace HRB := Lib.hid (HRB.out.ext (hx12.trans hx13))
  clear hx12 hx13 hr1
  rw [show decide (([1, 2, 3] : List Int) = [1, 2, 3]) = true from by decide]
  go_wp2_with fail
  have hr1 := am_row (w := w13) (cs := #[.int .i64 0, .int .i64 2, .int .i64 3]) (n := 3) rfl rfl
  have hx14 := (Ext.refl w13).alloc (.cells #[.int .i64 0, .int .i64 2, .int .i64 3] 3)
  generalize w13.alloc (.cells #[.int .i64 0, .int .i64 2, .int .i64 3] 3) = w14 at hx14 hr1 ⊢
  generalize w13.heap.size = nb2 at hr1 ⊢
  refine (c_ints pb (some ⟨nb2, 0, none⟩) cb 3 [0, 2, 3] [0, 2, 3] w14 (HRB.out.ext hx14) hr1 (by decide)).mono ?_
  rintro e w15 ⟨rfl, hx15⟩
  have HX15 := Lib.hid (HX13.out.trans (hx14.trans hx15))
  have HXS := Lib.hid (HXR.out.trans (hx14.trans hx15))
  clear hx14 hx15 hr1
  rw [show decide (([0, 2, 3] : List Int) = [0, 2, 3]) = true from by decide]
  go_wp2_with fail
  have r5 : w15.cell? ⟨gr, 5, none⟩ = some (.int .i64 3) := HXS.out.cell HRC.out.1
  have r6 : w15.cell? ⟨gr, 6, none⟩ = some (.int .i64 5) := HXS.out.cell HRC.out.2.1
  have r7 : w15.cell? ⟨gr, 7, none⟩ = some (.int .i64 5) := HXS.out.cell HRC.out.2.2.1
  have r8 : w15.cell? ⟨gr, 8, none⟩ = some (.int .i64 0) := HXS.out.cell HRC.out.2.2.2.1
  have r9 : w15.cell? ⟨gr, 9, none⟩ = some (.bool false) := HXS.out.cell HRC.out.2.2.2.2
  refine (c_num16 0 w15).mono ?_
  rintro e w16 ⟨rfl, rfl⟩
  go_wp2_with fail
  refine (c_num16 161 w16).mono ?_
  rintro e w17 ⟨rfl, rfl⟩
  go_wp2_with fail
  exact ret_one rfl rfl rfl ⟨rfl, HX15.out⟩
end Go.Proofs.YtlmkbldiicbejaaGreatDoor
end
