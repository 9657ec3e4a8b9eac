/-
  The even lines of a paragraph: one line more. The even lines of a paragraph: the table of ways. The even lines of a paragraph.
-/
import Derived.Test.YtlmkbldiicbejaaGreatDoorWrD
section
namespace Go.Proofs.YtlmkbldiicbejaaGreatDoor
open Go.RowKit Go.Rp Go.Maps Go.Cl Go.Shelf Go.Gr

def wyW (l : List Wp.Way) : List Value := l.flatMap fun x => [.int .i64 x.c, .int .i64 (x.k : Nat), .int .i64 (x.e : Nat)]
theorem wyW_len (l : List Wp.Way) : (wyW l).length = l.length * 3 := by
  induction l with
  | nil => rfl
  | cons x l ih =>
    have e : wyW (x :: l) = [.int .i64 x.c, .int .i64 (x.k : Nat), .int .i64 (x.e : Nat)] ++ wyW l := by simp [wyW]
    rw [e, List.length_append, ih]
    simp
    omega
theorem wyW_get : ∀ (l : List Wp.Way) (i : Nat) (h : i < l.length), (wyW l)[i * 3]? = some (.int .i64 l[i].c) ∧ (wyW l)[i * 3 + 1]? = some (.int .i64 (l[i].k : Nat)) ∧ (wyW l)[i * 3 + 2]? = some (.int .i64 (l[i].e : Nat))
  | [], i, h => by simp at h
  | x :: l, 0, _ => by simp [wyW]
  | x :: l, i + 1, h => by
    obtain ⟨h1, h2, h3⟩ := wyW_get l i (by simpa using h)
    have e : wyW (x :: l) = [.int .i64 x.c, .int .i64 (x.k : Nat), .int .i64 (x.e : Nat)] ++ wyW l := by simp [wyW]
    rw [e]
    refine ⟨?_, ?_, ?_⟩
    · rw [show (i + 1) * 3 = i * 3 + 3 by omega, List.getElem?_append_right (by simp)]; simpa using h1
    · rw [show (i + 1) * 3 + 1 = i * 3 + 1 + 3 by omega, List.getElem?_append_right (by simp)]; simpa using h2
    · rw [show (i + 1) * 3 + 2 = i * 3 + 2 + 3 by omega, List.getElem?_append_right (by simp)]; simpa using h3
theorem wyW_set : ∀ (l : List Wp.Way) (i : Nat) (x : Wp.Way), i < l.length → ((((wyW l).set (i * 3) (.int .i64 x.c)).set (i * 3 + 1) (.int .i64 (x.k : Nat))).set (i * 3 + 2) (.int .i64 (x.e : Nat))) = wyW (l.set i x)
  | [], i, _, h => by simp at h
  | y :: l, 0, x, _ => by simp [wyW]
  | y :: l, i + 1, x, h => by
    have e : ∀ (z : Wp.Way) (m : List Wp.Way), wyW (z :: m) = .int .i64 z.c :: .int .i64 (z.k : Nat) :: .int .i64 (z.e : Nat) :: wyW m := fun z m => by simp [wyW]
    have ih := wyW_set l i x (by simpa using h)
    rw [List.set_cons_succ, e, e, ← ih, show (i + 1) * 3 = i * 3 + 1 + 1 + 1 by omega]
    rfl
/-- A way laid in its place, and found. -/
def updW (V : World) (gb i fb : Nat) (c : Int) (k e : Nat) : World := (((V.setCell ⟨gb, i * 3, none⟩ (.int .i64 c)).setCell ⟨gb, i * 3 + 1, none⟩ (.int .i64 (k : Nat))).setCell ⟨gb, i * 3 + 2, none⟩ (.int .i64 (e : Nat))).setCell ⟨fb, 0, none⟩ (.bool true)
/-- The ways stand in a block. -/
def WyIs (V : World) (gb : Nat) (ws : List Wp.Way) : Prop := V.heap[gb]? = some (.cells (wyW ws).toArray 80 (0, 0))
theorem WyIs.ext {A B : World} {gb : Nat} {ws : List Wp.Way} (h : WyIs A gb ws) (hx : Ext A B) : WyIs B gb ws := hx.blk h
theorem WyIs.at {V : World} {gb : Nat} {ws : List Wp.Way} (h : WyIs V gb ws) {i : Nat} (hi : i < ws.length) : V.cell? ⟨gb, i * 3, none⟩ = some (.int .i64 ws[i].c) ∧ V.cell? ⟨gb, i * 3 + 1, none⟩ = some (.int .i64 (ws[i].k : Nat)) ∧ V.cell? ⟨gb, i * 3 + 2, none⟩ = some (.int .i64 (ws[i].e : Nat)) := by
  obtain ⟨h1, h2, h3⟩ := wyW_get ws i hi
  refine ⟨?_, ?_, ?_⟩
  · rw [cell_blk h, List.getElem?_toArray]; exact h1
  · rw [cell_blk h, List.getElem?_toArray]; exact h2
  · rw [cell_blk h, List.getElem?_toArray]; exact h3
set_option maxRecDepth 100000 in
set_option maxHeartbeats 4000000 in
theorem c_even1 (p : Option Addr) (n c : Nat) (f W F R H : Int) (i j sz pb ib vb fb gb cp : Nat) (fnd : Bool) (ws : List Wp.Way) (w : World) (hW : InK W) (hF : InK F) (hR : InK R)
    (hp : w.heap[pb]? = some (.cells #[.slice p n c, .int .i64 f, .int .i64 W, .int .i64 F, .int .i64 R, .int .i64 H] 61 (0, 0))) (hib : Boxed w ib 3 (.int .i64 (i : Nat))) (hvb : Boxed w vb 78 (.slice (some ⟨gb, 0, none⟩) (n + 1) cp)) (hfb : Boxed w fb 4 (.bool fnd))
    (hws : WyIs w gb ws) (hwl : ws.length = n + 1) (hn : n ≤ 64) (hij : i ≤ j) (hj : j < n) (hsz : sz ≤ 13000000) (hb : ∀ x ∈ ws, 0 ≤ x.c ∧ x.c ≤ 200000000000000000 ∧ x.k ≤ 100)
    (up : Bool) (cv : Int) (y z : Wp.Way) (hy : ws[j + 1]? = some y) (hz : ws[i]? = some z) (hcv : cv = if (if i = 0 then W - F else W - R) - (sz : Nat) < 0 then 10 * ((if i = 0 then W - F else W - R) - (sz : Nat)) * ((if i = 0 then W - F else W - R) - (sz : Nat)) else if j + 1 = n then 0 else ((if i = 0 then W - F else W - R) - (sz : Nat)) * ((if i = 0 then W - F else W - R) - (sz : Nat)))
    (hup : up = true ↔ ¬ ((if i = 0 then W - F else W - R) < (sz : Nat) ∧ i < j) ∧ (fnd = false ∨ Wp.wayLe ⟨cv + y.c, y.k + 1, j⟩ z)) :
    Calls Tryz.prog 42 #[.int .i64 (j : Nat), .int .i64 (sz : Nat), .pointer (some ⟨pb, 0, none⟩), .pointer (some ⟨ib, 0, none⟩), .pointer (some ⟨vb, 0, none⟩), .pointer (some ⟨fb, 0, none⟩)] w fun e w' => e = .returned (.bool true) ∧ ∃ w4, Ext w w4 ∧ w' = if up = true then updW w4 gb i fb (cv + y.c) (y.k + 1) j else w4 := by
  have k0 := (cell_blk hp 0).trans rfl
  have k1 := (cell_blk hp 1).trans rfl
  have k2 := (cell_blk hp 2).trans rfl
  have k3 := (cell_blk hp 3).trans rfl
  have k4 := (cell_blk hp 4).trans rfl
  have k5 := (cell_blk hp 5).trans rfl
  have k6 := hib.cell
  have HRM := Lib.hid (fun w' => c_room p n c f W F R H i w' hW hF hR)
  have HUP := Lib.hid hup
  have HCV := Lib.hid hcv
  clear hup hcv
  have HPC := Lib.hid (fun w' => c_pcost p n c f W F R H i j sz w' (by omega) hW hF hR (by omega))
  have hrb : -100000 ≤ (if i = 0 then W - F else W - R) ∧ (if i = 0 then W - F else W - R) ≤ 100000 := by
    unfold InK at hW hF hR
    split <;> omega
  generalize (if i = 0 then W - F else W - R) = rm at HRM HPC hrb HUP HCV ⊢
  have hcb : 0 ≤ (if rm - (sz : Nat) < 0 then 10 * (rm - (sz : Nat)) * (rm - (sz : Nat)) else if j + 1 = n then 0 else (rm - (sz : Nat)) * (rm - (sz : Nat))) ∧ (if rm - (sz : Nat) < 0 then 10 * (rm - (sz : Nat)) * (rm - (sz : Nat)) else if j + 1 = n then 0 else (rm - (sz : Nat)) * (rm - (sz : Nat))) ≤ 2000000000000000 := by
    have h1 : (rm - (sz : Nat)).natAbs ≤ 13100000 := by omega
    have h2 := Int.natAbs_mul_self (a := rm - (sz : Nat))
    have h3 := Nat.mul_le_mul h1 h1
    have h4 : 10 * (rm - (sz : Nat)) * (rm - (sz : Nat)) = 10 * ((rm - (sz : Nat)) * (rm - (sz : Nat))) := Int.mul_assoc _ _ _
    split
    · rw [h4]; omega
    · split <;> omega
  generalize (if rm - (sz : Nat) < 0 then 10 * (rm - (sz : Nat)) * (rm - (sz : Nat)) else if j + 1 = n then 0 else (rm - (sz : Nat)) * (rm - (sz : Nat))) = cv' at HPC hcb HCV
  obtain rfl : cv = cv' := HCV.out
  obtain ⟨h1, h2, h3⟩ := hws.at (i := j + 1) (by omega)
  obtain ⟨h4, h5, h6⟩ := hws.at (i := i) (by omega)
  have hb1 := hb ws[j + 1] (List.getElem_mem (by omega))
  have hb2 := hb ws[i] (List.getElem_mem (by omega))
  rw [List.getElem?_eq_getElem (by omega)] at hy hz
  rw [Option.some.inj hy] at h1 h2 h3 hb1
  rw [Option.some.inj hz] at h4 h5 h6 hb2
  have HWS := Lib.hid (And.intro hws hfb)
  clear hy hz HCV
  have hvc := hvb.cell
  have hfc := hfb.cell
  have HW := Lib.hid (And.intro hws (And.intro hfb (And.intro hvb hib)))
  have hszI : ((sz : Nat) : Int) ≤ 13000000 := by omega
  have hnI : ((n : Nat) : Int) ≤ 64 := by omega
  have hjI : ((j : Nat) : Int) < (n : Nat) := by omega
  have hijI : ((i : Nat) : Int) ≤ (j : Nat) := by omega
  have hi1 : i < n + 1 := by omega
  have hi2 : ((i : Nat) : Int) < (n : Nat) + 1 := by omega
  have hi3 : ((i : Nat) : Int) < ((n + 1 : Nat) : Int) := by omega
  clear hp hib hvb hfb hws hb hwl HW
  by_cases hbig : rm < (sz : Nat)
  · by_cases hji : ((i : Nat) : Int) < (j : Nat)
    · obtain rfl : up = false := by
        cases up
        · rfl
        · exact absurd ⟨hbig, by omega⟩ (HUP.out.1 rfl).1
      go_enter Tryz.func42, Tryz.ntmps42
      go_wp2_with fail
      refine (HRM.out w).mono ?_
      rintro e w1 ⟨rfl, hx1⟩
      have k7 := hx1.cell k6
      clear HRM HPC
      go_wp2_with fail
      exact ret_one rfl rfl rfl ⟨rfl, hx1⟩
    · go_enter Tryz.func42, Tryz.ntmps42
      go_wp2_with fail
      refine (HRM.out w).mono ?_
      rintro e w1 ⟨rfl, hx1⟩
      have m0 := hx1.cell k0
      have m1 := hx1.cell k1
      have m2 := hx1.cell k2
      have m3 := hx1.cell k3
      have m4 := hx1.cell k4
      have m5 := hx1.cell k5
      have m6 := hx1.cell k6
      have g1 := hx1.cell h1
      have g2 := hx1.cell h2
      have g3 := hx1.cell h3
      have g4 := hx1.cell h4
      have g5 := hx1.cell h5
      have g6 := hx1.cell h6
      have g7 := hx1.cell hvc
      have g8 := hx1.cell hfc
      clear k0 k1 k2 k3 k4 k5 k6 h1 h2 h3 h4 h5 h6 hvc hfc
      go_wp2_with fail
      have hrb := World.alloc_heap_new w1 (.cells #[.int .i64 y.c, .int .i64 (y.k : Nat), .int .i64 (y.e : Nat)] 80)
      have hx2 := (Ext.refl w1).alloc (.cells #[.int .i64 y.c, .int .i64 (y.k : Nat), .int .i64 (y.e : Nat)] 80)
      generalize w1.alloc (.cells #[.int .i64 y.c, .int .i64 (y.k : Nat), .int .i64 (y.e : Nat)] 80) = w2 at hrb hx2 ⊢
      generalize w1.heap.size = rb at hrb ⊢
      have HX2 := Lib.hid (Ext.trans hx1 hx2)
      have s0 : ∀ w', EOn (fun _ => True) w2 w' → w'.cell? ⟨pb, 0, none⟩ = some (.slice p n c) := fun w' h => h.cell trivial (hx2.cell m0)
      have s1 : ∀ w', EOn (fun _ => True) w2 w' → w'.cell? ⟨pb, 1, none⟩ = some (.int .i64 f) := fun w' h => h.cell trivial (hx2.cell m1)
      have s2 : ∀ w', EOn (fun _ => True) w2 w' → w'.cell? ⟨pb, 2, none⟩ = some (.int .i64 W) := fun w' h => h.cell trivial (hx2.cell m2)
      have s3 : ∀ w', EOn (fun _ => True) w2 w' → w'.cell? ⟨pb, 3, none⟩ = some (.int .i64 F) := fun w' h => h.cell trivial (hx2.cell m3)
      have s4 : ∀ w', EOn (fun _ => True) w2 w' → w'.cell? ⟨pb, 4, none⟩ = some (.int .i64 R) := fun w' h => h.cell trivial (hx2.cell m4)
      have s5 : ∀ w', EOn (fun _ => True) w2 w' → w'.cell? ⟨pb, 5, none⟩ = some (.int .i64 H) := fun w' h => h.cell trivial (hx2.cell m5)
      have s6 : ∀ w', EOn (fun _ => True) w2 w' → w'.cell? ⟨ib, 0, none⟩ = some (.int .i64 (i : Nat)) := fun w' h => h.cell trivial (hx2.cell m6)
      have s7 : ∀ w', EOn (fun _ => True) w2 w' → w'.cell? ⟨rb, 0, none⟩ = some (.int .i64 y.c) := fun w' h => h.cell trivial ((cell_blk hrb 0).trans rfl)
      have s8 : ∀ w', EOn (fun _ => True) w2 w' → w'.cell? ⟨rb, 1, none⟩ = some (.int .i64 (y.k : Nat)) := fun w' h => h.cell trivial ((cell_blk hrb 1).trans rfl)
      have n4 := hx2.cell g4
      have n5 := hx2.cell g5
      have n6 := hx2.cell g6
      have n7 := hx2.cell g7
      have n8 := hx2.cell g8
      have n9 := hx2.cell m6
      clear m0 m1 m2 m3 m4 m5 m6 g1 g2 g3 g4 g5 g6 g7 g8 hx1 hx2
      refine wp_lex (fun _ => True) [true, true, true, true, true, true, true, true, true, true, true, true, true, false] (by kernel_rfl) (by kernel_rfl) ?_
      repeat first
        | refine wpG_move' ?_
        | refine wpG_assign' ?_
        | refine wpG_call (by rfl) (fun w' hx => (by go_simp; first | exact rfl | exact ⟨rfl, rfl⟩)) (fun w' hx => (by first | exact HPC.out w')) (by simp only [Act.put, List.setIfInBounds_toArray, List.set_cons_succ, List.set_cons_zero]; rfl) ?_
        | refine wpG_val' ?_
        | refine wpG_no' ?_
      clear s0 s1 s2 s3 s4 s5 s6 s7 s8
      refine wpG_do (by rfl) (fun wa hxa K hK => ?_)
      go_wp2_with fail
      have hxb := World.alloc_heap_new wa (.cells #[.int .i64 0, .int .i64 0, .int .i64 0] 80)
      have hxw := (Ext.refl wa).alloc (.cells #[.int .i64 0, .int .i64 0, .int .i64 0] 80)
      have HXL := Lib.hid (Nat.le_trans HX2.out.sz hxa.sz)
      have HXM := Lib.hid hxa.sz
      refine ⟨EOn.of_ext hxw, ?_⟩
      generalize wa.alloc (.cells #[.int .i64 0, .int .i64 0, .int .i64 0] 80) = wb at hxb hxw ⊢
      generalize wa.heap.size = xb at hxb HXL HXM ⊢
      refine wpG_end (fun w3 hx3 => ?_)
      have HX3 := Lib.hid (hxa.trans (hxw.trans hx3))
      have hx3b := hx3.blk hxb
      have z0 : w3.cell? ⟨xb, 0, none⟩ = some (.int .i64 0) := (cell_blk hx3b 0).trans rfl
      have z1 : w3.cell? ⟨xb, 1, none⟩ = some (.int .i64 0) := (cell_blk hx3b 1).trans rfl
      have z2 : w3.cell? ⟨xb, 2, none⟩ = some (.int .i64 0) := (cell_blk hx3b 2).trans rfl
      have f0 := frz_blk hx3b 0
      have f1 := frz_blk hx3b 1
      have f2 := frz_blk hx3b 2
      go_wp2_with fail
      refine gQ_normal ?_
      have HLE := Lib.hid (And.intro HXL.out HXM.out)
      have hq := set_blk (set_blk (set_blk hx3b 0 (.int .i64 (cv + y.c))) 1 (.int .i64 ((y.k : Nat) + 1))) 2 (.int .i64 (j : Nat))
      have hxq : Ext w2 (((w3.setCell ⟨xb, 0, none⟩ (.int .i64 (cv + y.c))).setCell ⟨xb, 1, none⟩ (.int .i64 ((y.k : Nat) + 1))).setCell ⟨xb, 2, none⟩ (.int .i64 (j : Nat))) := Ext.setCell (Ext.setCell (Ext.setCell HX3.out HXM.out _) HXM.out _) HXM.out _
      generalize (((w3.setCell ⟨xb, 0, none⟩ (.int .i64 (cv + y.c))).setCell ⟨xb, 1, none⟩ (.int .i64 ((y.k : Nat) + 1))).setCell ⟨xb, 2, none⟩ (.int .i64 (j : Nat))) = w4 at hq hxq ⊢
      have x0 : w4.cell? ⟨xb, 0, none⟩ = some (.int .i64 (cv + y.c)) := (cell_blk hq 0).trans rfl
      have x1 : w4.cell? ⟨xb, 1, none⟩ = some (.int .i64 ((y.k : Nat) + 1)) := (cell_blk hq 1).trans rfl
      have x2 : w4.cell? ⟨xb, 2, none⟩ = some (.int .i64 (j : Nat)) := (cell_blk hq 2).trans rfl
      have t4 := hxq.cell n4
      have t5 := hxq.cell n5
      have t6 := hxq.cell n6
      have t7 := hxq.cell n7
      have t8 := hxq.cell n8
      have t9 := hxq.cell n9
      have HX4 := Lib.hid (HX2.out.trans hxq)
      clear n4 n5 n6 n7 n8 n9 z0 z1 z2 f0 f1 f2 hq hxq hx3b hx3 hxa hxw hxb HLE HXL HXM HX3 hrb
      cases fnd
      · obtain rfl : up = true := HUP.out.2 ⟨(fun q => by omega), .inl rfl⟩
        have s0 : ∀ w', EOn (fun _ => True) w4 w' → w'.cell? ⟨fb, 0, none⟩ = _ := fun w' h => h.cell trivial t8
        have s1 : ∀ w', EOn (fun _ => True) w4 w' → w'.cell? ⟨xb, 0, none⟩ = _ := fun w' h => h.cell trivial x0
        have s2 : ∀ w', EOn (fun _ => True) w4 w' → w'.cell? ⟨xb, 1, none⟩ = _ := fun w' h => h.cell trivial x1
        have s3 : ∀ w', EOn (fun _ => True) w4 w' → w'.cell? ⟨vb, 0, none⟩ = _ := fun w' h => h.cell trivial t7
        have s4 : ∀ w', EOn (fun _ => True) w4 w' → w'.cell? ⟨ib, 0, none⟩ = _ := fun w' h => h.cell trivial t9
        have s5 : ∀ w', EOn (fun _ => True) w4 w' → w'.cell? ⟨gb, i * 3, none⟩ = _ := fun w' h => h.cell trivial t4
        have s6 : ∀ w', EOn (fun _ => True) w4 w' → w'.cell? ⟨gb, i * 3 + 1, none⟩ = _ := fun w' h => h.cell trivial t5
        go_wp2_with fail
        refine wp_lex (fun _ => True) [true, true, true, true, true, true, true, true, true, true, true, true, true, true, true, true, true, true, true, true, true, true, true, true, true, true, true, true, true, true, true, true] (by kernel_rfl) (by kernel_rfl) ?_
        repeat first
          | refine wpG_move' ?_
          | refine wpG_assign' ?_
          | refine wpG_val' ?_
          | refine wpG_no' ?_
        refine wpG_end (fun w5 hx5 => ?_)
        have x0' := hx5.cell x0
        have x1' := hx5.cell x1
        have x2' := hx5.cell x2
        have t4' := hx5.cell t4
        have t5' := hx5.cell t5
        have t6' := hx5.cell t6
        have t7' := hx5.cell t7
        have t8' := hx5.cell t8
        have t9' := hx5.cell t9
        have hz4 := frz_blk (((HX4.out.trans hx5).blk HWS.out.1))
        have p1 := hz4 (i * 3)
        have p2 := hz4 (i * 3 + 1)
        have p3 := hz4 (i * 3 + 2)
        have hfb5 := HWS.out.2.ext (HX4.out.trans hx5)
        have hws5 := (HX4.out.trans hx5).blk HWS.out.1
        have hfg : fb ≠ gb := fun e => by
          rw [e] at hfb5
          exact absurd (Obj.cells.inj (Option.some.inj (hfb5.symm.trans hws5))).2.1 (by decide)
        have hst : ∀ c1 c2 c3, Boxed (((w5.setCell ⟨gb, i * 3, none⟩ c1).setCell ⟨gb, i * 3 + 1, none⟩ c2).setCell ⟨gb, i * 3 + 2, none⟩ c3) fb 4 _ := fun c1 c2 c3 => ((hfb5.kept (grown_cell _ gb _ c1) (fun e => hfg (Option.some.inj e))).kept (grown_cell _ gb _ c2) (fun e => hfg (Option.some.inj e))).kept (grown_cell _ gb _ c3) (fun e => hfg (Option.some.inj e))
        have p4 := fun c1 c2 c3 => (hst c1 c2 c3).cell
        have p5 := fun c1 c2 c3 => (hst c1 c2 c3).frozen
        clear hfb5 hws5 hst
        have HX5 := Lib.hid (HX4.out.trans hx5)
        clear s0 s1 s2 s3 s4 s5 s6 x0 x1 x2 t4 t5 t6 t7 t8 t9 hz4 hx5
        go_wp2_with fail
        refine gQ_normal ?_
        go_wp2_with fail
        exact ret_one rfl rfl rfl ⟨rfl, w5, HX5.out, rfl⟩
      · by_cases c1 : cv + y.c < z.c
        · obtain rfl : up = true := HUP.out.2 ⟨(fun q => by omega), .inr (.inl c1)⟩
          have c1d : decide (cv + y.c < z.c) = true := decide_eq_true c1
          have s0 : ∀ w', EOn (fun _ => True) w4 w' → w'.cell? ⟨fb, 0, none⟩ = _ := fun w' h => h.cell trivial t8
          have s1 : ∀ w', EOn (fun _ => True) w4 w' → w'.cell? ⟨xb, 0, none⟩ = _ := fun w' h => h.cell trivial x0
          have s2 : ∀ w', EOn (fun _ => True) w4 w' → w'.cell? ⟨xb, 1, none⟩ = _ := fun w' h => h.cell trivial x1
          have s3 : ∀ w', EOn (fun _ => True) w4 w' → w'.cell? ⟨vb, 0, none⟩ = _ := fun w' h => h.cell trivial t7
          have s4 : ∀ w', EOn (fun _ => True) w4 w' → w'.cell? ⟨ib, 0, none⟩ = _ := fun w' h => h.cell trivial t9
          have s5 : ∀ w', EOn (fun _ => True) w4 w' → w'.cell? ⟨gb, i * 3, none⟩ = _ := fun w' h => h.cell trivial t4
          have s6 : ∀ w', EOn (fun _ => True) w4 w' → w'.cell? ⟨gb, i * 3 + 1, none⟩ = _ := fun w' h => h.cell trivial t5
          go_wp2_with fail
          refine wp_lex (fun _ => True) [true, true, true, true, true, true, true, true, true, true, true, true, true, true, true, true, true, true, true, true, true, true, true, true, true, true, true, true, true, true, true, true] (by kernel_rfl) (by kernel_rfl) ?_
          repeat first
            | refine wpG_move' ?_
            | refine wpG_assign' ?_
            | refine wpG_val' ?_
            | refine wpG_no' ?_
          refine wpG_end (fun w5 hx5 => ?_)
          have x0' := hx5.cell x0
          have x1' := hx5.cell x1
          have x2' := hx5.cell x2
          have t4' := hx5.cell t4
          have t5' := hx5.cell t5
          have t6' := hx5.cell t6
          have t7' := hx5.cell t7
          have t8' := hx5.cell t8
          have t9' := hx5.cell t9
          have hz4 := frz_blk (((HX4.out.trans hx5).blk HWS.out.1))
          have p1 := hz4 (i * 3)
          have p2 := hz4 (i * 3 + 1)
          have p3 := hz4 (i * 3 + 2)
          have hfb5 := HWS.out.2.ext (HX4.out.trans hx5)
          have hws5 := (HX4.out.trans hx5).blk HWS.out.1
          have hfg : fb ≠ gb := fun e => by
            rw [e] at hfb5
            exact absurd (Obj.cells.inj (Option.some.inj (hfb5.symm.trans hws5))).2.1 (by decide)
          have hst : ∀ c1 c2 c3, Boxed (((w5.setCell ⟨gb, i * 3, none⟩ c1).setCell ⟨gb, i * 3 + 1, none⟩ c2).setCell ⟨gb, i * 3 + 2, none⟩ c3) fb 4 _ := fun c1 c2 c3 => ((hfb5.kept (grown_cell _ gb _ c1) (fun e => hfg (Option.some.inj e))).kept (grown_cell _ gb _ c2) (fun e => hfg (Option.some.inj e))).kept (grown_cell _ gb _ c3) (fun e => hfg (Option.some.inj e))
          have p4 := fun c1 c2 c3 => (hst c1 c2 c3).cell
          have p5 := fun c1 c2 c3 => (hst c1 c2 c3).frozen
          clear hfb5 hws5 hst
          have HX5 := Lib.hid (HX4.out.trans hx5)
          clear s0 s1 s2 s3 s4 s5 s6 x0 x1 x2 t4 t5 t6 t7 t8 t9 hz4 hx5
          go_wp2_with fail
          refine gQ_normal ?_
          go_wp2_with fail
          exact ret_one rfl rfl rfl ⟨rfl, w5, HX5.out, rfl⟩
        · have c1d : decide (cv + y.c < z.c) = false := decide_eq_false c1
          by_cases c2 : cv + y.c = z.c
          · have c2b : (cv + y.c == z.c) = true := by simpa using c2
            by_cases c3 : ((y.k : Nat) : Int) + 1 ≤ (z.k : Nat)
            · obtain rfl : up = true := HUP.out.2 ⟨(fun q => by omega), .inr (.inr ⟨c2, by show y.k + 1 ≤ z.k; omega⟩)⟩
              have c3d : decide (((y.k : Nat) : Int) + 1 ≤ (z.k : Nat)) = true := decide_eq_true c3
              have s0 : ∀ w', EOn (fun _ => True) w4 w' → w'.cell? ⟨fb, 0, none⟩ = _ := fun w' h => h.cell trivial t8
              have s1 : ∀ w', EOn (fun _ => True) w4 w' → w'.cell? ⟨xb, 0, none⟩ = _ := fun w' h => h.cell trivial x0
              have s2 : ∀ w', EOn (fun _ => True) w4 w' → w'.cell? ⟨xb, 1, none⟩ = _ := fun w' h => h.cell trivial x1
              have s3 : ∀ w', EOn (fun _ => True) w4 w' → w'.cell? ⟨vb, 0, none⟩ = _ := fun w' h => h.cell trivial t7
              have s4 : ∀ w', EOn (fun _ => True) w4 w' → w'.cell? ⟨ib, 0, none⟩ = _ := fun w' h => h.cell trivial t9
              have s5 : ∀ w', EOn (fun _ => True) w4 w' → w'.cell? ⟨gb, i * 3, none⟩ = _ := fun w' h => h.cell trivial t4
              have s6 : ∀ w', EOn (fun _ => True) w4 w' → w'.cell? ⟨gb, i * 3 + 1, none⟩ = _ := fun w' h => h.cell trivial t5
              go_wp2_with fail
              refine wp_lex (fun _ => True) [true, true, true, true, true, true, true, true, true, true, true, true, true, true, true, true, true, true, true, true, true, true, true, true, true, true, true, true, true, true, true, true] (by kernel_rfl) (by kernel_rfl) ?_
              repeat first
                | refine wpG_move' ?_
                | refine wpG_assign' ?_
                | refine wpG_val' ?_
                | refine wpG_no' ?_
              refine wpG_end (fun w5 hx5 => ?_)
              have x0' := hx5.cell x0
              have x1' := hx5.cell x1
              have x2' := hx5.cell x2
              have t4' := hx5.cell t4
              have t5' := hx5.cell t5
              have t6' := hx5.cell t6
              have t7' := hx5.cell t7
              have t8' := hx5.cell t8
              have t9' := hx5.cell t9
              have hz4 := frz_blk (((HX4.out.trans hx5).blk HWS.out.1))
              have p1 := hz4 (i * 3)
              have p2 := hz4 (i * 3 + 1)
              have p3 := hz4 (i * 3 + 2)
              have hfb5 := HWS.out.2.ext (HX4.out.trans hx5)
              have hws5 := (HX4.out.trans hx5).blk HWS.out.1
              have hfg : fb ≠ gb := fun e => by
                rw [e] at hfb5
                exact absurd (Obj.cells.inj (Option.some.inj (hfb5.symm.trans hws5))).2.1 (by decide)
              have hst : ∀ c1 c2 c3, Boxed (((w5.setCell ⟨gb, i * 3, none⟩ c1).setCell ⟨gb, i * 3 + 1, none⟩ c2).setCell ⟨gb, i * 3 + 2, none⟩ c3) fb 4 _ := fun c1 c2 c3 => ((hfb5.kept (grown_cell _ gb _ c1) (fun e => hfg (Option.some.inj e))).kept (grown_cell _ gb _ c2) (fun e => hfg (Option.some.inj e))).kept (grown_cell _ gb _ c3) (fun e => hfg (Option.some.inj e))
              have p4 := fun c1 c2 c3 => (hst c1 c2 c3).cell
              have p5 := fun c1 c2 c3 => (hst c1 c2 c3).frozen
              clear hfb5 hws5 hst
              have HX5 := Lib.hid (HX4.out.trans hx5)
              clear s0 s1 s2 s3 s4 s5 s6 x0 x1 x2 t4 t5 t6 t7 t8 t9 hz4 hx5
              go_wp2_with fail
              refine gQ_normal ?_
              go_wp2_with fail
              exact ret_one rfl rfl rfl ⟨rfl, w5, HX5.out, rfl⟩
            · obtain rfl : up = false := by
                cases up
                · rfl
                · exfalso
                  rcases (HUP.out.1 rfl).2 with q | q | q
                  · cases q
                  · exact c1 q
                  · have : y.k + 1 ≤ z.k := q.2
                    omega
              have c3d : decide (((y.k : Nat) : Int) + 1 ≤ (z.k : Nat)) = false := decide_eq_false c3
              have s0 : ∀ w', EOn (fun _ => True) w4 w' → w'.cell? ⟨fb, 0, none⟩ = _ := fun w' h => h.cell trivial t8
              have s1 : ∀ w', EOn (fun _ => True) w4 w' → w'.cell? ⟨xb, 0, none⟩ = _ := fun w' h => h.cell trivial x0
              have s2 : ∀ w', EOn (fun _ => True) w4 w' → w'.cell? ⟨xb, 1, none⟩ = _ := fun w' h => h.cell trivial x1
              have s3 : ∀ w', EOn (fun _ => True) w4 w' → w'.cell? ⟨vb, 0, none⟩ = _ := fun w' h => h.cell trivial t7
              have s4 : ∀ w', EOn (fun _ => True) w4 w' → w'.cell? ⟨ib, 0, none⟩ = _ := fun w' h => h.cell trivial t9
              have s5 : ∀ w', EOn (fun _ => True) w4 w' → w'.cell? ⟨gb, i * 3, none⟩ = _ := fun w' h => h.cell trivial t4
              have s6 : ∀ w', EOn (fun _ => True) w4 w' → w'.cell? ⟨gb, i * 3 + 1, none⟩ = _ := fun w' h => h.cell trivial t5
              go_wp2_with fail
              refine wp_lex (fun _ => True) [true, true, true, true, true, true, true, true, true, true, true, true, true, true, true, true, true, true, true, true, true, true, true, true, true, true, true, true, true, true, true, true] (by kernel_rfl) (by kernel_rfl) ?_
              repeat first
                | refine wpG_move' ?_
                | refine wpG_assign' ?_
                | refine wpG_val' ?_
                | refine wpG_no' ?_
              refine wpG_end (fun w5 hx5 => ?_)
              have x0' := hx5.cell x0
              have x1' := hx5.cell x1
              have x2' := hx5.cell x2
              have t4' := hx5.cell t4
              have t5' := hx5.cell t5
              have t6' := hx5.cell t6
              have t7' := hx5.cell t7
              have t8' := hx5.cell t8
              have t9' := hx5.cell t9
              have hz4 := frz_blk (((HX4.out.trans hx5).blk HWS.out.1))
              have p1 := hz4 (i * 3)
              have p2 := hz4 (i * 3 + 1)
              have p3 := hz4 (i * 3 + 2)
              have hfb5 := HWS.out.2.ext (HX4.out.trans hx5)
              have hws5 := (HX4.out.trans hx5).blk HWS.out.1
              have hfg : fb ≠ gb := fun e => by
                rw [e] at hfb5
                exact absurd (Obj.cells.inj (Option.some.inj (hfb5.symm.trans hws5))).2.1 (by decide)
              have hst : ∀ c1 c2 c3, Boxed (((w5.setCell ⟨gb, i * 3, none⟩ c1).setCell ⟨gb, i * 3 + 1, none⟩ c2).setCell ⟨gb, i * 3 + 2, none⟩ c3) fb 4 _ := fun c1 c2 c3 => ((hfb5.kept (grown_cell _ gb _ c1) (fun e => hfg (Option.some.inj e))).kept (grown_cell _ gb _ c2) (fun e => hfg (Option.some.inj e))).kept (grown_cell _ gb _ c3) (fun e => hfg (Option.some.inj e))
              have p4 := fun c1 c2 c3 => (hst c1 c2 c3).cell
              have p5 := fun c1 c2 c3 => (hst c1 c2 c3).frozen
              clear hfb5 hws5 hst
              have HX5 := Lib.hid (HX4.out.trans hx5)
              clear s0 s1 s2 s3 s4 s5 s6 x0 x1 x2 t4 t5 t6 t7 t8 t9 hz4 hx5
              go_wp2_with fail
              refine gQ_normal ?_
              go_wp2_with fail
              exact ret_one rfl rfl rfl ⟨rfl, HX5.out⟩
          · obtain rfl : up = false := by
              cases up
              · rfl
              · exfalso
                rcases (HUP.out.1 rfl).2 with q | q | q
                · cases q
                · exact c1 q
                · exact c2 q.1
            have c2b : (cv + y.c == z.c) = false := by simpa using c2
            have s0 : ∀ w', EOn (fun _ => True) w4 w' → w'.cell? ⟨fb, 0, none⟩ = _ := fun w' h => h.cell trivial t8
            have s1 : ∀ w', EOn (fun _ => True) w4 w' → w'.cell? ⟨xb, 0, none⟩ = _ := fun w' h => h.cell trivial x0
            have s2 : ∀ w', EOn (fun _ => True) w4 w' → w'.cell? ⟨xb, 1, none⟩ = _ := fun w' h => h.cell trivial x1
            have s3 : ∀ w', EOn (fun _ => True) w4 w' → w'.cell? ⟨vb, 0, none⟩ = _ := fun w' h => h.cell trivial t7
            have s4 : ∀ w', EOn (fun _ => True) w4 w' → w'.cell? ⟨ib, 0, none⟩ = _ := fun w' h => h.cell trivial t9
            have s5 : ∀ w', EOn (fun _ => True) w4 w' → w'.cell? ⟨gb, i * 3, none⟩ = _ := fun w' h => h.cell trivial t4
            have s6 : ∀ w', EOn (fun _ => True) w4 w' → w'.cell? ⟨gb, i * 3 + 1, none⟩ = _ := fun w' h => h.cell trivial t5
            go_wp2_with fail
            refine wp_lex (fun _ => True) [true, true, true, true, true, true, true, true, true, true, true, true, true, true, true, true, true, true, true, true, true, true, true, true, true, true, true, true, true, true, true, true] (by kernel_rfl) (by kernel_rfl) ?_
            repeat first
              | refine wpG_move' ?_
              | refine wpG_assign' ?_
              | refine wpG_val' ?_
              | refine wpG_no' ?_
            refine wpG_end (fun w5 hx5 => ?_)
            have x0' := hx5.cell x0
            have x1' := hx5.cell x1
            have x2' := hx5.cell x2
            have t4' := hx5.cell t4
            have t5' := hx5.cell t5
            have t6' := hx5.cell t6
            have t7' := hx5.cell t7
            have t8' := hx5.cell t8
            have t9' := hx5.cell t9
            have hz4 := frz_blk (((HX4.out.trans hx5).blk HWS.out.1))
            have p1 := hz4 (i * 3)
            have p2 := hz4 (i * 3 + 1)
            have p3 := hz4 (i * 3 + 2)
            have hfb5 := HWS.out.2.ext (HX4.out.trans hx5)
            have hws5 := (HX4.out.trans hx5).blk HWS.out.1
            have hfg : fb ≠ gb := fun e => by
              rw [e] at hfb5
              exact absurd (Obj.cells.inj (Option.some.inj (hfb5.symm.trans hws5))).2.1 (by decide)
            have hst : ∀ c1 c2 c3, Boxed (((w5.setCell ⟨gb, i * 3, none⟩ c1).setCell ⟨gb, i * 3 + 1, none⟩ c2).setCell ⟨gb, i * 3 + 2, none⟩ c3) fb 4 _ := fun c1 c2 c3 => ((hfb5.kept (grown_cell _ gb _ c1) (fun e => hfg (Option.some.inj e))).kept (grown_cell _ gb _ c2) (fun e => hfg (Option.some.inj e))).kept (grown_cell _ gb _ c3) (fun e => hfg (Option.some.inj e))
            have p4 := fun c1 c2 c3 => (hst c1 c2 c3).cell
            have p5 := fun c1 c2 c3 => (hst c1 c2 c3).frozen
            clear hfb5 hws5 hst
            have HX5 := Lib.hid (HX4.out.trans hx5)
            clear s0 s1 s2 s3 s4 s5 s6 x0 x1 x2 t4 t5 t6 t7 t8 t9 hz4 hx5
            go_wp2_with fail
            refine gQ_normal ?_
            go_wp2_with fail
            exact ret_one rfl rfl rfl ⟨rfl, HX5.out⟩
  · go_enter Tryz.func42, Tryz.ntmps42
    go_wp2_with fail
    refine (HRM.out w).mono ?_
    rintro e w1 ⟨rfl, hx1⟩
    have m0 := hx1.cell k0
    have m1 := hx1.cell k1
    have m2 := hx1.cell k2
    have m3 := hx1.cell k3
    have m4 := hx1.cell k4
    have m5 := hx1.cell k5
    have m6 := hx1.cell k6
    have g1 := hx1.cell h1
    have g2 := hx1.cell h2
    have g3 := hx1.cell h3
    have g4 := hx1.cell h4
    have g5 := hx1.cell h5
    have g6 := hx1.cell h6
    have g7 := hx1.cell hvc
    have g8 := hx1.cell hfc
    clear k0 k1 k2 k3 k4 k5 k6 h1 h2 h3 h4 h5 h6 hvc hfc
    go_wp2_with fail
    have hrb := World.alloc_heap_new w1 (.cells #[.int .i64 y.c, .int .i64 (y.k : Nat), .int .i64 (y.e : Nat)] 80)
    have hx2 := (Ext.refl w1).alloc (.cells #[.int .i64 y.c, .int .i64 (y.k : Nat), .int .i64 (y.e : Nat)] 80)
    generalize w1.alloc (.cells #[.int .i64 y.c, .int .i64 (y.k : Nat), .int .i64 (y.e : Nat)] 80) = w2 at hrb hx2 ⊢
    generalize w1.heap.size = rb at hrb ⊢
    have HX2 := Lib.hid (Ext.trans hx1 hx2)
    have s0 : ∀ w', EOn (fun _ => True) w2 w' → w'.cell? ⟨pb, 0, none⟩ = some (.slice p n c) := fun w' h => h.cell trivial (hx2.cell m0)
    have s1 : ∀ w', EOn (fun _ => True) w2 w' → w'.cell? ⟨pb, 1, none⟩ = some (.int .i64 f) := fun w' h => h.cell trivial (hx2.cell m1)
    have s2 : ∀ w', EOn (fun _ => True) w2 w' → w'.cell? ⟨pb, 2, none⟩ = some (.int .i64 W) := fun w' h => h.cell trivial (hx2.cell m2)
    have s3 : ∀ w', EOn (fun _ => True) w2 w' → w'.cell? ⟨pb, 3, none⟩ = some (.int .i64 F) := fun w' h => h.cell trivial (hx2.cell m3)
    have s4 : ∀ w', EOn (fun _ => True) w2 w' → w'.cell? ⟨pb, 4, none⟩ = some (.int .i64 R) := fun w' h => h.cell trivial (hx2.cell m4)
    have s5 : ∀ w', EOn (fun _ => True) w2 w' → w'.cell? ⟨pb, 5, none⟩ = some (.int .i64 H) := fun w' h => h.cell trivial (hx2.cell m5)
    have s6 : ∀ w', EOn (fun _ => True) w2 w' → w'.cell? ⟨ib, 0, none⟩ = some (.int .i64 (i : Nat)) := fun w' h => h.cell trivial (hx2.cell m6)
    have s7 : ∀ w', EOn (fun _ => True) w2 w' → w'.cell? ⟨rb, 0, none⟩ = some (.int .i64 y.c) := fun w' h => h.cell trivial ((cell_blk hrb 0).trans rfl)
    have s8 : ∀ w', EOn (fun _ => True) w2 w' → w'.cell? ⟨rb, 1, none⟩ = some (.int .i64 (y.k : Nat)) := fun w' h => h.cell trivial ((cell_blk hrb 1).trans rfl)
    have n4 := hx2.cell g4
    have n5 := hx2.cell g5
    have n6 := hx2.cell g6
    have n7 := hx2.cell g7
    have n8 := hx2.cell g8
    have n9 := hx2.cell m6
    clear m0 m1 m2 m3 m4 m5 m6 g1 g2 g3 g4 g5 g6 g7 g8 hx1 hx2
    refine wp_lex (fun _ => True) [true, true, true, true, true, true, true, true, true, true, true, true, true, false] (by kernel_rfl) (by kernel_rfl) ?_
    repeat first
      | refine wpG_move' ?_
      | refine wpG_assign' ?_
      | refine wpG_call (by rfl) (fun w' hx => (by go_simp; first | exact rfl | exact ⟨rfl, rfl⟩)) (fun w' hx => (by first | exact HPC.out w')) (by simp only [Act.put, List.setIfInBounds_toArray, List.set_cons_succ, List.set_cons_zero]; rfl) ?_
      | refine wpG_val' ?_
      | refine wpG_no' ?_
    clear s0 s1 s2 s3 s4 s5 s6 s7 s8
    refine wpG_do (by rfl) (fun wa hxa K hK => ?_)
    go_wp2_with fail
    have hxb := World.alloc_heap_new wa (.cells #[.int .i64 0, .int .i64 0, .int .i64 0] 80)
    have hxw := (Ext.refl wa).alloc (.cells #[.int .i64 0, .int .i64 0, .int .i64 0] 80)
    have HXL := Lib.hid (Nat.le_trans HX2.out.sz hxa.sz)
    have HXM := Lib.hid hxa.sz
    refine ⟨EOn.of_ext hxw, ?_⟩
    generalize wa.alloc (.cells #[.int .i64 0, .int .i64 0, .int .i64 0] 80) = wb at hxb hxw ⊢
    generalize wa.heap.size = xb at hxb HXL HXM ⊢
    refine wpG_end (fun w3 hx3 => ?_)
    have HX3 := Lib.hid (hxa.trans (hxw.trans hx3))
    have hx3b := hx3.blk hxb
    have z0 : w3.cell? ⟨xb, 0, none⟩ = some (.int .i64 0) := (cell_blk hx3b 0).trans rfl
    have z1 : w3.cell? ⟨xb, 1, none⟩ = some (.int .i64 0) := (cell_blk hx3b 1).trans rfl
    have z2 : w3.cell? ⟨xb, 2, none⟩ = some (.int .i64 0) := (cell_blk hx3b 2).trans rfl
    have f0 := frz_blk hx3b 0
    have f1 := frz_blk hx3b 1
    have f2 := frz_blk hx3b 2
    go_wp2_with fail
    refine gQ_normal ?_
    have HLE := Lib.hid (And.intro HXL.out HXM.out)
    have hq := set_blk (set_blk (set_blk hx3b 0 (.int .i64 (cv + y.c))) 1 (.int .i64 ((y.k : Nat) + 1))) 2 (.int .i64 (j : Nat))
    have hxq : Ext w2 (((w3.setCell ⟨xb, 0, none⟩ (.int .i64 (cv + y.c))).setCell ⟨xb, 1, none⟩ (.int .i64 ((y.k : Nat) + 1))).setCell ⟨xb, 2, none⟩ (.int .i64 (j : Nat))) := Ext.setCell (Ext.setCell (Ext.setCell HX3.out HXM.out _) HXM.out _) HXM.out _
    generalize (((w3.setCell ⟨xb, 0, none⟩ (.int .i64 (cv + y.c))).setCell ⟨xb, 1, none⟩ (.int .i64 ((y.k : Nat) + 1))).setCell ⟨xb, 2, none⟩ (.int .i64 (j : Nat))) = w4 at hq hxq ⊢
    have x0 : w4.cell? ⟨xb, 0, none⟩ = some (.int .i64 (cv + y.c)) := (cell_blk hq 0).trans rfl
    have x1 : w4.cell? ⟨xb, 1, none⟩ = some (.int .i64 ((y.k : Nat) + 1)) := (cell_blk hq 1).trans rfl
    have x2 : w4.cell? ⟨xb, 2, none⟩ = some (.int .i64 (j : Nat)) := (cell_blk hq 2).trans rfl
    have t4 := hxq.cell n4
    have t5 := hxq.cell n5
    have t6 := hxq.cell n6
    have t7 := hxq.cell n7
    have t8 := hxq.cell n8
    have t9 := hxq.cell n9
    have HX4 := Lib.hid (HX2.out.trans hxq)
    clear n4 n5 n6 n7 n8 n9 z0 z1 z2 f0 f1 f2 hq hxq hx3b hx3 hxa hxw hxb HLE HXL HXM HX3 hrb
    cases fnd
    · obtain rfl : up = true := HUP.out.2 ⟨(fun q => by omega), .inl rfl⟩
      have s0 : ∀ w', EOn (fun _ => True) w4 w' → w'.cell? ⟨fb, 0, none⟩ = _ := fun w' h => h.cell trivial t8
      have s1 : ∀ w', EOn (fun _ => True) w4 w' → w'.cell? ⟨xb, 0, none⟩ = _ := fun w' h => h.cell trivial x0
      have s2 : ∀ w', EOn (fun _ => True) w4 w' → w'.cell? ⟨xb, 1, none⟩ = _ := fun w' h => h.cell trivial x1
      have s3 : ∀ w', EOn (fun _ => True) w4 w' → w'.cell? ⟨vb, 0, none⟩ = _ := fun w' h => h.cell trivial t7
      have s4 : ∀ w', EOn (fun _ => True) w4 w' → w'.cell? ⟨ib, 0, none⟩ = _ := fun w' h => h.cell trivial t9
      have s5 : ∀ w', EOn (fun _ => True) w4 w' → w'.cell? ⟨gb, i * 3, none⟩ = _ := fun w' h => h.cell trivial t4
      have s6 : ∀ w', EOn (fun _ => True) w4 w' → w'.cell? ⟨gb, i * 3 + 1, none⟩ = _ := fun w' h => h.cell trivial t5
      go_wp2_with fail
      refine wp_lex (fun _ => True) [true, true, true, true, true, true, true, true, true, true, true, true, true, true, true, true, true, true, true, true, true, true, true, true, true, true, true, true, true, true, true, true] (by kernel_rfl) (by kernel_rfl) ?_
      repeat first
        | refine wpG_move' ?_
        | refine wpG_assign' ?_
        | refine wpG_val' ?_
        | refine wpG_no' ?_
      refine wpG_end (fun w5 hx5 => ?_)
      have x0' := hx5.cell x0
      have x1' := hx5.cell x1
      have x2' := hx5.cell x2
      have t4' := hx5.cell t4
      have t5' := hx5.cell t5
      have t6' := hx5.cell t6
      have t7' := hx5.cell t7
      have t8' := hx5.cell t8
      have t9' := hx5.cell t9
      have hz4 := frz_blk (((HX4.out.trans hx5).blk HWS.out.1))
      have p1 := hz4 (i * 3)
      have p2 := hz4 (i * 3 + 1)
      have p3 := hz4 (i * 3 + 2)
      have hfb5 := HWS.out.2.ext (HX4.out.trans hx5)
      have hws5 := (HX4.out.trans hx5).blk HWS.out.1
      have hfg : fb ≠ gb := fun e => by
        rw [e] at hfb5
        exact absurd (Obj.cells.inj (Option.some.inj (hfb5.symm.trans hws5))).2.1 (by decide)
      have hst : ∀ c1 c2 c3, Boxed (((w5.setCell ⟨gb, i * 3, none⟩ c1).setCell ⟨gb, i * 3 + 1, none⟩ c2).setCell ⟨gb, i * 3 + 2, none⟩ c3) fb 4 _ := fun c1 c2 c3 => ((hfb5.kept (grown_cell _ gb _ c1) (fun e => hfg (Option.some.inj e))).kept (grown_cell _ gb _ c2) (fun e => hfg (Option.some.inj e))).kept (grown_cell _ gb _ c3) (fun e => hfg (Option.some.inj e))
      have p4 := fun c1 c2 c3 => (hst c1 c2 c3).cell
      have p5 := fun c1 c2 c3 => (hst c1 c2 c3).frozen
      clear hfb5 hws5 hst
      have HX5 := Lib.hid (HX4.out.trans hx5)
      clear s0 s1 s2 s3 s4 s5 s6 x0 x1 x2 t4 t5 t6 t7 t8 t9 hz4 hx5
      go_wp2_with fail
      refine gQ_normal ?_
      go_wp2_with fail
      exact ret_one rfl rfl rfl ⟨rfl, w5, HX5.out, rfl⟩
    · by_cases c1 : cv + y.c < z.c
      · obtain rfl : up = true := HUP.out.2 ⟨(fun q => by omega), .inr (.inl c1)⟩
        have c1d : decide (cv + y.c < z.c) = true := decide_eq_true c1
        have s0 : ∀ w', EOn (fun _ => True) w4 w' → w'.cell? ⟨fb, 0, none⟩ = _ := fun w' h => h.cell trivial t8
        have s1 : ∀ w', EOn (fun _ => True) w4 w' → w'.cell? ⟨xb, 0, none⟩ = _ := fun w' h => h.cell trivial x0
        have s2 : ∀ w', EOn (fun _ => True) w4 w' → w'.cell? ⟨xb, 1, none⟩ = _ := fun w' h => h.cell trivial x1
        have s3 : ∀ w', EOn (fun _ => True) w4 w' → w'.cell? ⟨vb, 0, none⟩ = _ := fun w' h => h.cell trivial t7
        have s4 : ∀ w', EOn (fun _ => True) w4 w' → w'.cell? ⟨ib, 0, none⟩ = _ := fun w' h => h.cell trivial t9
        have s5 : ∀ w', EOn (fun _ => True) w4 w' → w'.cell? ⟨gb, i * 3, none⟩ = _ := fun w' h => h.cell trivial t4
        have s6 : ∀ w', EOn (fun _ => True) w4 w' → w'.cell? ⟨gb, i * 3 + 1, none⟩ = _ := fun w' h => h.cell trivial t5
        go_wp2_with fail
        refine wp_lex (fun _ => True) [true, true, true, true, true, true, true, true, true, true, true, true, true, true, true, true, true, true, true, true, true, true, true, true, true, true, true, true, true, true, true, true] (by kernel_rfl) (by kernel_rfl) ?_
        repeat first
          | refine wpG_move' ?_
          | refine wpG_assign' ?_
          | refine wpG_val' ?_
          | refine wpG_no' ?_
        refine wpG_end (fun w5 hx5 => ?_)
        have x0' := hx5.cell x0
        have x1' := hx5.cell x1
        have x2' := hx5.cell x2
        have t4' := hx5.cell t4
        have t5' := hx5.cell t5
        have t6' := hx5.cell t6
        have t7' := hx5.cell t7
        have t8' := hx5.cell t8
        have t9' := hx5.cell t9
        have hz4 := frz_blk (((HX4.out.trans hx5).blk HWS.out.1))
        have p1 := hz4 (i * 3)
        have p2 := hz4 (i * 3 + 1)
        have p3 := hz4 (i * 3 + 2)
        have hfb5 := HWS.out.2.ext (HX4.out.trans hx5)
        have hws5 := (HX4.out.trans hx5).blk HWS.out.1
        have hfg : fb ≠ gb := fun e => by
          rw [e] at hfb5
          exact absurd (Obj.cells.inj (Option.some.inj (hfb5.symm.trans hws5))).2.1 (by decide)
        have hst : ∀ c1 c2 c3, Boxed (((w5.setCell ⟨gb, i * 3, none⟩ c1).setCell ⟨gb, i * 3 + 1, none⟩ c2).setCell ⟨gb, i * 3 + 2, none⟩ c3) fb 4 _ := fun c1 c2 c3 => ((hfb5.kept (grown_cell _ gb _ c1) (fun e => hfg (Option.some.inj e))).kept (grown_cell _ gb _ c2) (fun e => hfg (Option.some.inj e))).kept (grown_cell _ gb _ c3) (fun e => hfg (Option.some.inj e))
        have p4 := fun c1 c2 c3 => (hst c1 c2 c3).cell
        have p5 := fun c1 c2 c3 => (hst c1 c2 c3).frozen
        clear hfb5 hws5 hst
        have HX5 := Lib.hid (HX4.out.trans hx5)
        clear s0 s1 s2 s3 s4 s5 s6 x0 x1 x2 t4 t5 t6 t7 t8 t9 hz4 hx5
        go_wp2_with fail
        refine gQ_normal ?_
        go_wp2_with fail
        exact ret_one rfl rfl rfl ⟨rfl, w5, HX5.out, rfl⟩
      · have c1d : decide (cv + y.c < z.c) = false := decide_eq_false c1
        by_cases c2 : cv + y.c = z.c
        · have c2b : (cv + y.c == z.c) = true := by simpa using c2
          by_cases c3 : ((y.k : Nat) : Int) + 1 ≤ (z.k : Nat)
          · obtain rfl : up = true := HUP.out.2 ⟨(fun q => by omega), .inr (.inr ⟨c2, by show y.k + 1 ≤ z.k; omega⟩)⟩
            have c3d : decide (((y.k : Nat) : Int) + 1 ≤ (z.k : Nat)) = true := decide_eq_true c3
            have s0 : ∀ w', EOn (fun _ => True) w4 w' → w'.cell? ⟨fb, 0, none⟩ = _ := fun w' h => h.cell trivial t8
            have s1 : ∀ w', EOn (fun _ => True) w4 w' → w'.cell? ⟨xb, 0, none⟩ = _ := fun w' h => h.cell trivial x0
            have s2 : ∀ w', EOn (fun _ => True) w4 w' → w'.cell? ⟨xb, 1, none⟩ = _ := fun w' h => h.cell trivial x1
            have s3 : ∀ w', EOn (fun _ => True) w4 w' → w'.cell? ⟨vb, 0, none⟩ = _ := fun w' h => h.cell trivial t7
            have s4 : ∀ w', EOn (fun _ => True) w4 w' → w'.cell? ⟨ib, 0, none⟩ = _ := fun w' h => h.cell trivial t9
            have s5 : ∀ w', EOn (fun _ => True) w4 w' → w'.cell? ⟨gb, i * 3, none⟩ = _ := fun w' h => h.cell trivial t4
            have s6 : ∀ w', EOn (fun _ => True) w4 w' → w'.cell? ⟨gb, i * 3 + 1, none⟩ = _ := fun w' h => h.cell trivial t5
            go_wp2_with fail
            refine wp_lex (fun _ => True) [true, true, true, true, true, true, true, true, true, true, true, true, true, true, true, true, true, true, true, true, true, true, true, true, true, true, true, true, true, true, true, true] (by kernel_rfl) (by kernel_rfl) ?_
            repeat first
              | refine wpG_move' ?_
              | refine wpG_assign' ?_
              | refine wpG_val' ?_
              | refine wpG_no' ?_
            refine wpG_end (fun w5 hx5 => ?_)
            have x0' := hx5.cell x0
            have x1' := hx5.cell x1
            have x2' := hx5.cell x2
            have t4' := hx5.cell t4
            have t5' := hx5.cell t5
            have t6' := hx5.cell t6
            have t7' := hx5.cell t7
            have t8' := hx5.cell t8
            have t9' := hx5.cell t9
            have hz4 := frz_blk (((HX4.out.trans hx5).blk HWS.out.1))
            have p1 := hz4 (i * 3)
            have p2 := hz4 (i * 3 + 1)
            have p3 := hz4 (i * 3 + 2)
            have hfb5 := HWS.out.2.ext (HX4.out.trans hx5)
            have hws5 := (HX4.out.trans hx5).blk HWS.out.1
            have hfg : fb ≠ gb := fun e => by
              rw [e] at hfb5
              exact absurd (Obj.cells.inj (Option.some.inj (hfb5.symm.trans hws5))).2.1 (by decide)
            have hst : ∀ c1 c2 c3, Boxed (((w5.setCell ⟨gb, i * 3, none⟩ c1).setCell ⟨gb, i * 3 + 1, none⟩ c2).setCell ⟨gb, i * 3 + 2, none⟩ c3) fb 4 _ := fun c1 c2 c3 => ((hfb5.kept (grown_cell _ gb _ c1) (fun e => hfg (Option.some.inj e))).kept (grown_cell _ gb _ c2) (fun e => hfg (Option.some.inj e))).kept (grown_cell _ gb _ c3) (fun e => hfg (Option.some.inj e))
            have p4 := fun c1 c2 c3 => (hst c1 c2 c3).cell
            have p5 := fun c1 c2 c3 => (hst c1 c2 c3).frozen
            clear hfb5 hws5 hst
            have HX5 := Lib.hid (HX4.out.trans hx5)
            clear s0 s1 s2 s3 s4 s5 s6 x0 x1 x2 t4 t5 t6 t7 t8 t9 hz4 hx5
            go_wp2_with fail
            refine gQ_normal ?_
            go_wp2_with fail
            exact ret_one rfl rfl rfl ⟨rfl, w5, HX5.out, rfl⟩
          · obtain rfl : up = false := by
              cases up
              · rfl
              · exfalso
                rcases (HUP.out.1 rfl).2 with q | q | q
                · cases q
                · exact c1 q
                · have : y.k + 1 ≤ z.k := q.2
                  omega
            have c3d : decide (((y.k : Nat) : Int) + 1 ≤ (z.k : Nat)) = false := decide_eq_false c3
            have s0 : ∀ w', EOn (fun _ => True) w4 w' → w'.cell? ⟨fb, 0, none⟩ = _ := fun w' h => h.cell trivial t8
            have s1 : ∀ w', EOn (fun _ => True) w4 w' → w'.cell? ⟨xb, 0, none⟩ = _ := fun w' h => h.cell trivial x0
            have s2 : ∀ w', EOn (fun _ => True) w4 w' → w'.cell? ⟨xb, 1, none⟩ = _ := fun w' h => h.cell trivial x1
            have s3 : ∀ w', EOn (fun _ => True) w4 w' → w'.cell? ⟨vb, 0, none⟩ = _ := fun w' h => h.cell trivial t7
            have s4 : ∀ w', EOn (fun _ => True) w4 w' → w'.cell? ⟨ib, 0, none⟩ = _ := fun w' h => h.cell trivial t9
            have s5 : ∀ w', EOn (fun _ => True) w4 w' → w'.cell? ⟨gb, i * 3, none⟩ = _ := fun w' h => h.cell trivial t4
            have s6 : ∀ w', EOn (fun _ => True) w4 w' → w'.cell? ⟨gb, i * 3 + 1, none⟩ = _ := fun w' h => h.cell trivial t5
            go_wp2_with fail
            refine wp_lex (fun _ => True) [true, true, true, true, true, true, true, true, true, true, true, true, true, true, true, true, true, true, true, true, true, true, true, true, true, true, true, true, true, true, true, true] (by kernel_rfl) (by kernel_rfl) ?_
            repeat first
              | refine wpG_move' ?_
              | refine wpG_assign' ?_
              | refine wpG_val' ?_
              | refine wpG_no' ?_
            refine wpG_end (fun w5 hx5 => ?_)
            have x0' := hx5.cell x0
            have x1' := hx5.cell x1
            have x2' := hx5.cell x2
            have t4' := hx5.cell t4
            have t5' := hx5.cell t5
            have t6' := hx5.cell t6
            have t7' := hx5.cell t7
            have t8' := hx5.cell t8
            have t9' := hx5.cell t9
            have hz4 := frz_blk (((HX4.out.trans hx5).blk HWS.out.1))
            have p1 := hz4 (i * 3)
            have p2 := hz4 (i * 3 + 1)
            have p3 := hz4 (i * 3 + 2)
            have hfb5 := HWS.out.2.ext (HX4.out.trans hx5)
            have hws5 := (HX4.out.trans hx5).blk HWS.out.1
            have hfg : fb ≠ gb := fun e => by
              rw [e] at hfb5
              exact absurd (Obj.cells.inj (Option.some.inj (hfb5.symm.trans hws5))).2.1 (by decide)
            have hst : ∀ c1 c2 c3, Boxed (((w5.setCell ⟨gb, i * 3, none⟩ c1).setCell ⟨gb, i * 3 + 1, none⟩ c2).setCell ⟨gb, i * 3 + 2, none⟩ c3) fb 4 _ := fun c1 c2 c3 => ((hfb5.kept (grown_cell _ gb _ c1) (fun e => hfg (Option.some.inj e))).kept (grown_cell _ gb _ c2) (fun e => hfg (Option.some.inj e))).kept (grown_cell _ gb _ c3) (fun e => hfg (Option.some.inj e))
            have p4 := fun c1 c2 c3 => (hst c1 c2 c3).cell
            have p5 := fun c1 c2 c3 => (hst c1 c2 c3).frozen
            clear hfb5 hws5 hst
            have HX5 := Lib.hid (HX4.out.trans hx5)
            clear s0 s1 s2 s3 s4 s5 s6 x0 x1 x2 t4 t5 t6 t7 t8 t9 hz4 hx5
            go_wp2_with fail
            refine gQ_normal ?_
            go_wp2_with fail
            exact ret_one rfl rfl rfl ⟨rfl, HX5.out⟩
        · obtain rfl : up = false := by
            cases up
            · rfl
            · exfalso
              rcases (HUP.out.1 rfl).2 with q | q | q
              · cases q
              · exact c1 q
              · exact c2 q.1
          have c2b : (cv + y.c == z.c) = false := by simpa using c2
          have s0 : ∀ w', EOn (fun _ => True) w4 w' → w'.cell? ⟨fb, 0, none⟩ = _ := fun w' h => h.cell trivial t8
          have s1 : ∀ w', EOn (fun _ => True) w4 w' → w'.cell? ⟨xb, 0, none⟩ = _ := fun w' h => h.cell trivial x0
          have s2 : ∀ w', EOn (fun _ => True) w4 w' → w'.cell? ⟨xb, 1, none⟩ = _ := fun w' h => h.cell trivial x1
          have s3 : ∀ w', EOn (fun _ => True) w4 w' → w'.cell? ⟨vb, 0, none⟩ = _ := fun w' h => h.cell trivial t7
          have s4 : ∀ w', EOn (fun _ => True) w4 w' → w'.cell? ⟨ib, 0, none⟩ = _ := fun w' h => h.cell trivial t9
          have s5 : ∀ w', EOn (fun _ => True) w4 w' → w'.cell? ⟨gb, i * 3, none⟩ = _ := fun w' h => h.cell trivial t4
          have s6 : ∀ w', EOn (fun _ => True) w4 w' → w'.cell? ⟨gb, i * 3 + 1, none⟩ = _ := fun w' h => h.cell trivial t5
          go_wp2_with fail
          refine wp_lex (fun _ => True) [true, true, true, true, true, true, true, true, true, true, true, true, true, true, true, true, true, true, true, true, true, true, true, true, true, true, true, true, true, true, true, true] (by kernel_rfl) (by kernel_rfl) ?_
          repeat first
            | refine wpG_move' ?_
            | refine wpG_assign' ?_
            | refine wpG_val' ?_
            | refine wpG_no' ?_
          refine wpG_end (fun w5 hx5 => ?_)
          have x0' := hx5.cell x0
          have x1' := hx5.cell x1
          have x2' := hx5.cell x2
          have t4' := hx5.cell t4
          have t5' := hx5.cell t5
          have t6' := hx5.cell t6
          have t7' := hx5.cell t7
          have t8' := hx5.cell t8
          have t9' := hx5.cell t9
          have hz4 := frz_blk (((HX4.out.trans hx5).blk HWS.out.1))
          have p1 := hz4 (i * 3)
          have p2 := hz4 (i * 3 + 1)
          have p3 := hz4 (i * 3 + 2)
          have hfb5 := HWS.out.2.ext (HX4.out.trans hx5)
          have hws5 := (HX4.out.trans hx5).blk HWS.out.1
          have hfg : fb ≠ gb := fun e => by
            rw [e] at hfb5
            exact absurd (Obj.cells.inj (Option.some.inj (hfb5.symm.trans hws5))).2.1 (by decide)
          have hst : ∀ c1 c2 c3, Boxed (((w5.setCell ⟨gb, i * 3, none⟩ c1).setCell ⟨gb, i * 3 + 1, none⟩ c2).setCell ⟨gb, i * 3 + 2, none⟩ c3) fb 4 _ := fun c1 c2 c3 => ((hfb5.kept (grown_cell _ gb _ c1) (fun e => hfg (Option.some.inj e))).kept (grown_cell _ gb _ c2) (fun e => hfg (Option.some.inj e))).kept (grown_cell _ gb _ c3) (fun e => hfg (Option.some.inj e))
          have p4 := fun c1 c2 c3 => (hst c1 c2 c3).cell
          have p5 := fun c1 c2 c3 => (hst c1 c2 c3).frozen
          clear hfb5 hws5 hst
          have HX5 := Lib.hid (HX4.out.trans hx5)
          clear s0 s1 s2 s3 s4 s5 s6 x0 x1 x2 t4 t5 t6 t7 t8 t9 hz4 hx5
          go_wp2_with fail
          refine gQ_normal ?_
          go_wp2_with fail
          exact ret_one rfl rfl rfl ⟨rfl, HX5.out⟩
end Go.Proofs.YtlmkbldiicbejaaGreatDoor
end

section
namespace Go.Proofs.YtlmkbldiicbejaaGreatDoor
open Go.RowKit Go.Rp Go.Maps Go.Cl Go.Shelf Go.Gr

theorem cost_bd {L : List Wp.Bx} (hpar : IsPar L) (hsm : SmB L) (hn : L.length ≤ 64) (r : Wp.Wr) (hW : InK r.w) (hF : InK r.f) (hR : InK r.r) {i j : Nat} (hi : i < L.length) (hj : j < L.length) : Wp.cost r L i j ≤ 2000000000000000 ∧ szP L i j ≤ 13000000 := by
  have h1 := hsm.ahd i j
  have h3 := hsm.2 L[j] (List.getElem_mem hj)
  have hs : szP L i j ≤ 13000000 := by
    unfold szP Wp.gB
    rw [List.getD_eq_getElem?_getD, List.getElem?_eq_getElem hj, Option.getD_some]
    split <;> omega
  refine ⟨?_, hs⟩
  rw [hpar.cost r hi hj]
  unfold InK at hW hF hR
  have hrb : -100000 ≤ (if i = 0 then r.w - r.f else r.w - r.r) ∧ (if i = 0 then r.w - r.f else r.w - r.r) ≤ 100000 := by split <;> omega
  generalize (if i = 0 then r.w - r.f else r.w - r.r) = rm at hrb ⊢
  generalize szP L i j = sz at hs ⊢
  have h4 : (rm - (sz : Nat)).natAbs ≤ 13100000 := by omega
  have h5 := Int.natAbs_mul_self (a := rm - (sz : Nat))
  have h6 := Nat.mul_le_mul h4 h4
  have h7 : 10 * (rm - (sz : Nat)) * (rm - (sz : Nat)) = 10 * ((rm - (sz : Nat)) * (rm - (sz : Nat))) := Int.mul_assoc _ _ _
  split
  · rw [h7]; omega
  · split <;> omega
theorem bestW_bd {L : List Wp.Bx} (hpar : IsPar L) (hsm : SmB L) (hn : L.length ≤ 64) (r : Wp.Wr) (hW : InK r.w) (hF : InK r.f) (hR : InK r.r) : ∀ (f i : Nat), L.length ≤ f + i → i ≤ L.length → 0 ≤ (Wp.bestW r L f i).c ∧ (Wp.bestW r L f i).c ≤ 2000000000000000 * ((L.length - i : Nat) : Int) ∧ (Wp.bestW r L f i).k ≤ L.length - i
  | 0, i, h, h1 => by
    rw [Wp.bestW]
    simp
    omega
  | f + 1, i, h, h1 => by
    by_cases hi : i < L.length
    · obtain ⟨a1, a2, a3, a4, _⟩ := Wp.bestW_spec r L f i h hi
      have hl := hpar.lst hi
      have hcn := Wp.cost_nn r L i (Wp.bestW r L (f + 1) i).e
      have hcb := (cost_bd hpar hsm hn r hW hF hR hi (j := (Wp.bestW r L (f + 1) i).e) (by omega)).1
      obtain ⟨b1, b2, b3⟩ := bestW_bd hpar hsm hn r hW hF hR f ((Wp.bestW r L (f + 1) i).e + 1) (by omega) (by omega)
      have hc : (Wp.bestW r L (f + 1) i).c = Wp.cost r L i (Wp.bestW r L (f + 1) i).e + (Wp.bestW r L f ((Wp.bestW r L (f + 1) i).e + 1)).c := by
        conv => lhs; rw [a4]
        rfl
      have hk : (Wp.bestW r L (f + 1) i).k = (Wp.bestW r L f ((Wp.bestW r L (f + 1) i).e + 1)).k + 1 := by
        conv => lhs; rw [a4]
        rfl
      rw [hc, hk]
      omega
    · rw [Wp.bestW, if_neg hi]
      refine ⟨Int.le_refl _, ?_, Nat.zero_le _⟩
      show (0 : Int) ≤ _
      omega
/-- The table: nothing yet ahead of a number, the best ways from there on. -/
noncomputable def allT (r : Wp.Wr) (L : List Wp.Bx) (m : Nat) : List Wp.Way := (List.range (L.length + 1)).map fun k => if k < m then ⟨0, 0, 0⟩ else Wp.bestW r L L.length k
theorem allT_len (r : Wp.Wr) (L : List Wp.Bx) (m : Nat) : (allT r L m).length = L.length + 1 := by simp [allT]
theorem allT_get (r : Wp.Wr) (L : List Wp.Bx) (m k : Nat) (h : k ≤ L.length) : (allT r L m)[k]? = some (if k < m then ⟨0, 0, 0⟩ else Wp.bestW r L L.length k) := by
  unfold allT
  rw [List.getElem?_map, List.getElem?_range (by omega)]
  rfl
/-- The best of the lines from a box on to those up to a number. -/
def accW (r : Wp.Wr) (L : List Wp.Bx) (i j : Nat) : Option Wp.Way := Wp.pickE r L i (Wp.bestW r L L.length) (List.range' i (j - i)) none
theorem accW_self (r : Wp.Wr) (L : List Wp.Bx) (i : Nat) : accW r L i i = none := by
  unfold accW
  rw [Nat.sub_self]
  rfl
theorem accW_succ (r : Wp.Wr) (L : List Wp.Bx) {i j : Nat} (h : i ≤ j) : accW r L i (j + 1) = if Wp.fit r L i j = true then Wp.stepE (Wp.wayX r L i (Wp.bestW r L L.length) j) (accW r L i j) else accW r L i j := by
  unfold accW
  obtain ⟨k, rfl⟩ : ∃ k, j = i + k := ⟨j - i, by omega⟩
  rw [show i + k + 1 - i = k + 1 by omega, List.range'_concat, Wp.pickE_append, Nat.one_mul, show i + k - i = k by omega]
  rfl
theorem accW_end {L : List Wp.Bx} (hpar : IsPar L) (r : Wp.Wr) {i : Nat} (hi : i < L.length) : (accW r L i L.length).getD ⟨0, 0, 0⟩ = Wp.bestW r L L.length i := by
  rw [Wp.bestW_fuel r L L.length (L.length + 1) i (by omega) (by omega), Wp.bestW, if_pos hi, hpar.lst hi, show L.length - 1 + 1 - i = L.length - i by omega]
  rfl
/-- The table while the ways from one box on are tried. -/
noncomputable def wayT (r : Wp.Wr) (L : List Wp.Bx) (i j : Nat) : List Wp.Way := (allT r L (i + 1)).set i ((accW r L i j).getD ⟨0, 0, 0⟩)
theorem wayT_len (r : Wp.Wr) (L : List Wp.Bx) (i j : Nat) : (wayT r L i j).length = L.length + 1 := by simp [wayT, allT_len]
theorem wayT_at (r : Wp.Wr) (L : List Wp.Bx) (i j : Nat) (h : i ≤ L.length) : (wayT r L i j)[i]? = some ((accW r L i j).getD ⟨0, 0, 0⟩) := by
  unfold wayT
  rw [List.getElem?_set_self (by rw [allT_len]; omega)]
theorem wayT_rest (r : Wp.Wr) (L : List Wp.Bx) (i j k : Nat) (h : k < L.length) (hk : i ≤ k) : (wayT r L i j)[k + 1]? = some (Wp.bestW r L L.length (k + 1)) := by
  unfold wayT
  rw [List.getElem?_set_ne (by omega), allT_get r L (i + 1) (k + 1) (by omega), if_neg (by omega)]
theorem wayT_set (r : Wp.Wr) (L : List Wp.Bx) (i j j' : Nat) (x : Wp.Way) (h : (accW r L i j').getD ⟨0, 0, 0⟩ = x) : (wayT r L i j).set i x = wayT r L i j' := by
  unfold wayT
  rw [List.set_set, h]
theorem wayT_start (r : Wp.Wr) (L : List Wp.Bx) (i : Nat) : wayT r L i i = allT r L (i + 1) := by
  unfold wayT
  rw [accW_self]
  refine List.ext_getElem? fun k => ?_
  by_cases hk : k ≤ L.length
  · by_cases e : i = k
    · subst e
      rw [List.getElem?_set_self (by rw [allT_len]; omega), allT_get r L _ _ hk, if_pos (by omega)]
      rfl
    · rw [List.getElem?_set_ne e]
  · rw [List.getElem?_eq_none (by rw [List.length_set, allT_len]; omega), List.getElem?_eq_none (by rw [allT_len]; omega)]
theorem wayT_end {L : List Wp.Bx} (hpar : IsPar L) (r : Wp.Wr) {i : Nat} (hi : i < L.length) : wayT r L i L.length = allT r L i := by
  unfold wayT
  rw [accW_end hpar r hi]
  refine List.ext_getElem? fun k => ?_
  by_cases hk : k ≤ L.length
  · by_cases e : i = k
    · subst e
      rw [List.getElem?_set_self (by rw [allT_len]; omega), allT_get r L _ _ hk, if_neg (by omega)]
    · rw [List.getElem?_set_ne e, allT_get r L _ _ hk, allT_get r L _ _ hk]
      by_cases h2 : k < i
      · rw [if_pos (by omega), if_pos h2]
      · rw [if_neg (by omega), if_neg h2]
  · rw [List.getElem?_eq_none (by rw [List.length_set, allT_len]; omega), List.getElem?_eq_none (by rw [allT_len]; omega)]
theorem allT_zero (r : Wp.Wr) (L : List Wp.Bx) : allT r L L.length = List.replicate (L.length + 1) ⟨0, 0, 0⟩ := by
  refine List.ext_getElem? fun k => ?_
  by_cases hk : k ≤ L.length
  · rw [allT_get r L _ _ hk, List.getElem?_replicate, if_pos (show k < L.length + 1 by omega)]
    by_cases e : k < L.length
    · rw [if_pos e]
    · obtain rfl : k = L.length := by omega
      rw [if_neg e, Wp.bestW_fuel r L L.length 0 L.length (by omega) (by omega)]
      rfl
  · rw [List.getElem?_eq_none (by rw [allT_len]; omega), List.getElem?_eq_none (by rw [List.length_replicate]; omega)]
theorem acc_from (r : Wp.Wr) (L : List Wp.Bx) (i : Nat) : ∀ k x, accW r L i (i + k) = some x → ∃ j, i ≤ j ∧ j < i + k ∧ x = Wp.wayX r L i (Wp.bestW r L L.length) j
  | 0, x, h => by rw [Nat.add_zero, accW_self] at h; cases h
  | k + 1, x, h => by
    rw [← Nat.add_assoc, accW_succ r L (by omega)] at h
    have hold : accW r L i (i + k) = some x → ∃ j, i ≤ j ∧ j < i + (k + 1) ∧ x = Wp.wayX r L i (Wp.bestW r L L.length) j := fun h => by
      obtain ⟨j, h1, h2, h3⟩ := acc_from r L i k x h
      exact ⟨j, h1, by omega, h3⟩
    have hnew : Wp.wayX r L i (Wp.bestW r L L.length) (i + k) = x → ∃ j, i ≤ j ∧ j < i + (k + 1) ∧ x = Wp.wayX r L i (Wp.bestW r L L.length) j := fun e => ⟨i + k, by omega, by omega, e.symm⟩
    split at h
    · cases hb : accW r L i (i + k) with
      | none => rw [hb] at h; exact hnew (Option.some.inj h)
      | some b =>
        rw [hb] at h
        simp only [Wp.stepE] at h
        split at h
        · exact hnew (Option.some.inj h)
        · exact hold (by rw [hb]; exact h)
    · exact hold h
/-- All ways of the table are small. -/
theorem wayT_bd {L : List Wp.Bx} (hpar : IsPar L) (hsm : SmB L) (hn : L.length ≤ 64) (r : Wp.Wr) (hW : InK r.w) (hF : InK r.f) (hR : InK r.r) (i j : Nat) (hi : i < L.length) (hij : i ≤ j) (hj : j ≤ L.length) : ∀ x ∈ wayT r L i j, 0 ≤ x.c ∧ x.c ≤ 200000000000000000 ∧ x.k ≤ 100 := by
  intro x hx
  obtain ⟨k, hk, e⟩ := List.getElem_of_mem hx
  rw [wayT_len] at hk
  have h2 : (wayT r L i j)[k]? = some x := by rw [List.getElem?_eq_getElem (by rw [wayT_len]; exact hk), e]
  have hz : ∀ y : Wp.Way, y = ⟨0, 0, 0⟩ → 0 ≤ y.c ∧ y.c ≤ 200000000000000000 ∧ y.k ≤ 100 := fun y e => by subst e; decide
  by_cases hik : i = k
  · subst hik
    rw [wayT_at r L i j (by omega)] at h2
    have h3 := Option.some.inj h2
    cases ha : accW r L i j with
    | none => rw [ha] at h3; exact hz x h3.symm
    | some y =>
      rw [ha] at h3
      obtain rfl : y = x := h3
      obtain ⟨d, rfl⟩ : ∃ d, j = i + d := ⟨j - i, by omega⟩
      obtain ⟨q, q1, q2, rfl⟩ := acc_from r L i d y ha
      have h4 := cost_bd hpar hsm hn r hW hF hR hi (j := q) (by omega)
      have h5 := Wp.cost_nn r L i q
      obtain ⟨b1, b2, b3⟩ := bestW_bd hpar hsm hn r hW hF hR L.length (q + 1) (by omega) (by omega)
      unfold Wp.wayX
      simp only
      omega
  · unfold wayT at h2
    rw [List.getElem?_set_ne hik, allT_get r L _ _ (by omega)] at h2
    have h3 := Option.some.inj h2
    split at h3
    · exact hz x h3.symm
    · subst h3
      obtain ⟨b1, b2, b3⟩ := bestW_bd hpar hsm hn r hW hF hR L.length k (by omega) (by omega)
      omega
end Go.Proofs.YtlmkbldiicbejaaGreatDoor
end

section
namespace Go.Proofs.YtlmkbldiicbejaaGreatDoor
open Go.RowKit Go.Rp Go.Maps Go.Cl Go.Shelf Go.Gr

/-- Blocks of two types are two blocks. -/
theorem blk_ne {V : World} {a b : Nat} {c c' : Array Value} {t t' : TypeId} {z z' : Nat × Nat} (h : V.heap[a]? = some (.cells c t z)) (k : V.heap[b]? = some (.cells c' t' z')) (ht : t ≠ t') : a ≠ b := fun e => by
  subst e
  exact ht (Obj.cells.inj (Option.some.inj (h.symm.trans k))).2.1
theorem updW_other (V : World) (gb i fb : Nat) (c : Int) (k e : Nat) {b : Nat} {o : Obj} (h : V.heap[b]? = some o) (h1 : b ≠ gb) (h2 : b ≠ fb) : (updW V gb i fb c k e).heap[b]? = some o := by
  have hl := (Array.getElem?_eq_some_iff.1 h).1
  unfold updW
  have g1 := grown_cell V gb (i * 3) (.int .i64 c)
  have g2 := grown_cell (V.setCell ⟨gb, i * 3, none⟩ (.int .i64 c)) gb (i * 3 + 1) (.int .i64 (k : Nat))
  have g3 := grown_cell ((V.setCell ⟨gb, i * 3, none⟩ (.int .i64 c)).setCell ⟨gb, i * 3 + 1, none⟩ (.int .i64 (k : Nat))) gb (i * 3 + 2) (.int .i64 (e : Nat))
  have g4 := grown_cell (((V.setCell ⟨gb, i * 3, none⟩ (.int .i64 c)).setCell ⟨gb, i * 3 + 1, none⟩ (.int .i64 (k : Nat))).setCell ⟨gb, i * 3 + 2, none⟩ (.int .i64 (e : Nat))) fb 0 (.bool true)
  have n1 : some b ≠ some gb := fun e => h1 (Option.some.inj e)
  have n2 : some b ≠ some fb := fun e => h2 (Option.some.inj e)
  have s1 := (g1.block b hl n1).trans h
  have s2 := (g2.block b (Array.getElem?_eq_some_iff.1 s1).1 n1).trans s1
  have s3 := (g3.block b (Array.getElem?_eq_some_iff.1 s2).1 n1).trans s2
  exact (g4.block b (Array.getElem?_eq_some_iff.1 s3).1 n2).trans s3
theorem updW_size (V : World) (gb i fb : Nat) (c : Int) (k e : Nat) : V.heap.size ≤ (updW V gb i fb c k e).heap.size := by
  unfold updW
  simp
theorem updW_ext {w V : World} (h : Ext w V) {gb i fb : Nat} (h1 : w.heap.size ≤ gb) (h2 : w.heap.size ≤ fb) (c : Int) (k e : Nat) : Ext w (updW V gb i fb c k e) :=
  Ext.setCell (Ext.setCell (Ext.setCell (Ext.setCell h h1 _) h1 _) h1 _) h2 _
theorem updW_ways {V : World} {gb i fb : Nat} {ws : List Wp.Way} (h : WyIs V gb ws) (hi : i < ws.length) (hne : gb ≠ fb) (c : Int) (k e : Nat) : WyIs (updW V gb i fb c k e) gb (ws.set i ⟨c, k, e⟩) := by
  have h1 := set_blk (set_blk (set_blk h (i * 3) (.int .i64 c)) (i * 3 + 1) (.int .i64 (k : Nat))) (i * 3 + 2) (.int .i64 (e : Nat))
  have g4 := grown_cell (((V.setCell ⟨gb, i * 3, none⟩ (.int .i64 c)).setCell ⟨gb, i * 3 + 1, none⟩ (.int .i64 (k : Nat))).setCell ⟨gb, i * 3 + 2, none⟩ (.int .i64 (e : Nat))) fb 0 (.bool true)
  have h2 := (g4.block gb (blk_lt h1) (fun q => hne (Option.some.inj q))).trans h1
  unfold WyIs updW
  rw [h2]
  have h3 := wyW_set ws i ⟨c, k, e⟩ hi
  rw [← h3]
  simp only [List.setIfInBounds_toArray]
/-- What stands while the ways of a box are tried. -/
structure EvI (p : Option Addr) (c f : Nat) (W F R H : Int) (L : List Wp.Bx) (i pb ib vb fb gb cp : Nat) (w : World) (j : Nat) (V : World) : Prop where
  row : BxRow V (.slice p L.length c) (L.map bxI)
  hp : V.heap[pb]? = some (.cells #[.slice p L.length c, .int .i64 (f : Nat), .int .i64 W, .int .i64 F, .int .i64 R, .int .i64 H] 61 (0, 0))
  hi : Boxed V ib 3 (.int .i64 (i : Nat))
  hv : Boxed V vb 78 (.slice (some ⟨gb, 0, none⟩) (L.length + 1) cp)
  hf : Boxed V fb 4 (.bool (accW ⟨W, F, R⟩ L i j).isSome)
  hw : WyIs V gb (wayT ⟨W, F, R⟩ L i j)
  x : Ext w V
theorem EvI.ext {p : Option Addr} {c f : Nat} {W F R H : Int} {L : List Wp.Bx} {i pb ib vb fb gb cp : Nat} {w : World} {j : Nat} {A B : World} (h : EvI p c f W F R H L i pb ib vb fb gb cp w j A) (hx : Ext A B) : EvI p c f W F R H L i pb ib vb fb gb cp w j B :=
  ⟨h.row.ext hx, hx.blk h.hp, h.hi.ext hx, h.hv.ext hx, h.hf.ext hx, h.hw.ext hx, h.x.trans hx⟩
theorem EvI.next {p : Option Addr} {c f : Nat} {W F R H : Int} {L : List Wp.Bx} {i pb ib vb fb gb cp : Nat} {w w0 : World} (hpar : IsPar L) (hsm : SmB L) (hn : L.length ≤ 64) (hi : i < L.length) (hW : InK W) (hF : InK F) (hR : InK R) (hr0 : BxRow w (.slice p L.length c) (L.map bxI)) (hgb : w.heap.size ≤ gb) (hfb : w.heap.size ≤ fb) (hg0 : gb < w0.heap.size) (hf0 : fb < w0.heap.size)
    (j : Nat) (V : World) (hij : i ≤ j) (hj : j < L.length) (h : EvI p c f W F R H L i pb ib vb fb gb cp w j V) :
    Calls Tryz.prog 42 (#[.int .i64 (j : Nat), .int .i64 (szP L i j : Nat)] ++ #[.pointer (some ⟨pb, 0, none⟩), .pointer (some ⟨ib, 0, none⟩), .pointer (some ⟨vb, 0, none⟩), .pointer (some ⟨fb, 0, none⟩)]) V fun e V' => ∃ b, e = .returned (.bool b) ∧ Up w0.heap.size V V' ∧ (b = true → EvI p c f W F R H L i pb ib vb fb gb cp w (j + 1) V') ∧ (b = false → False) := by
  have hcost := hpar.cost ⟨W, F, R⟩ hi hj
  have hfit := hpar.fit ⟨W, F, R⟩ hi hj
  simp only at hcost hfit
  have hsz := (cost_bd hpar hsm hn ⟨W, F, R⟩ hW hF hR hi hj).2
  have hX : Wp.wayX ⟨W, F, R⟩ L i (Wp.bestW ⟨W, F, R⟩ L L.length) j = ⟨Wp.cost ⟨W, F, R⟩ L i j + (Wp.bestW ⟨W, F, R⟩ L L.length (j + 1)).c, (Wp.bestW ⟨W, F, R⟩ L L.length (j + 1)).k + 1, j⟩ := rfl
  have hacc := accW_succ ⟨W, F, R⟩ L (i := i) (j := j) hij
  have hsome : (accW ⟨W, F, R⟩ L i j).isSome = false ↔ accW ⟨W, F, R⟩ L i j = none := by cases accW ⟨W, F, R⟩ L i j <;> simp
  obtain ⟨up, hup⟩ : ∃ up : Bool, up = true ↔ ¬ ((if i = 0 then W - F else W - R) < (szP L i j : Nat) ∧ i < j) ∧ ((accW ⟨W, F, R⟩ L i j).isSome = false ∨ Wp.wayLe ⟨Wp.cost ⟨W, F, R⟩ L i j + (Wp.bestW ⟨W, F, R⟩ L L.length (j + 1)).c, (Wp.bestW ⟨W, F, R⟩ L L.length (j + 1)).k + 1, j⟩ ((accW ⟨W, F, R⟩ L i j).getD ⟨0, 0, 0⟩)) := ⟨decide _, decide_eq_true_iff⟩
  refine (c_even1 p L.length c f W F R H i j (szP L i j) pb ib vb fb gb cp _ (wayT ⟨W, F, R⟩ L i j) V hW hF hR h.hp h.hi h.hv h.hf h.hw (wayT_len _ _ _ _) hn hij hj hsz (wayT_bd hpar hsm hn _ hW hF hR i j hi hij (by omega)) up _ _ _ (wayT_rest _ L i j j hj hij) (wayT_at _ L i j (by omega)) hcost hup).mono ?_
  rintro e V' ⟨rfl, V4, hx4, hV⟩
  have h4 := h.ext hx4
  have hpg := blk_ne h4.hp h4.hw (by decide)
  have hpf := blk_ne h4.hp h4.hf (by decide)
  have hig := blk_ne h4.hi h4.hw (by decide)
  have hif := blk_ne h4.hi h4.hf (by decide)
  have hvg := blk_ne h4.hv h4.hw (by decide)
  have hvf := blk_ne h4.hv h4.hf (by decide)
  have hgf := blk_ne h4.hw h4.hf (by decide)
  refine ⟨true, rfl, ?_, fun _ => ?_, fun q => by cases q⟩
  · rw [hV]
    split
    · exact (Up.of_ext hx4).trans ⟨updW_size _ _ _ _ _ _ _, fun b hb hl => by
        rw [Array.getElem?_eq_getElem hl]
        exact updW_other V4 gb i fb _ _ _ (Array.getElem?_eq_getElem hl) (by omega) (by omega)⟩
    · exact Up.of_ext hx4
  · rw [hV]
    by_cases hu : up = true
    · obtain ⟨u1, u2⟩ := hup.1 hu
      have hf1 : Wp.fit ⟨W, F, R⟩ L i j = true := by
        rw [hfit, Bool.or_eq_true, decide_eq_true_eq, beq_iff_eq]
        by_cases e : i = j
        · exact .inl e
        · right
          apply Decidable.byContradiction
          intro hn2
          exact u1 ⟨by omega, by omega⟩
      have hnext : accW ⟨W, F, R⟩ L i (j + 1) = some ⟨Wp.cost ⟨W, F, R⟩ L i j + (Wp.bestW ⟨W, F, R⟩ L L.length (j + 1)).c, (Wp.bestW ⟨W, F, R⟩ L L.length (j + 1)).k + 1, j⟩ := by
        rw [hacc, if_pos hf1, hX]
        cases ha : accW ⟨W, F, R⟩ L i j with
        | none => rfl
        | some b =>
          rw [ha] at u2
          rcases u2 with u2 | u2
          · cases u2
          · exact if_pos u2
      rw [if_pos hu]
      have hxx := updW_ext h4.x hgb hfb (i := i) (Wp.cost ⟨W, F, R⟩ L i j + (Wp.bestW ⟨W, F, R⟩ L L.length (j + 1)).c) ((Wp.bestW ⟨W, F, R⟩ L L.length (j + 1)).k + 1) j
      refine ⟨hr0.ext hxx, updW_other _ _ _ _ _ _ _ h4.hp hpg hpf, updW_other _ _ _ _ _ _ _ h4.hi hig hif, updW_other _ _ _ _ _ _ _ h4.hv hvg hvf, ?_, ?_, hxx⟩
      · rw [hnext]
        have hb3 : Boxed (((V4.setCell ⟨gb, i * 3, none⟩ (.int .i64 (Wp.cost ⟨W, F, R⟩ L i j + (Wp.bestW ⟨W, F, R⟩ L L.length (j + 1)).c))).setCell ⟨gb, i * 3 + 1, none⟩ (.int .i64 ((Wp.bestW ⟨W, F, R⟩ L L.length (j + 1)).k + 1 : Nat))).setCell ⟨gb, i * 3 + 2, none⟩ (.int .i64 (j : Nat))) fb 4 _ :=
          ((h4.hf.kept (grown_cell _ gb _ _) (fun e => hgf (Option.some.inj e).symm)).kept (grown_cell _ gb _ _) (fun e => hgf (Option.some.inj e).symm)).kept (grown_cell _ gb _ _) (fun e => hgf (Option.some.inj e).symm)
        exact hb3.set (.bool true)
      · have := updW_ways h4.hw (i := i) (fb := fb) (by rw [wayT_len]; omega) hgf (Wp.cost ⟨W, F, R⟩ L i j + (Wp.bestW ⟨W, F, R⟩ L L.length (j + 1)).c) ((Wp.bestW ⟨W, F, R⟩ L L.length (j + 1)).k + 1) j
        rw [wayT_set ⟨W, F, R⟩ L i j (j + 1) _ (by rw [hnext]; rfl)] at this
        exact this
    · rw [if_neg hu]
      have hsame : accW ⟨W, F, R⟩ L i (j + 1) = accW ⟨W, F, R⟩ L i j := by
        rw [hacc]
        split
        · rename_i hf1
          have hnu : ¬ (_ ∧ _) := fun q => hu (hup.2 q)
          cases ha : accW ⟨W, F, R⟩ L i j with
          | none =>
            exfalso
            rw [hfit, Bool.or_eq_true, decide_eq_true_eq, beq_iff_eq] at hf1
            refine hnu ⟨fun q => ?_, .inl (hsome.2 ha)⟩
            rcases hf1 with e | e <;> omega
          | some b =>
            rw [hX]
            refine if_neg fun q => hnu ⟨fun q2 => ?_, .inr (by rw [ha]; exact q)⟩
            rw [hfit, Bool.or_eq_true, decide_eq_true_eq, beq_iff_eq] at hf1
            rcases hf1 with e | e <;> omega
        · rfl
      have hway : wayT ⟨W, F, R⟩ L i (j + 1) = wayT ⟨W, F, R⟩ L i j := by unfold wayT; rw [hsame]
      exact ⟨h4.row, h4.hp, h4.hi, h4.hv, by rw [hsame]; exact h4.hf, by rw [hway]; exact h4.hw, h4.x⟩
end Go.Proofs.YtlmkbldiicbejaaGreatDoor
end
