/-
 The reference: what two runes join to; the second ones.
-/
import Derived.Test.YtokeamebcdhnpaaGreatDoorRefA
namespace Go.Proofs.YtokeamebcdhnpaaGreatDoor
open Go.RowKit Go.Rp Go.Shelf Go.Maps Go.Nm

@[go_sem] theorem fldL0 (n : Int) (q : Option Addr) (m c : Nat) (w : World) : (Instr.field 123 (.agg #[.int .i32 n, .slice q m c]) 0).run Tryz.prog w = .ok (.int .i32 n) w := by kernel_rfl
@[go_sem] theorem fldL1 (n : Int) (q : Option Addr) (m c : Nat) (w : World) : (Instr.field 123 (.agg #[.int .i32 n, .slice q m c]) 1).run Tryz.prog w = .ok (.slice q m c) w := by kernel_rfl
/-- The first line that two numbers make up. -/
def jnR (X : List (List Nat)) : List (List Nat) → Int → Int → Option Int
 | [], _, _ => none
 | x :: t, a, b => if up x.tail = [a, b] ∧ lookL X ((x.headD 0 : Nat) : Int) = none then some ((x.headD 0 : Nat) : Int) else jnR X t a b
theorem jnR_drop {X L : List (List Nat)} {a b : Int} {i : Nat} (h : i < L.length) : jnR X (L.drop i) a b = if up L[i].tail = [a, b] ∧ lookL X ((L[i].headD 0 : Nat) : Int) = none then some ((L[i].headD 0 : Nat) : Int) else jnR X (L.drop (i + 1)) a b := by
 rw [List.drop_eq_getElem_cons h, jnR]
theorem rX_keys : rX.map (fun x => x.headD 0) = (wordsC textX.data.toList).map fun ws => hexV (ws.headD []) := by kernel_rfl
theorem lookL_in (L : List (List Nat)) (r : Int) : lookL L r = none ↔ r ∉ L.map fun x => ((x.headD 0 : Nat) : Int) := by
 induction L with
 | nil => simp [lookL]
 | cons e t ih =>
  rw [lookL, List.map_cons, List.mem_cons]
  by_cases h : ((e.headD 0 : Nat) : Int) = r
  ·rw [if_pos h]
   constructor
   ·intro h1
    cases h1
   ·intro h1
    exact absurd (.inl h.symm) h1
  ·rw [if_neg h, ih]
   constructor
   ·intro h1 h2
    rcases h2 with h2 | h2
    ·exact h h2.symm
    ·exact h1 h2
   ·intro h1 h2
    exact h1 (.inr h2)
theorem outs_eq : (linesX.map keyOfL) = rX.map fun x => ((x.headD 0 : Nat) : Int) := by
 have h := congrArg (List.map fun n : Nat => (n : Int)) rX_keys
 rw [List.map_map, List.map_map] at h
 exact h.symm
theorem jnR_jnL (a b : Int) : jnR rX rA a b = jnL a b := by
 unfold jnL joinsT
 rw [apartT_up, ← rA_AN, outs_eq, List.map_map]
 generalize rA = L
 induction L with
 | nil => rfl
 | cons x t ih =>
  rw [jnR, List.map_cons, List.filterMap_cons]
  have e : ((fun e : Nat × List Nat => (((e.1 : Nat) : Int), up e.2)) ∘ fun x : List Nat => (x.headD 0, x.tail)) x = (((x.headD 0 : Nat) : Int), up x.tail) := rfl
  rw [e]
  obtain ⟨hd, hhd⟩ : ∃ h : Int, ((x.headD 0 : Nat) : Int) = h := ⟨_, rfl⟩
  obtain ⟨tl, htl⟩ : ∃ l, up x.tail = l := ⟨_, rfl⟩
  rw [hhd, htl]
  by_cases h2 : ∃ p q, tl = [p, q]
  ·obtain ⟨p, q, rfl⟩ := h2
   by_cases ho : lookL rX hd = none
   ·have hj : jnE (rX.map fun x => ((x.headD 0 : Nat) : Int)) (hd, [p, q]) = some ((p, q), hd) := by
     unfold jnE
     simp only
     rw [if_neg ((lookL_in rX hd).1 ho)]
    rw [hj]
    simp only [List.find?_cons]
    by_cases hpq : p = a ∧ q = b
    ·obtain ⟨rfl, rfl⟩ := hpq
     rw [if_pos ⟨rfl, ho⟩]
     simp
    ·have hn : ¬ ([p, q] = [a, b] ∧ lookL rX hd = none) := fun h => hpq (by
      have := h.1
      simp at this
      exact this)
     have hf : decide (((p, q) : Int × Int) = (a, b)) = false := decide_eq_false (fun h => hpq (by simpa using h))
     rw [if_neg hn, ih, hf]
   ·have hj : jnE (rX.map fun x => ((x.headD 0 : Nat) : Int)) (hd, [p, q]) = none := by
     unfold jnE
     simp only
     rw [if_pos (Decidable.not_not.1 (fun h => ho ((lookL_in rX hd).2 h)))]
    rw [hj, if_neg (fun h => ho h.2), ih]
  ·have hj : jnE (rX.map fun x => ((x.headD 0 : Nat) : Int)) (hd, tl) = none := by
    unfold jnE
    match tl, h2 with
    | [], _ => rfl
    | [x], _ => rfl
    | [p, q], h => exact absurd ⟨p, q, rfl⟩ h
    | x :: y :: z :: t, _ => rfl
   rw [hj, if_neg (fun h => h2 ⟨a, b, h.1⟩), ih]
set_option maxRecDepth 100000 in
set_option maxHeartbeats 16000000 in
theorem c_rJoin (tB : Nat) (a b : Int) (w : World) (h : RTab w tB) :
  Calls Tryz.prog 82 #[.pointer (some ⟨tB, 0, none⟩), .int .i32 a, .int .i32 b] w fun e w' => e = .returned (.tuple #[.int .i32 ((jnT a b).getD 0), .bool (jnT a b).isSome]) ∧ Ext w w' := by
 obtain ⟨vA, vK, vX, vO, hb, hA, -, hX, -⟩ := h.ex
 have y0 : w.cell? ⟨tB, 0, none⟩ = some vA := (cell_blk hb 0).trans rfl
 have y2 : w.cell? ⟨tB, 2, none⟩ = some vX := (cell_blk hb 2).trans rfl
 have HFX := Lib.hid (fun r w2 (hx : Ext w w2) => c_rfind vX rX r w2 (hX.mono hx) (by have := rLen.2.2.1; omega))
 obtain ⟨pX, cX, rfl, -⟩ := hX
 obtain ⟨p, cap, rfl, hc⟩ := hA
 have hrl := rLen.1
 have HJ := Lib.hid (jnR_jnL a b)
 have HC := Lib.hid hc
 clear hb hc h
 obtain ⟨L, hL⟩ : ∃ L, rA = L := ⟨_, rfl⟩
 rw [hL] at HJ HC hrl y0
 clear hL
 obtain ⟨X, hX⟩ : ∃ L, rX = L := ⟨_, rfl⟩
 rw [hX] at HJ HFX y2
 clear hX
 by_cases h1 : (4352 ≤ a ∧ a ≤ 4370) ∧ 4449 ≤ b ∧ b ≤ 4469
 ·have hj : jnT a b = some (44032 + ((a - 4352) * 21 + b - 4449) * 28) := by unfold jnT; rw [if_pos h1]
  rw [hj]
  have HE := Lib.hid (show 44032 + (a - 4352) * 588 + (b - 4449) * 28 = 44032 + ((a - 4352) * 21 + b - 4449) * 28 by omega)
  obtain ⟨⟨a1, a2⟩, b1, b2⟩ := h1
  have e1 := decide_eq_true a2
  have e2 := decide_eq_true b1
  have e3 := decide_eq_true b2
  clear hj HC HFX
  go_enter Tryz.func82, Tryz.ntmps82
  go_wp2_with fail
  exact ret_two rfl rfl rfl rfl ⟨by rw [HE.out]; rfl, Ext.refl _⟩
 ·by_cases h2 : ((44032 ≤ a ∧ a ≤ 55203) ∧ (a - 44032) % 28 = 0) ∧ 4519 < b ∧ b ≤ 4546
  ·have hj : jnT a b = some (a + b - 4519) := by unfold jnT; rw [if_neg h1, if_pos h2]
   rw [hj]
   obtain ⟨⟨⟨a1, a2⟩, a3⟩, b1, b2⟩ := h2
   have n1 : (4352 : Int) ≤ a := by omega
   have n2 : ¬ a ≤ 4370 := by omega
   have n3 : (4520 : Int) ≤ b := by omega
   have e0 := decide_eq_false n2
   have e1 := decide_eq_true a2
   have e2 : ((a - 44032) % 28 == 0) = true := by rw [a3]; rfl
   have e3 := decide_eq_true n3
   have e4 := decide_eq_true b2
   clear hj HC HFX h1 a3
   go_enter Tryz.func82, Tryz.ntmps82
   go_wp2_with fail
   exact ret_two rfl rfl rfl rfl ⟨rfl, Ext.refl _⟩
  ·have hj : jnT a b = jnL a b := by unfold jnT; rw [if_neg h1, if_neg h2]
   rw [hj, ← HJ.out]
   clear hj
   have hcs : (4352 ≤ a ∧ a ≤ 4370 ∧ ¬ 44032 ≤ a ∧ decide (a ≤ 4370) = true ∧ 4449 ≤ b ∧ ¬ b ≤ 4469 ∧ decide (4449 ≤ b) = true ∧ decide (b ≤ 4469) = false) ∨
     (4352 ≤ a ∧ a ≤ 4370 ∧ ¬ 44032 ≤ a ∧ decide (a ≤ 4370) = true ∧ ¬ 4449 ≤ b ∧ decide (4449 ≤ b) = false) ∨
     (4352 ≤ a ∧ ¬ a ≤ 4370 ∧ decide (a ≤ 4370) = false ∧ 44032 ≤ a ∧ a ≤ 55203 ∧ decide (a ≤ 55203) = true ∧ ((a - 44032) % 28 == 0) = true ∧ 4520 ≤ b ∧ ¬ b ≤ 4546 ∧ decide (4520 ≤ b) = true ∧ decide (b ≤ 4546) = false) ∨
     (4352 ≤ a ∧ ¬ a ≤ 4370 ∧ decide (a ≤ 4370) = false ∧ 44032 ≤ a ∧ a ≤ 55203 ∧ decide (a ≤ 55203) = true ∧ ((a - 44032) % 28 == 0) = true ∧ ¬ 4520 ≤ b ∧ decide (4520 ≤ b) = false) ∨
     (4352 ≤ a ∧ ¬ a ≤ 4370 ∧ decide (a ≤ 4370) = false ∧ 44032 ≤ a ∧ a ≤ 55203 ∧ decide (a ≤ 55203) = true ∧ ((a - 44032) % 28 == 0) = false) ∨
     (4352 ≤ a ∧ ¬ a ≤ 4370 ∧ decide (a ≤ 4370) = false ∧ 44032 ≤ a ∧ ¬ a ≤ 55203 ∧ decide (a ≤ 55203) = false) ∨
     (4352 ≤ a ∧ ¬ a ≤ 4370 ∧ decide (a ≤ 4370) = false ∧ ¬ 44032 ≤ a) ∨ (¬ 4352 ≤ a ∧ ¬ 44032 ≤ a) := by
    by_cases c1 : 4352 ≤ a
    ·by_cases c2 : a ≤ 4370
     ·have c5 : ¬ 44032 ≤ a := by omega
      have e2 := decide_eq_true c2
      by_cases c3 : 4449 ≤ b
      ·have c4 : ¬ b ≤ 4469 := by omega
       exact .inl ⟨c1, c2, c5, e2, c3, c4, decide_eq_true c3, decide_eq_false c4⟩
      ·exact .inr (.inl ⟨c1, c2, c5, e2, c3, decide_eq_false c3⟩)
     ·have e2 := decide_eq_false c2
      by_cases c5 : 44032 ≤ a
      ·by_cases c6 : a ≤ 55203
       ·have e6 := decide_eq_true c6
        by_cases c7 : (a - 44032) % 28 = 0
        ·have e7 : ((a - 44032) % 28 == 0) = true := by rw [c7]; rfl
         by_cases c8 : 4520 ≤ b
         ·have c9 : ¬ b ≤ 4546 := by omega
          exact .inr (.inr (.inl ⟨c1, c2, e2, c5, c6, e6, e7, c8, c9, decide_eq_true c8, decide_eq_false c9⟩))
         ·exact .inr (.inr (.inr (.inl ⟨c1, c2, e2, c5, c6, e6, e7, c8, decide_eq_false c8⟩)))
        ·exact .inr (.inr (.inr (.inr (.inl ⟨c1, c2, e2, c5, c6, e6, beq_false_of_ne c7⟩))))
       ·exact .inr (.inr (.inr (.inr (.inr (.inl ⟨c1, c2, e2, c5, c6, decide_eq_false c6⟩)))))
      ·exact .inr (.inr (.inr (.inr (.inr (.inr (.inl ⟨c1, c2, e2, c5⟩))))))
    ·exact .inr (.inr (.inr (.inr (.inr (.inr (.inr ⟨c1, by omega⟩))))))
   rcases hcs with ⟨c1, c2, c5, e2, c3, c4, e3, e4⟩ | ⟨c1, c2, c5, e2, c3, e3⟩ | ⟨c1, c2, e2, c5, c6, e6, e7, c8, c9, e8, e9⟩ | ⟨c1, c2, e2, c5, c6, e6, e7, c8, e8⟩ | ⟨c1, c2, e2, c5, c6, e6, e7⟩ | ⟨c1, c2, e2, c5, c6, e6⟩ | ⟨c1, c2, e2, c5⟩ | ⟨c1, c5⟩
   iterate 8
    ·clear h1 h2
     go_enter Tryz.func82, Tryz.ntmps82
     go_wp2_with fail
     go_loopw [8] (fun iv W => ∃ i : Nat, iv = .int .i64 (i : Nat) ∧ i ≤ L.length ∧ Hid (jnR X L a b = jnR X (L.drop i) a b) ∧ Ext w W) (fun iv _ => L.length + 1 - (intOf iv).toNat)
     case atStart => exact ⟨0, rfl, by omega, Lib.hid rfl, Ext.refl _⟩
     case round =>
      obtain ⟨i, rfl, hi, HG, hx⟩ := hrel
      have z0 := hx.cell y0
      have z2 := hx.cell y2
      by_cases hlt : i < L.length
      ·have hd : decide (i < L.length) = true := decide_eq_true hlt
       have hI : ((i : Nat) : Int) < (L.length : Nat) := by omega
       obtain ⟨bb, rfl, hcell⟩ := HC.out (by intro e; subst e; simp at hlt)
       obtain ⟨x, k1, k2, k3⟩ := hcell i hlt
       replace k1 := hx.cell k1
       replace k2 := hx.cell k2
       replace k3 := k3.mono hx
       have hg := HG.out
       rw [jnR_drop hlt] at hg
       obtain ⟨n, hn⟩ : ∃ n : Nat, L[i].headD 0 = n := ⟨_, rfl⟩
       obtain ⟨T, hT⟩ : ∃ T, L[i].tail = T := ⟨_, rfl⟩
       rw [hn] at k1
       rw [hn, hT] at hg
       rw [hT] at k3
       obtain ⟨qq, cc, rfl, k4⟩ := k3
       clear hcell hn hT
       by_cases hl2 : T.length = 2
       ·obtain ⟨u, v, rfl⟩ : ∃ u v : Nat, T = [u, v] := by
         match T, hl2 with
         | [u, v], _ => exact ⟨u, v, rfl⟩
        obtain ⟨g, rfl, k5⟩ := k4 (by simp)
        have hxO := (Ext.refl wr).alloc (.cells #[.int .i32 (n : Nat), .slice (some ⟨g, 1, none⟩) 2 cc] 123)
        have m0 := hxO.cell (k5 0 (by simp))
        have m1 := hxO.cell (k5 1 (by simp))
        have HXO := Lib.hid (hx.trans hxO)
        simp only [List.length_cons, List.length_nil, Nat.zero_add, Nat.add_zero, List.getElem_cons_zero, List.getElem_cons_succ, Nat.reduceAdd, up, List.map_cons, List.map_nil, List.cons.injEq, and_true] at hg m0 m1 k2
        clear k4 k5 hl2 hxO
        by_cases hu : ((u : Nat) : Int) = a
        ·have eu : (((u : Nat) : Int) == a) = true := by rw [hu]; simp
         by_cases hv : ((v : Nat) : Int) = b
         ·have ev : (((v : Nat) : Int) == b) = true := by rw [hv]; simp
          cases ho : lookL X ((n : Nat) : Int) with
          | none =>
           rw [if_pos ⟨⟨hu, hv⟩, ho⟩] at hg
           have HG2 := Lib.hid hg
           have HO := Lib.hid ho
           clear hg HG hu hv ho
           go_wp2_with fail
           have hbO := World.alloc_heap_new wr (.cells #[.int .i32 (n : Nat), .slice (some ⟨g, 1, none⟩) 2 cc] 123)
           have hxO := (Ext.refl wr).alloc (.cells #[.int .i32 (n : Nat), .slice (some ⟨g, 1, none⟩) 2 cc] 123)
           generalize wr.alloc (.cells #[.int .i32 (n : Nat), .slice (some ⟨g, 1, none⟩) 2 cc] 123) = wO at hbO hxO HXO ⊢
           generalize wr.heap.size = xB at hbO ⊢
           have d2 : ∀ w', EOn (fun _ => True) wO w' → w'.cell? ⟨tB, 2, none⟩ = some (.slice pX X.length cX) := fun w' hx' => hx'.cell trivial (hxO.cell z2)
           have dx : ∀ w', EOn (fun _ => True) wO w' → w'.cell? ⟨xB, 0, none⟩ = some (.int .i32 (n : Nat)) := fun w' hx' => hx'.cell trivial ((cell_blk hbO 0).trans rfl)
           have HBO := Lib.hid hbO
           clear hbO hxO
           refine wp_lex (fun _ => True) [true, true, true, true, true, true, false, true, true, true, true, true] (by kernel_rfl) (by kernel_rfl) ?_
           repeat first
            | refine wpG_move' ?_
            | refine wpG_assign' ?_
            | refine wpG_val' ?_
            | refine wpG_no' ?_
           clear d2 dx
           refine wpG_do (by rfl) (fun w8 hx8 K hK => ?_)
           go_wp2_with fail
           refine (HFX.out _ _ (HXO.out.trans hx8)).mono ?_
           rintro e w9 ⟨x, rfl, hrd, e9⟩
           obtain rfl := e9.symm
           clear e9
           obtain ⟨q3, c3, rfl, -⟩ := hrd
           rw [HO.out]
           refine hK _ _ ⟨EOn.refl _ _, ?_⟩
           clear hK
           repeat first
            | refine wpG_move' ?_
            | refine wpG_assign' ?_
            | refine wpG_val' ?_
            | refine wpG_no' ?_
           refine wpG_end (fun w10 hx10 => ?_)
           have HX9 := Lib.hid (HXO.out.trans (hx8.trans hx10))
           have ex := (hx8.trans hx10).cell ((cell_blk HBO.out 0).trans rfl)
           clear hx8 hx10
           go_wp2_with fail
           refine gQ_normal ?_
           go_wp2_with fail
           exact ret_two rfl rfl rfl rfl ⟨by rw [HG2.out]; rfl, HX9.out⟩
          | some z =>
           rw [if_neg (fun h => by rw [ho] at h; cases h.2)] at hg
           have HG2 := Lib.hid hg
           have HO := Lib.hid ho
           clear hg HG hu hv ho
           go_wp2_with fail
           have hbO := World.alloc_heap_new wr (.cells #[.int .i32 (n : Nat), .slice (some ⟨g, 1, none⟩) 2 cc] 123)
           have hxO := (Ext.refl wr).alloc (.cells #[.int .i32 (n : Nat), .slice (some ⟨g, 1, none⟩) 2 cc] 123)
           generalize wr.alloc (.cells #[.int .i32 (n : Nat), .slice (some ⟨g, 1, none⟩) 2 cc] 123) = wO at hbO hxO HXO ⊢
           generalize wr.heap.size = xB at hbO ⊢
           have d2 : ∀ w', EOn (fun _ => True) wO w' → w'.cell? ⟨tB, 2, none⟩ = some (.slice pX X.length cX) := fun w' hx' => hx'.cell trivial (hxO.cell z2)
           have dx : ∀ w', EOn (fun _ => True) wO w' → w'.cell? ⟨xB, 0, none⟩ = some (.int .i32 (n : Nat)) := fun w' hx' => hx'.cell trivial ((cell_blk hbO 0).trans rfl)
           have HBO := Lib.hid hbO
           clear hbO hxO
           refine wp_lex (fun _ => True) [true, true, true, true, true, true, false, true, true, true, true, true] (by kernel_rfl) (by kernel_rfl) ?_
           repeat first
            | refine wpG_move' ?_
            | refine wpG_assign' ?_
            | refine wpG_val' ?_
            | refine wpG_no' ?_
           clear d2 dx
           refine wpG_do (by rfl) (fun w8 hx8 K hK => ?_)
           go_wp2_with fail
           refine (HFX.out _ _ (HXO.out.trans hx8)).mono ?_
           rintro e w9 ⟨x, rfl, hrd, e9⟩
           obtain rfl := e9.symm
           clear e9
           obtain ⟨q3, c3, rfl, -⟩ := hrd
           rw [HO.out]
           refine hK _ _ ⟨EOn.refl _ _, ?_⟩
           clear hK
           repeat first
            | refine wpG_move' ?_
            | refine wpG_assign' ?_
            | refine wpG_val' ?_
            | refine wpG_no' ?_
           refine wpG_end (fun w10 hx10 => ?_)
           have HX9 := Lib.hid (HXO.out.trans (hx8.trans hx10))
           have ex := (hx8.trans hx10).cell ((cell_blk HBO.out 0).trans rfl)
           clear hx8 hx10
           go_wp2_with fail
           refine gQ_normal ?_
           go_wp2_with fail
           exact ⟨⟨i + 1, by simp, by omega, HG2, HX9.out⟩, by simp [intOf]; omega⟩
         ·have ev : (((v : Nat) : Int) == b) = false := beq_false_of_ne hv
          rw [if_neg (fun h => hv h.1.2)] at hg
          clear hu hv
          have HG2 := Lib.hid hg
          clear hg HG
          go_wp2_with fail
          exact ⟨⟨i + 1, by simp, by omega, HG2, HXO.out⟩, by simp [intOf]; omega⟩
        ·have eu : (((u : Nat) : Int) == a) = false := beq_false_of_ne hu
         rw [if_neg (fun h => hu h.1.1)] at hg
         clear hu
         have HG2 := Lib.hid hg
         clear hg HG
         go_wp2_with fail
         exact ⟨⟨i + 1, by simp, by omega, HG2, HXO.out⟩, by simp [intOf]; omega⟩
       ·have HXO := Lib.hid (hx.trans ((Ext.refl wr).alloc (.cells #[.int .i32 (n : Nat), .slice qq T.length cc] 123)))
        have el2 : (((T.length : Nat) : Int) == 2) = false := beq_false_of_ne (by omega)
        rw [if_neg (fun h => hl2 (by have := congrArg List.length h.1; simpa [up] using this))] at hg
        clear k4 hl2
        have HG2 := Lib.hid hg
        clear hg HG
        go_wp2_with fail
        exact ⟨⟨i + 1, by simp, by omega, HG2, HXO.out⟩, by simp [intOf]; omega⟩
      ·have hd : decide (i < L.length) = false := decide_eq_false hlt
       have hI : ¬ ((i : Nat) : Int) < (L.length : Nat) := by omega
       have hg := HG.out
       rw [List.drop_eq_nil_of_le (by omega), jnR] at hg
       have HG2 := Lib.hid hg
       clear hg HG
       go_wp2_with fail
       exact ret_two rfl rfl rfl rfl ⟨by rw [HG2.out]; rfl, hx⟩
end Go.Proofs.YtokeamebcdhnpaaGreatDoor
